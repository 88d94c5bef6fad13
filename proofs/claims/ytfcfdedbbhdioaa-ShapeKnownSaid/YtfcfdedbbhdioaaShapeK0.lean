/- The runs of shape's awake, and of ShapeKnown. -/
import Derived.Test.YtfcfdedbbhdioaaWrapK0
import Derived.Test.YtfcfdedbbhdioaaAiS6
namespace Go.Proofs.Ytfcfdedbbhdioaa.AI
open Go
set_option linter.unusedVariables false
set_option maxRecDepth 100000

noncomputable def primSb (f : FuncId) (a : List AV) (rows : List Row) : Option CRes := match f, a with
  | 62, [y] => cloneRes 3 1 8 rows y
  | 106, [y] => cloneRes 54 5 40 rows y
  | 107, [y] => cloneRes 4 1 1 rows y
  | _, _ => none

theorem cloneI_fn : FnOK Try.prog 62 (cloneFn 3 1 8) := cgFn_ok (h := {}) (by kernel_rfl)
theorem cloneS_fn : FnOK Try.prog 106 (cloneFn 54 5 40) := cgFn_ok (h := {}) (by kernel_rfl)
theorem cloneB_fn : FnOK Try.prog 107 (cloneFn 4 1 1) := cgFn_ok (h := {}) (by kernel_rfl)

noncomputable def CSb : Cfg := { C0 with prim := primSb, keep := fun f => Nat.beq f 62 || Nat.beq f 106 || Nat.beq f 107 || Nat.beq f 111 || Nat.beq f 52 || Nat.beq f 60 || Nat.beq f 64 || Nat.beq f 59 || Nat.beq f 66 || Nat.beq f 47 }

theorem primSb_ok (f : FuncId) (args : List AV) (rows : List Row) (r : CRes) (h : primSb f args rows = some r) : CallOK Try.prog [] f args rows r := by
  unfold primSb at h
  split at h
  · exact clone_ok C0_ok.hm cloneI_fn h
  · exact clone_ok C0_ok.hm cloneS_fn h
  · exact clone_ok C0_ok.hm cloneB_fn h
  · cases h

theorem CSb_ok : CfgOK Try.prog [] CSb := ⟨rfl, C0_ok.hm, C0_ok.fn, primSb_ok⟩

noncomputable def lettersA : AV := .agg [.ints .u64 4 [0, 576460743847706622, 0, 0]]
noncomputable def schemesA : AV := .agg [.ints .u64 4 [288063250384289792, 576460743847706622, 0, 0]]

theorem letters_run : runCall CSb 3000 102 [] [] = .ok (.ret lettersA []) := by kernel_rfl
theorem schemes_run : runCall CSb 3000 99 [] [] = .ok (.ret schemesA []) := by kernel_rfl

noncomputable def primS0 (f : FuncId) (a : List AV) (rows : List Row) : Option CRes := match f, a with
  | 102, [] => some (.ret lettersA rows)
  | 99, [] => some (.ret schemesA rows)
  | f, a => primSb f a rows

noncomputable def CS0 : Cfg := { CSb with prim := primS0 }

theorem primS0_ok (f : FuncId) (args : List AV) (rows : List Row) (r : CRes) (h : primS0 f args rows = some r) : CallOK Try.prog [] f args rows r := by
  unfold primS0 at h
  split at h
  · injection h with h
    subst h
    exact call_beside (call_holds ((run_sound CSb_ok 3000).2 102 [] [] _ letters_run)) rfl rfl rows
  · injection h with h
    subst h
    exact call_beside (call_holds ((run_sound CSb_ok 3000).2 99 [] [] _ schemes_run)) rfl rfl rows
  · exact primSb_ok _ _ _ _ h

theorem CS0_ok : CfgOK Try.prog [] CS0 := ⟨rfl, C0_ok.hm, C0_ok.fn, primS0_ok⟩

theorem shape_awake_run : runCall CSb 3000 15 [] [] = .ok (.ret (.c (.bool true)) []) := by kernel_rfl

theorem shape_awake (rows : List Row) : CallOK Try.prog [] 15 [] rows (.ret (.c (.bool true)) rows) := call_beside (call_holds ((run_sound CSb_ok 3000).2 15 [] [] _ shape_awake_run)) rfl rfl rows

end Go.Proofs.Ytfcfdedbbhdioaa.AI
