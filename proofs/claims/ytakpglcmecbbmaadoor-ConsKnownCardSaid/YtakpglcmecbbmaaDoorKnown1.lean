/- ConsKnown's run. -/
import Derived.Test.YtakpglcmecbbmaaDoorKnown0
namespace Go.Proofs.YtakpglcmecbbmaaDoor.AI
open Go Go.RowKit
set_option linter.unusedVariables false
set_option maxRecDepth 100000

noncomputable def prim1 (f : FuncId) (a : List AV) : Option AV := match f, a with
  | 17, [] => some (.c (.bool true))
  | 25, [.agg [.ints .u64 4 [18446744073709551615, 18446744073709551615, 18446744073709551615, 18446744073709551615]]] => some allList
  | _, _ => prim0 f a

noncomputable def C1 : Cfg := { P := Tryd.prog, fn := cgTab Tryd.prog {} 3 68, prim := prim1, keep := fun f => f == 29 }

theorem C1_ok {o : Obj} (ho : TabO o) : CfgOK Tryd.prog [(0, o)] C1 := by
  refine ⟨rfl, (C0_ok ho).hm, (C0_ok ho).fn, fun f args r h rows => ?_⟩
  change prim1 f args = some r at h
  unfold prim1 at h
  split at h
  · injection h with h
    subst h
    exact call_beside (call_holds ((run_sound (C0_ok ho) 3000).2 17 [] [] _ awake_run)) rfl rfl rows
  · injection h with h
    subst h
    exact call_beside (call_holds ((run_sound (C0_ok ho) 3000).2 25 [allSet] [] _ list_run)) rfl rfl rows
  · exact prim0_ok ho f args r h rows

theorem known_run : runCall C1 3000 3 [] [] = .ok (.ret (.c (.bool true)) []) := by kernel_rfl

end Go.Proofs.YtakpglcmecbbmaaDoor.AI
