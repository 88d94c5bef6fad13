/- WrapKnown's run. -/
import Derived.Test.YtfcfdedbbhdioaaWrapK0
namespace Go.Proofs.Ytfcfdedbbhdioaa.AI
open Go
set_option linter.unusedVariables false
set_option maxRecDepth 100000

noncomputable def prim1 (f : FuncId) (a : List AV) (rows : List Row) : Option CRes := match f, a with
  | 25, [] => some (.ret (.c (.bool true)) rows)
  | _, _ => none

noncomputable def C1 : Cfg := { C0 with prim := prim1 }

theorem wrap_awake (rows : List Row) : CallOK Try.prog [] 25 [] rows (.ret (.c (.bool true)) rows) := call_beside (call_holds ((run_sound C0_ok 3000).2 25 [] [] _ wrap_awake_run)) rfl rfl rows

theorem C1_ok : CfgOK Try.prog [] C1 := by
  refine ⟨rfl, C0_ok.hm, C0_ok.fn, fun f args rows r h => ?_⟩
  change prim1 f args rows = some r at h
  unfold prim1 at h
  split at h
  · injection h with h
    subst h
    exact wrap_awake rows
  · cases h

theorem wrap_known_run : runCall C1 3000 7 [] [] = .ok (.ret (.c (.bool true)) []) := by kernel_rfl

end Go.Proofs.Ytfcfdedbbhdioaa.AI
