/- The configuration of the closed runs of this seat; the run of wrap's awake. -/
import Derived.Test.YtfcfdedbbhdioaaAi25
import Derived.Test.YtfcfdedbbhdioaaProg
namespace Go.Proofs.Ytfcfdedbbhdioaa.AI
open Go
set_option linter.unusedVariables false
set_option maxRecDepth 100000

noncomputable def hints0 (f : Nat) : Hint := match f with
  | 56 => { modes := [(41, 4)] }
  | _ => {}

def bad0 : List Nat := [4, 10]

noncomputable def C0 : Cfg := { P := Try.prog, fn := cgTab Try.prog hints0 3 174 bad0, prim := fun _ _ _ => none, keep := fun f => Nat.beq f 62 || Nat.beq f 111 }

theorem fns_ok : ((List.range 172).all fun i => bad0.contains (3 + i) || match cgFn Try.prog (hints0 (3 + i)) (3 + i) with | some a => goodFn Try.prog (3 + i) a | none => true) = true := by kernel_rfl

theorem C0_ok : CfgOK Try.prog [] C0 :=
  ⟨rfl, by kernel_rfl, fun f afn h => cgTab_ok (lo := 3) (n := 172) fns_ok f afn h (by decide), fun f args rows r h => by cases h⟩

theorem wrap_awake_run : runCall C0 3000 25 [] [] = .ok (.ret (.c (.bool true)) []) := by kernel_rfl

end Go.Proofs.Ytfcfdedbbhdioaa.AI
