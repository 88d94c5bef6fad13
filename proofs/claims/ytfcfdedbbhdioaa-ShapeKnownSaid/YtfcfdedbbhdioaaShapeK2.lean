/- The words that the chapter's machine of other schemes takes, or not. -/
import Derived.Test.YtfcfdedbbhdioaaShapeK1
namespace Go.Proofs.Ytfcfdedbbhdioaa.AI
open Go
set_option linter.unusedVariables false
set_option maxRecDepth 100000

/-- Does a call give a truth value, and just that? -/
noncomputable def givesB (C : Cfg) (f : FuncId) (args : List AV) (b : Bool) : Bool := match runCall C 3000 f args [] with
  | .ok (.ret (.c (.bool b')) []) => b' == b
  | _ => false

theorem givesB_run {C : Cfg} {f : FuncId} {args : List AV} {b : Bool} (h : givesB C f args b = true) : runCall C 3000 f args [] = .ok (.ret (.c (.bool b)) []) := by
  unfold givesB at h
  split at h
  · rename_i b' he
    rw [he, eq_of_beq h]
  · cases h

noncomputable def goodW : List (List UInt8) := [[97], [97, 98, 99], [104, 116, 116, 112, 120], [104, 116], [120, 43, 45, 46, 57]]
noncomputable def badW : List (List UInt8) := [[65, 66], [104, 116, 116, 112], [72, 84, 84, 80], [49, 97], [], [97, 32, 98], [43, 97]]

noncomputable def runsB (l : List (List UInt8)) (b : Bool) : Bool := match l with
  | [] => true
  | w :: l => givesB CS0 33 [othersM, .c (.string ⟨⟨w⟩⟩)] b && runsB l b

theorem runsB_ok {b : Bool} : ∀ {l : List (List UInt8)}, runsB l b = true → ∀ w ∈ l, ∀ rows : List Row, CallOK Try.prog [] 33 [othersM, .c (.string ⟨⟨w⟩⟩)] rows (.ret (.c (.bool b)) rows)
  | [], _, w, hw => by cases hw
  | v :: l, h, w, hw => by
    simp only [runsB, Bool.and_eq_true] at h
    intro rows
    rcases List.mem_cons.1 hw with rfl | hw
    · exact call_beside (call_holds ((run_sound CS0_ok 3000).2 33 _ [] _ (givesB_run h.1))) rfl rfl rows
    · exact runsB_ok h.2 w hw rows

theorem good_run : runsB goodW true = true := by kernel_rfl
theorem bad_run : runsB badW false = true := by kernel_rfl

noncomputable def memB (w : List UInt8) : List (List UInt8) → Bool
  | [] => false
  | v :: l => match decide (w = v) with | true => true | false => memB w l

theorem memB_mem {w : List UInt8} : ∀ {l : List (List UInt8)}, memB w l = true → w ∈ l
  | [], h => by cases h
  | v :: l, h => by
    simp only [memB] at h
    split at h
    · rename_i hd; rw [of_decide_eq_true hd]; exact List.mem_cons_self
    · exact List.mem_cons_of_mem _ (memB_mem h)

end Go.Proofs.Ytfcfdedbbhdioaa.AI
