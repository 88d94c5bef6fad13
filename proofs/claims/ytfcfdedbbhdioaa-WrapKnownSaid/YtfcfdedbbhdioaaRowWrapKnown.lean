/-
WrapKnown returns true: its closed run, by the kernel, over a proved interpreter of abstract values. No conditions.
-/
import Derived.Test.YtfcfdedbbhdioaaWrapK1
import Derived.Test.YtfcfdedbbhdioaaLawRow
namespace Go.Proofs.Ytfcfdedbbhdioaa.wrapKnown
open Go Go.ChangeShapes Go.WideShapes Go.ChangeAt Go.RowKit Go.Proofs.Ytfcfdedbbhdioaa.AI
set_option linter.unusedVariables false
set_option maxRecDepth 100000

theorem contract (H : Type) (enc : TypeId × Value → H) (W : World) (base : Nat) (args : Array Value) (ds gs : List (DataW H)) (before : List MemPlace)
    (hW : DataW.Whole enc Try.prog Try.f7.params.toList Rows.wrapKnownSpec.vars false W args.toList ds gs before) :
    Calls Try.prog 7 args W fun e W' => ∃ v, e = .returned v ∧ Rows.wrapKnownSpec.post enc Try.prog Try.f7 false true false false W args v W' := by
  have hW' := hW
  obtain ⟨p, q, hA, hV, rfl, hfz, hnd⟩ := hW
  rw [Try.params7] at hA
  obtain ⟨hargs, rfl, rfl⟩ := trodAll_nil hA
  obtain rfl : args = #[] := by cases args; simp_all
  obtain ⟨rfl, rfl⟩ := trodVars_none hV
  have hcall := call_holds ((run_sound C1_ok 3000).2 7 [] [] _ wrap_known_run)
  refine (law_call hcall ⟨rfl, fun j y v hy => by simp at hy⟩ (by simp)).mono fun e W' ⟨he, hs⟩ => ?_
  subst he
  exact ⟨_, rfl, law_post (t := 4) kids slices_full (by rw [Try.params7]; simp) rfl hW' rfl (by kernel_rfl) bool4 hs⟩

theorem lifted (os : Os) (started : os.Started) (H : Type) (enc : TypeId × Value → H) :
    ReturnsInHanded {} Try.checked os 7 .any (Rows.wrapKnownSpec.pre6 enc Try.prog Try.f7 Rows.wrapKnownRow.domain false) (Rows.wrapKnownSpec.post enc Try.prog Try.f7 false true false false) := by
  refine returnsInHanded_of_change_sized (C := Try.checked) own started (by kernel_rfl) Try.func7
    (ChangeSpec.witness6 (enc := enc) (C := Try.checked) false ⟨#[], #[], []⟩ 8 (by kernel_rfl) (by kernel_rfl) (by kernel_rfl) (by kernel_rfl)) ?_
  intro W base args ds gs before hval0 hW _ hsz0 _
  exact contract H enc W base args ds gs before hW

end Go.Proofs.Ytfcfdedbbhdioaa.wrapKnown
namespace Go.Proofs.Ytfcfdedbbhdioaa
open Go wrapKnown
set_option maxRecDepth 100000
theorem wrapKnown_holds : Rows.WrapKnownSaid :=
  OpenClaim.holds_of_wide 7 Try.f7 rfl rfl rfl rfl rfl rfl rfl ⟨rfl, rfl, rfl, rfl, rfl⟩ rfl rfl rfl rfl rfl (by kernel_rfl) Try.func7 (by kernel_rfl)
    (of_decide_eq_true (by kernel_rfl)) (by unfold Func.isWrapper; first | (rw [if_pos (by decide +kernel)]; kernel_rfl) | (rw [if_neg (by decide +kernel)]; exact ⟨rfl, rfl⟩))
    (fun os started H enc _ => lifted os started H enc)
end Go.Proofs.Ytfcfdedbbhdioaa
