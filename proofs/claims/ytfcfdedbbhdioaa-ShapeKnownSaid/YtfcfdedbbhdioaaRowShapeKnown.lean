/-
ShapeKnown returns true: its closed run, by the kernel, over a proved interpreter of abstract values. No conditions.
-/
import Derived.Test.YtfcfdedbbhdioaaShapeK3
import Derived.Test.YtfcfdedbbhdioaaLawRow
namespace Go.Proofs.Ytfcfdedbbhdioaa.shapeKnown
open Go Go.ChangeShapes Go.WideShapes Go.ChangeAt Go.RowKit Go.Proofs.Ytfcfdedbbhdioaa.AI
set_option linter.unusedVariables false
set_option maxRecDepth 100000

theorem contract (H : Type) (enc : TypeId × Value → H) (W : World) (base : Nat) (args : Array Value) (ds gs : List (DataW H)) (before : List MemPlace)
    (hW : DataW.Whole enc Try.prog Try.f8.params.toList Rows.shapeKnownSpec.vars false W args.toList ds gs before) :
    Calls Try.prog 8 args W fun e W' => ∃ v, e = .returned v ∧ Rows.shapeKnownSpec.post enc Try.prog Try.f8 false true false false W args v W' := by
  have hW' := hW
  obtain ⟨p, q, hA, hV, rfl, hfz, hnd⟩ := hW
  rw [Try.params8] at hA
  obtain ⟨hargs, rfl, rfl⟩ := trodAll_nil hA
  obtain rfl : args = #[] := by cases args; simp_all
  obtain ⟨rfl, rfl⟩ := trodVars_none hV
  have hcall := call_holds ((run_sound CS1_ok 3000).2 8 [] [] _ shape_known_run)
  refine (law_call hcall ⟨rfl, fun j y v hy => by simp at hy⟩ (by simp)).mono fun e W' ⟨he, hs⟩ => ?_
  subst he
  exact ⟨_, rfl, law_post (t := 4) kids slices_full (by rw [Try.params8]; simp) rfl hW' rfl (by kernel_rfl) bool4 hs⟩

theorem lifted (os : Os) (started : os.Started) (H : Type) (enc : TypeId × Value → H) :
    ReturnsInHanded {} Try.checked os 8 .any (Rows.shapeKnownSpec.pre6 enc Try.prog Try.f8 Rows.shapeKnownRow.domain false) (Rows.shapeKnownSpec.post enc Try.prog Try.f8 false true false false) := by
  refine returnsInHanded_of_change_sized (C := Try.checked) own started (by kernel_rfl) Try.func8
    (ChangeSpec.witness6 (enc := enc) (C := Try.checked) false ⟨#[], #[], []⟩ 8 (by kernel_rfl) (by kernel_rfl) (by kernel_rfl) (by kernel_rfl)) ?_
  intro W base args ds gs before hval0 hW _ hsz0 _
  exact contract H enc W base args ds gs before hW

end Go.Proofs.Ytfcfdedbbhdioaa.shapeKnown
namespace Go.Proofs.Ytfcfdedbbhdioaa
open Go shapeKnown
set_option maxRecDepth 100000
theorem shapeKnown_holds : Rows.ShapeKnownSaid :=
  OpenClaim.holds_of_wide 8 Try.f8 rfl rfl rfl rfl rfl rfl rfl ⟨rfl, rfl, rfl, rfl, rfl⟩ rfl rfl rfl rfl rfl (by kernel_rfl) Try.func8 (by kernel_rfl)
    (of_decide_eq_true (by kernel_rfl)) (by unfold Func.isWrapper; first | (rw [if_pos (by decide +kernel)]; kernel_rfl) | (rw [if_neg (by decide +kernel)]; exact ⟨rfl, rfl⟩))
    (fun os started H enc _ => lifted os started H enc)
end Go.Proofs.Ytfcfdedbbhdioaa
