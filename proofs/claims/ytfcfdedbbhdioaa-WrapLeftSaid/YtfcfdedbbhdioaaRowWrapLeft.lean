/-
WrapLeft returns true, whatever the input: the law's code, and that of what it calls, run over abstract values that stand for all inputs; then plain lists. No conditions.
-/
import Derived.Test.YtfcfdedbbhdioaaWL4
import Derived.Test.YtfcfdedbbhdioaaLawRow
namespace Go.Proofs.Ytfcfdedbbhdioaa.wrapLeft
open Go Go.ChangeShapes Go.WideShapes Go.ChangeAt Go.RowKit Go.Proofs.Ytfcfdedbbhdioaa.AI
set_option linter.unusedVariables false
set_option maxRecDepth 100000

theorem contract (H : Type) (enc : TypeId × Value → H) (W : World) (base : Nat) (args : Array Value) (ds gs : List (DataW H)) (before : List MemPlace)
    (hval : ∀ (j : Nat) t v, Try.f5.params[j]? = some t → args[j]? = some v → Value.okWide Try.prog W .any base t v)
    (hW : DataW.Whole enc Try.prog Try.f5.params.toList Rows.wrapLeftSpec.vars false W args.toList ds gs before)
    (hwt : (DataW.weightsEach Try.prog (Try.f5.params.toList ++ Rows.wrapLeftSpec.plain.varTypes Try.prog) (ds ++ gs)).all (· ≤ reachBytes) = true) :
    Calls Try.prog 5 args W fun e W' => ∃ v, e = .returned v ∧ Rows.wrapLeftSpec.post enc Try.prog Try.f5 false true false false W args v W' := by
  have hW' := hW
  obtain ⟨p, q, hA, hV, rfl, hfz, hnd⟩ := hW
  rw [Try.params5] at hA hval
  obtain ⟨v0, v1, v2, v3, d0, d1, d2, d3, p0, p1, p2, p3, rfl, rfl, rfl, h0, h1, h2, h3⟩ := trodAll_four hA
  obtain ⟨l, hl, a0⟩ := arg_text (hval 0 9 v0 rfl rfl) h0
  obtain ⟨L, hL, a1⟩ := arg_set (hval 1 37 v1 rfl rfl) h1
  obtain ⟨R, hR, a2⟩ := arg_set (hval 2 37 v2 rfl rfl) h2
  obtain ⟨D, hD, a3⟩ := arg_set (hval 3 37 v3 rfl rfl) h3
  have hvs : VRs W (oldR W) unbornL [strA l, setA L, setA R, setA D] #[v0, v1, v2, v3] := by
    refine ⟨rfl, fun j y v hy hv => ?_⟩
    rcases j with _ | _ | _ | _ | j
    · cases hy; cases hv; exact a0
    · cases hy; cases hv; exact a1
    · cases hy; cases hv; exact a2
    · cases hy; cases hv; exact a3
    · simp at hy
  obtain ⟨rfl, rfl⟩ := trodVars_none hV
  refine (law_call (call_holds (wrapLeft_ok hL hR hD l)) hvs (by simp)).mono fun e W' ⟨he, hs⟩ => ?_
  subst he
  exact ⟨_, rfl, law_post (t := 4) kids slices_full (by rw [Try.params5]; decide +kernel) rfl hW' rfl (by kernel_rfl) bool4 hs⟩

theorem lifted (os : Os) (started : os.Started) (H : Type) (enc : TypeId × Value → H) :
    ReturnsInHanded {} Try.checked os 5 .any (Rows.wrapLeftSpec.pre6 enc Try.prog Try.f5 Rows.wrapLeftRow.domain false) (Rows.wrapLeftSpec.post enc Try.prog Try.f5 false true false false) := by
  refine returnsInHanded_of_change_sized (C := Try.checked) own started (by kernel_rfl) Try.func5
    (ChangeSpec.witness6 (enc := enc) (C := Try.checked) false ⟨#[], #[.string ⟨#[]⟩, .agg #[.int .u64 0, .int .u64 0, .int .u64 0, .int .u64 0], .agg #[.int .u64 0, .int .u64 0, .int .u64 0, .int .u64 0], .agg #[.int .u64 0, .int .u64 0, .int .u64 0, .int .u64 0]], []⟩ 8 (by kernel_rfl) (by kernel_rfl) (by kernel_rfl) (by kernel_rfl)) ?_
  intro W base args ds gs before hval0 hW _ hsz0 _
  exact contract H enc W base args ds gs before hval0 hW hsz0

end Go.Proofs.Ytfcfdedbbhdioaa.wrapLeft
namespace Go.Proofs.Ytfcfdedbbhdioaa
open Go wrapLeft
set_option maxRecDepth 100000
theorem wrapLeft_holds : Rows.WrapLeftSaid :=
  OpenClaim.holds_of_wide 5 Try.f5 rfl rfl rfl rfl rfl rfl rfl ⟨rfl, rfl, rfl, rfl, rfl⟩ rfl rfl rfl rfl rfl (by kernel_rfl) Try.func5 (by kernel_rfl)
    (of_decide_eq_true (by kernel_rfl)) (by unfold Func.isWrapper; first | (rw [if_pos (by decide +kernel)]; kernel_rfl) | (rw [if_neg (by decide +kernel)]; exact ⟨rfl, rfl⟩))
    (fun os started H enc _ => lifted os started H enc)
end Go.Proofs.Ytfcfdedbbhdioaa
