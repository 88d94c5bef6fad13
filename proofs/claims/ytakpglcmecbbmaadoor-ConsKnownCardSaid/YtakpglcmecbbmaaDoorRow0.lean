/- What the rows of this seat list: the table of math/bits; a world for the witness. -/
import Derived.Test.YtakpglcmecbbmaaDoorKnown0
import Derived.Test.YtakpglcmecbbmaaDoorCards
import Derived.Test.YtakpglcmecbbmaaDoorTie
import Derived.WalkKit
import Derived.ProofKit
import Derived.OpenShut
import Derived.Deep.DeepHandedRow
import Derived.Lib.LaidTab
namespace Go.Proofs.YtakpglcmecbbmaaDoor.AI
open Go Go.RowKit
set_option linter.unusedVariables false
set_option maxRecDepth 100000

theorem own : ownKnob Tryd.prog.godebug = none := by kernel_rfl
theorem gTab : Tryd.prog.globalNamed "math/bits.deBruijn64tab" = some 0 := by kernel_rfl
theorem gTabType : (Tryd.prog.globals[0]?).map (·.type) = some 85 := by kernel_rfl
theorem under85 : Tryd.prog.underlying 85 = some (.array 64 5) := by kernel_rfl
theorem under5 : Tryd.prog.underlying 5 = some (.int .u8) := by kernel_rfl
theorem cells85 : Tryd.prog.cellsOf 85 = 64 := by kernel_rfl
theorem cells5 : Tryd.prog.cellsOf 5 = 1 := by kernel_rfl

def tabInts : List Int := Lib.deBruijn64tab.map Int.ofNat

def laid1 : List (String × DataW Unit) := [("math/bits.deBruijn64tab", Rows.laid_math_bits_deBruijn64tab)]

theorem table {W : World} (h : laidMetH Tryd.prog laid1 W) : Lib.TabIs Tryd.prog W "math/bits.deBruijn64tab" .u8 tabInts :=
  Lib.tabIs_of_head (rest := []) gTab gTabType under85 under5 cells5 cells85 h

/-- The table's block. -/
theorem table_obj {W : World} (h : laidMetH Tryd.prog laid1 W) : ∃ o, W.heap[0]? = some o ∧ TabO o := by
  have hc : ∀ j, j < 64 → W.cell? ⟨0, j, none⟩ = some (.int .u8 (tabInts.getD j 0)) := fun j hj => (table h).cell gTab j (by rw [tabInts, List.length_map]; exact hj)
  cases ho : W.heap[0]? with
  | none =>
    have := hc 0 (by omega)
    simp only [World.cell?, ho] at this
    cases this
  | some o =>
    refine ⟨o, rfl, fun w hw j hj => ?_⟩
    have hj' : j < 64 := hj
    have := hc j hj'
    simp only [World.cell?, ho] at this
    simp only [World.cell?, hw]
    rw [this]
    have e : tabInts.getD j 0 = ((Lib.deBruijn64tab.getD j 0 : Nat) : Int) := by
      simp only [tabInts, List.getD, List.getElem?_map]
      cases Lib.deBruijn64tab[j]? <;> rfl
    rw [e]

noncomputable def laidWorld (os : Os) : World :=
  { World.holding Tryd.prog os ⟨#[], #[], []⟩ with heap := (World.holding Tryd.prog os ⟨#[], #[], []⟩).heap.modify 0 fun
      | .cells _ t frozen => .cells (tabInts.map fun z => Value.int .u8 z).toArray t frozen
      | o => o }

theorem kids : Kids Tryd.prog (· < Tryd.prog.types.size) := kids_rows (by kernel_rfl) (by kernel_rfl)
theorem slices_full : ∀ t e, t < Tryd.prog.types.size → Tryd.prog.underlying t = some (.slice e) → 0 < Tryd.prog.cellsOf e := slices_full_of Tryd.prog (by kernel_rfl)
theorem bool4 : Tryd.prog.underlying 4 = some .bool := by kernel_rfl

end Go.Proofs.YtakpglcmecbbmaaDoor.AI
