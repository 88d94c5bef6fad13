/- AI 15: what is handed out of a call; rows left behind. -/
import Derived.Test.YtfcfdedbbhdioaaAi14
namespace Go.Proofs.Ytfcfdedbbhdioaa.AI
noncomputable section
open Go
set_option linter.unusedVariables false
set_option linter.unusedSimpArgs false

section
variable {G : List (Nat × Obj)} {st : St} {r r' : AV}

theorem exports_all : Exports G st r r st.rows := fun w0 R0 L0 a w v hinv => by
  obtain ⟨R, L, hs, hr, hg, h0, hd, hn, hx⟩ := hinv
  exact ⟨R, L, h0, hg, hx (r, v) (by simp), hr⟩

theorem step_sub {w0 w : World} {R0 R : Nat → Prop} {L0 L : Nat → Place} (h0 : Step w0 R0 L0 w R L) {ids : List Nat} {np : Nat} (hnp : ∀ k, k < np → ids[k]? = some k) (hn : ∀ k, np ≤ k → L0 k = .unborn) : Step w0 R0 L0 w R (subL L ids) := by
  refine ⟨⟨h0.frm.os, h0.frm.tape, h0.frm.output, h0.frm.size, h0.frm.block, h0.frm.ro, h0.frm.ro', fun k b hk => ?_⟩, fun k hk => ?_⟩
  · simp only [subL] at hk
    split at hk
    · exact h0.frm.mine _ b hk
    · cases hk
  · have hlt : k < np := by
      rcases Nat.lt_or_ge k np with q | q
      · exact q
      · exact absurd (hn k q) hk
    have : subL L ids k = L k := by simp [subL, hnp k hlt]
    rw [this]
    exact h0.keeps k hk

/-- The first np rows stay where they are. -/
def headOK (np : Nat) (ids : List Nat) : Bool := decide (np ≤ ids.length) && (List.range np).all fun k => ids[k]? == some k

theorem headOK_spec {np : Nat} {ids : List Nat} (h : headOK np ids = true) : ∀ k, k < np → ids[k]? = some k := by
  simp only [headOK, Bool.and_eq_true, List.all_eq_true, List.mem_range, beq_iff_eq] at h
  exact h.2

theorem exports_gc {ids : List Nat} (hi : idsOK st.rows.length ids = true) (hh : headOK st.np ids = true) : Exports G st r (r.ren 6 (posIn ids)) (subRows st.rows ids) := fun w0 R0 L0 a w v hinv => by
  obtain ⟨R, L, hs, hr, hg, h0, hd, hn, hx⟩ := hinv
  exact ⟨R, subL L ids, step_sub h0 (headOK_spec hh) hn, hg, ren_vr _ subL_ren 6 (hx (r, v) (by simp)), sub_rows hr hi⟩

theorem step_unborn {w0 w : World} {R0 R R' : Nat → Prop} {L0 L : Nat → Place} (h0 : Step w0 R0 L0 w R L) (hn : ∀ k, L0 k = .unborn) (h : ∀ b, R b → R' b) (h' : ∀ b, R' b → allR R L b) : Step w0 R0 L0 w R' unbornL :=
  ⟨⟨h0.frm.os, h0.frm.tape, h0.frm.output, h0.frm.size, h0.frm.block, fun b hb => h b (h0.frm.ro b hb), fun b hb => (h' b hb).elim (fun q => h0.frm.ro' b q) (fun ⟨k, hk⟩ => .inr (h0.frm.mine k b hk)), fun k b hk => by cases hk⟩,
    fun k hk => absurd (hn k) hk⟩

theorem exports_frz (hn0 : st.np = 0) (h : frz 8 st.rows r = some r') : Exports G st r r' [] := fun w0 R0 L0 a w v hinv => by
  obtain ⟨R, L, hs, hr, hg, h0, hd, hn, hx⟩ := hinv
  exact ⟨allR R L, unbornL, step_unborn h0 (fun k => hn k (by omega)) (fun b hb => .inl hb) (fun b hb => hb), hg.lent (L := L) true, .fr _ _ (frz_fr hr 8 (hx (r, v) (by simp)) h), unborn_rows hr true⟩

theorem exports_pur (hn0 : st.np = 0) (h : r.pur 6 = true) : Exports G st r r [] := fun w0 R0 L0 a w v hinv => by
  obtain ⟨R, L, hs, hr, hg, h0, hd, hn, hx⟩ := hinv
  exact ⟨R, unbornL, step_unborn h0 (fun k => hn k (by omega)) (fun b hb => hb) (fun b hb => .inl hb), hg, .fr _ _ (pur_fr 6 (hx (r, v) (by simp)) h), unborn_rows hr false⟩

def ridDef (ρ : Nat → Option Nat) (d : FuncId × List AV) : FuncId × List AV := (d.1, d.2.map (AV.ren 6 ρ))

/-- Rows left behind within a call. -/
def St.gc (st : St) (ids : List Nat) : St := { slots := st.slots.map (AV.ren 6 (posIn ids)), rows := subRows st.rows ids, np := st.np, defers := st.defers.map (ridDef (posIn ids)) }

theorem weaker_gc {ids : List Nat} (hi : idsOK st.rows.length ids = true) (hh : headOK st.np ids = true) : Weaker G st (st.gc ids) := by
  intro w0 R0 L0 a w xs hinv
  obtain ⟨R, L, hs, hr, hg, h0, hd, hn, hx⟩ := hinv
  refine ⟨R, subL L ids, ⟨by simpa [St.gc] using hs.1, fun i x v hx hv => ?_⟩, sub_rows hr hi, hg, step_sub h0 (headOK_spec hh) hn, ⟨by simpa [St.gc] using hd.1, fun i d ad hid had => ?_⟩, hn, fun p hp => by cases hp⟩
  · simp only [St.gc, List.getElem?_map, Option.map_eq_some_iff] at hx
    obtain ⟨y, hy, rfl⟩ := hx
    exact ren_vr _ subL_ren 6 (hs.2 i y v hy hv)
  · simp only [St.gc, List.getElem?_map, Option.map_eq_some_iff] at hid
    obtain ⟨d', hd', rfl⟩ := hid
    obtain ⟨vs, h1, h2, h3⟩ := hd.2 i d' ad hd' had
    refine ⟨vs, h1, by simpa [ridDef] using h2, fun j y v hy hv => ?_⟩
    simp only [ridDef, List.getElem?_map, Option.map_eq_some_iff] at hy
    obtain ⟨z, hz, rfl⟩ := hy
    exact ren_vr _ subL_ren 6 (h3 j z v hz hv)

theorem weaker_refl : Weaker G st st := fun w0 R0 L0 a w xs ⟨R, L, hs, hr, hg, h0, hd, hn, hx⟩ => ⟨R, L, hs, hr, hg, h0, hd, hn, fun p hp => by cases hp⟩

theorem weaker_trans {st1 st2 : St} (h : Weaker G st st1) (h' : Weaker G st1 st2) : Weaker G st st2 := fun w0 R0 L0 a w xs hi => h' w0 R0 L0 a w [] (h w0 R0 L0 a w xs hi)

end
end
end Go.Proofs.Ytfcfdedbbhdioaa.AI
