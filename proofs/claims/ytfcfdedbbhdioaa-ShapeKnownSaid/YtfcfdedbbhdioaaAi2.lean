/- AI 2: steps of memory: a new row, a row written, a row used up. -/
import Derived.Test.YtfcfdedbbhdioaaAi1
namespace Go.Proofs.Ytfcfdedbbhdioaa.AI
noncomputable section
open Go
set_option linter.unusedVariables false
set_option linter.unusedSimpArgs false

/-- One step: what was not ours stays; rows stay where they lie, or go. -/
structure Step (w : World) (R : Nat → Prop) (L : Nat → Place) (w' : World) (R' : Nat → Prop) (L' : Nat → Place) : Prop where
  frm : Frm (Mine w L) w R w' R' L'
  keeps : Keeps w w' L L'

theorem Step.refl (w : World) (R : Nat → Prop) (L : Nat → Place) : Step w R L w R L :=
  ⟨Frm.refl _ _ _ _ fun k _ h => .inr ⟨k, h⟩, fun _ _ => .inr ⟨rfl, fun _ cs t fr _ h => ⟨cs, t, fr, h, rfl⟩⟩⟩

section
variable {w w1 w2 : World} {R R1 R2 : Nat → Prop} {L L1 L2 : Nat → Place} {rows : List Row}

theorem Frm.mine_sub {A : Nat → Prop} (h : Frm A w R w1 R1 L1) (hA : ∀ b, w.heap.size ≤ b → A b) (b : Nat) (hb : Mine w1 L1 b) : A b :=
  hb.elim (fun q => hA b (Nat.le_trans h.size q)) (fun ⟨k, hk⟩ => h.mine k b hk)

theorem Step.trans (h : Step w R L w1 R1 L1) (h' : Step w1 R1 L1 w2 R2 L2) : Step w R L w2 R2 L2 := by
  refine ⟨h.frm.trans h'.frm (h.frm.mine_sub fun b hb => .inl hb), fun k hk => ?_⟩
  rcases h.keeps k hk with h1 | ⟨h1, h2⟩
  · rcases h'.keeps k (by simp [h1]) with h3 | ⟨h3, _⟩
    · exact .inl h3
    · exact .inl (h3.trans h1)
  · rcases h'.keeps k (by rw [h1]; exact hk) with h3 | ⟨h3, h4⟩
    · exact .inl h3
    · refine .inr ⟨h3.trans h1, fun b cs t fr hL hb => ?_⟩
      obtain ⟨cs1, t1, fr1, hb1, hs1⟩ := h2 b cs t fr hL hb
      obtain ⟨cs2, t2, fr2, hb2, hs2⟩ := h4 b cs1 t1 fr1 (h1.trans hL) hb1
      exact ⟨cs2, t2, fr2, hb2, hs2.trans hs1⟩

theorem RowsOK.lt (h : RowsOK w R L rows) {k b : Nat} (hk : L k = .at_ b) : k < rows.length := by
  rcases Nat.lt_or_ge k rows.length with q | q
  · exact q
  · have := h.none k q; rw [hk] at this; cases this

theorem RowsOK.notR (h : RowsOK w R L rows) {k b : Nat} (hk : L k = .at_ b) : ¬ R b := by
  have hl := h.lt hk
  have hr := h.row k rows[k] (by simp [hl])
  rw [hk] at hr
  cases hr' : rows[k] <;> rw [hr'] at hr <;> simp only [Row.holds] at hr
  · exact hr.1
  · exact hr.1
  · cases hr

theorem RowsOK.block_lt (h : RowsOK w R L rows) {k b : Nat} (hk : L k = .at_ b) : b < w.heap.size := by
  have hl := h.lt hk
  have hr := h.row k rows[k] (by simp [hl])
  rw [hk] at hr
  cases hr' : rows[k] <;> rw [hr'] at hr <;> simp only [Row.holds] at hr
  · obtain ⟨_, cs, hb, _⟩ := hr; exact (Array.getElem?_eq_some_iff.1 hb).1
  · obtain ⟨_, ms, cl, hb, _⟩ := hr; exact (Array.getElem?_eq_some_iff.1 hb).1
  · cases hr

theorem RowsOK.quiet (h : RowsOK w R L rows) {b : Nat} (hb : R b) : ¬ Mine w L b :=
  fun q => q.elim (fun e => by have := h.ro b hb; omega) (fun ⟨_, hk⟩ => h.notR hk hb)

theorem Step.vr (h : Step w R L w1 R1 L1) (hr : RowsOK w R L rows) {x : AV} {v : Value} (hx : VR w R L x v) : VR w1 R1 L1 x v :=
  hx.mono h.frm.ro (fun b hb => h.frm.block b (hr.ro b hb) (hr.quiet hb)) h.keeps

theorem Row.holds_mono {r : Row} {p : Place} (h : r.holds w R L p) (hv : ∀ x v, VR w R L x v → VR w1 R1 L1 x v) (hb : ∀ b, p = .at_ b → w1.heap[b]? = w.heap[b]? ∧ ¬ R1 b) : r.holds w1 R1 L1 p := by
  cases r with
  | dead => exact h
  | blob t b =>
    cases p with
    | at_ g =>
      obtain ⟨_, cs, h1, h2, h3⟩ := h
      obtain ⟨h4, h5⟩ := hb g rfl
      exact ⟨h5, cs, h4.trans h1, h2, fun j y v hy hv' => ⟨hv _ _ (h3 j y v hy hv').1, (h3 j y v hy hv').2⟩⟩
    | _ => exact h
  | map es =>
    cases p with
    | at_ g =>
      obtain ⟨_, ms, cl, h1, h2, h3, h4⟩ := h
      obtain ⟨h5, h6⟩ := hb g rfl
      exact ⟨h6, ms, cl, h5.trans h1, h2, fun j x m hx hm => ⟨(h3 j x m hx hm).1, hv _ _ (h3 j x m hx hm).2.1, (h3 j x m hx hm).2.2⟩, h4⟩
    | _ => exact h

/-- The heap is as it was. -/
theorem step_same (hr : RowsOK w R L rows) (hh : w1.heap = w.heap) (h1 : w1.os = w.os) (h2 : w1.tape = w.tape) (h3 : w1.output = w.output) : RowsOK w1 R L rows ∧ Step w R L w1 R L := by
  have hs : Step w R L w1 R L := ⟨⟨h1, h2, h3, by rw [hh]; exact Nat.le_refl _, fun b _ _ => by rw [hh], fun _ h => h, fun _ h => .inl h, fun k b h => .inr ⟨k, h⟩⟩,
    fun k _ => .inr ⟨rfl, fun b cs t fr _ hb => ⟨cs, t, fr, by rw [hh]; exact hb, rfl⟩⟩⟩
  refine ⟨⟨fun k r hk => Row.holds_mono (hr.row k r hk) (fun _ _ => hs.vr hr) fun b hb => ⟨by rw [hh], hr.notR hb⟩, hr.none, fun b hb => by rw [hh]; exact hr.ro b hb, hr.inj⟩, hs⟩

/-- A new block. -/
theorem step_new (hr : RowsOK w R L rows) {o : Obj} (hh : w1.heap = w.heap.push o) (h1 : w1.os = w.os) (h2 : w1.tape = w.tape) (h3 : w1.output = w.output) :
    Step w R L w1 R (fun k => if k = rows.length then .at_ w.heap.size else L k) ∧
    ∀ r : Row, r.holds w1 R (fun k => if k = rows.length then .at_ w.heap.size else L k) (.at_ w.heap.size) → RowsOK w1 R (fun k => if k = rows.length then .at_ w.heap.size else L k) (rows ++ [r]) := by
  have hold : ∀ b, b < w.heap.size → w1.heap[b]? = w.heap[b]? := fun b hb => by rw [hh, Array.getElem?_push, if_neg (by omega)]
  have hs : Step w R L w1 R (fun k => if k = rows.length then .at_ w.heap.size else L k) := by
    refine ⟨⟨h1, h2, h3, by rw [hh]; simp, fun b hb _ => hold b hb, fun _ h => h, fun _ h => .inl h, fun k b h => ?_⟩, fun k hk => ?_⟩
    · try dsimp only at h
      split at h
      · injection h with h; exact .inl (by omega)
      · exact .inr ⟨k, h⟩
    · have hne : k ≠ rows.length := fun e => hk (hr.none k (by omega))
      refine .inr ⟨if_neg hne, fun b cs t fr hL hb => ⟨cs, t, fr, ?_, rfl⟩⟩
      rw [hold b (Array.getElem?_eq_some_iff.1 hb).1]; exact hb
  refine ⟨hs, fun r h => ⟨fun k r' hk => ?_, fun k hk => ?_, fun b hb => by have := hr.ro b hb; rw [hh]; simp; omega, fun k k' b hk hk' => ?_⟩⟩
  · rcases Nat.lt_trichotomy k rows.length with q | q | q
    · rw [List.getElem?_append_left q] at hk
      try dsimp only
      rw [if_neg (by omega)]
      exact Row.holds_mono (hr.row k r' hk) (fun _ _ => hs.vr hr) fun b hb => ⟨hold b (hr.block_lt hb), hr.notR hb⟩
    · subst q
      simp at hk
      subst hk
      try dsimp only
      rw [if_pos rfl]
      exact h
    · rw [List.getElem?_eq_none (by simp; omega)] at hk; cases hk
  · simp at hk
    try dsimp only
    rw [if_neg (by omega)]
    exact hr.none k (by omega)
  · try dsimp only at hk hk'
    split at hk <;> split at hk'
    · omega
    · injection hk with hk; have := hr.block_lt hk'; omega
    · injection hk' with hk'; have := hr.block_lt hk; omega
    · exact hr.inj k k' b hk hk'

/-- One block of ours is written. -/
theorem step_upd (hr : RowsOK w R L rows) {k b : Nat} (hk : L k = .at_ b) (hz : w1.heap.size = w.heap.size) (hb : ∀ b', b' ≠ b → w1.heap[b']? = w.heap[b']?)
    (hc : ∀ cs t fr, w.heap[b]? = some (.cells cs t fr) → ∃ cs' t' fr', w1.heap[b]? = some (.cells cs' t' fr') ∧ cs'.size = cs.size)
    (h1 : w1.os = w.os) (h2 : w1.tape = w.tape) (h3 : w1.output = w.output) :
    Step w R L w1 R L ∧ ∀ r : Row, r.holds w1 R L (.at_ b) → RowsOK w1 R L (rows.set k r) := by
  have hs : Step w R L w1 R L := by
    refine ⟨⟨h1, h2, h3, by omega, fun b' _ hn => hb b' fun e => hn (.inr ⟨k, e ▸ hk⟩), fun _ h => h, fun _ h => .inl h, fun k b h => .inr ⟨k, h⟩⟩, fun k' _ => .inr ⟨rfl, fun b' cs t fr hL hb' => ?_⟩⟩
    by_cases e : b' = b
    · subst e; exact hc cs t fr hb'
    · exact ⟨cs, t, fr, by rw [hb b' e]; exact hb', rfl⟩
  refine ⟨hs, fun r h => ⟨fun k' r' hk' => ?_, fun k' hk' => hr.none k' (by simpa using hk'), fun b' hb' => by have := hr.ro b' hb'; omega, hr.inj⟩⟩
  by_cases e : k' = k
  · subst e
    have hl := hr.lt hk
    simp [hl] at hk'
    subst hk'
    rw [hk]
    exact h
  · rw [List.getElem?_set_ne (by omega)] at hk'
    exact Row.holds_mono (hr.row k' r' hk') (fun _ _ => hs.vr hr) fun b' hb' => ⟨hb b' fun e' => e (hr.inj k' k b (e' ▸ hb') hk), hr.notR hb'⟩

/-- A row is used up, and what became of it is a new row: in its own block, or in a new one. -/
theorem step_use (hr : RowsOK w R L rows) {k : Nat} (hk : k < rows.length) (p : Place) (hp : ∀ b, p = .at_ b → w.heap.size ≤ b ∨ L k = .at_ b) (hp' : p = .nil ∨ ∃ b, p = .at_ b ∧ b < w1.heap.size)
    (hz : w.heap.size ≤ w1.heap.size) (hb : ∀ b', b' < w.heap.size → L k ≠ .at_ b' → w1.heap[b']? = w.heap[b']?)
    (h1 : w1.os = w.os) (h2 : w1.tape = w.tape) (h3 : w1.output = w.output) :
    Step w R L w1 R (fun j => if j = rows.length then p else if j = k then .gone else L j) ∧
    ∀ r : Row, r.holds w1 R (fun j => if j = rows.length then p else if j = k then .gone else L j) p → RowsOK w1 R (fun j => if j = rows.length then p else if j = k then .gone else L j) (rows.set k .dead ++ [r]) := by
  have hs : Step w R L w1 R (fun j => if j = rows.length then p else if j = k then .gone else L j) := by
    refine ⟨⟨h1, h2, h3, hz, fun b' hb' hn => hb b' hb' fun e => hn (.inr ⟨k, e⟩), fun _ h => h, fun _ h => .inl h, fun j b h => ?_⟩, fun j hj => ?_⟩
    · try dsimp only at h
      split at h
      · rcases hp b h with q | q
        · exact .inl q
        · exact .inr ⟨k, q⟩
      · split at h
        · cases h
        · exact .inr ⟨j, h⟩
    · have hne : j ≠ rows.length := fun e => hj (hr.none j (by omega))
      by_cases e : j = k
      · exact .inl (by rw [if_neg hne, if_pos e])
      · refine .inr ⟨by rw [if_neg hne, if_neg e], fun b cs t fr hL hb' => ⟨cs, t, fr, ?_, rfl⟩⟩
        rw [hb b (Array.getElem?_eq_some_iff.1 hb').1 fun q => e (hr.inj j k b hL q)]; exact hb'
  refine ⟨hs, fun r h => ⟨fun j r' hj => ?_, fun j hj => ?_, fun b' hb' => by have := hr.ro b' hb'; omega, fun j j' b hj hj' => ?_⟩⟩
  · rcases Nat.lt_trichotomy j rows.length with q | q | q
    · rw [List.getElem?_append_left (by simp; omega)] at hj
      try dsimp only
      rw [if_neg (by omega)]
      by_cases e : j = k
      · subst e
        simp [q] at hj
        subst hj
        rw [if_pos rfl]
        exact rfl
      · rw [List.getElem?_set_ne (by omega)] at hj
        rw [if_neg e]
        exact Row.holds_mono (hr.row j r' hj) (fun _ _ => hs.vr hr) fun b' hb' => ⟨hb b' (hr.block_lt hb') fun q => e (hr.inj j k b' hb' q), hr.notR hb'⟩
    · subst q
      have : (rows.set k Row.dead ++ [r])[rows.length]? = some r := by
        rw [List.getElem?_append_right (by simp)]; simp
      rw [this] at hj
      injection hj with hj
      subst hj
      try dsimp only
      rw [if_pos rfl]
      exact h
    · rw [List.getElem?_eq_none (by simp; omega)] at hj; cases hj
  · simp at hj
    try dsimp only
    rw [if_neg (by omega), if_neg (by omega)]
    exact hr.none j (by omega)
  · try dsimp only at hj hj'
    have key : ∀ j, j ≠ rows.length → j ≠ k → L j = .at_ b → p ≠ .at_ b := fun j _ e hL hpb => by
      rcases hp b hpb with q | q
      · have := hr.block_lt hL; omega
      · exact e (hr.inj j k b hL q)
    split at hj <;> split at hj'
    · omega
    · split at hj'
      · cases hj'
      · exact absurd hj (key j' ‹_› ‹_› hj')
    · split at hj
      · cases hj
      · exact absurd hj' (key j ‹_› ‹_› hj)
    · split at hj
      · cases hj
      · split at hj'
        · cases hj'
        · exact hr.inj j j' b hj hj'

end
end
end Go.Proofs.Ytfcfdedbbhdioaa.AI
