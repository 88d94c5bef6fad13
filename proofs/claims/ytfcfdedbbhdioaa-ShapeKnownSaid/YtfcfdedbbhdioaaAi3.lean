/- AI 3: cells read, written, cut out and put in: the pure part. -/
import Derived.Test.YtfcfdedbbhdioaaAi2
namespace Go.Proofs.Ytfcfdedbbhdioaa.AI
noncomputable section
open Go
set_option linter.unusedVariables false
set_option linter.unusedSimpArgs false

theorem segsCell_lt {b : List Seg} {j : Nat} {x : AV} (h : segsCell b j = some x) : j < segsSize b := (segsCell_some b j).1 (by simp [h])
theorem segsCell_ex {b : List Seg} {j : Nat} (h : j < segsSize b) : ∃ x, segsCell b j = some x := Option.isSome_iff_exists.1 ((segsCell_some b j).2 h)

theorem segsCell_one (s : Seg) (j : Nat) : segsCell [s] j = s.cell j := by
  simp only [segsCell]
  split
  · rfl
  · rename_i h
    cases hc : s.cell j with
    | none => rfl
    | some x => exact absurd ((Seg.cell_some s j).1 (by simp [hc])) h

theorem segsSize_append (a b : List Seg) : segsSize (a ++ b) = segsSize a + segsSize b := by
  induction a with
  | nil => simp [segsSize]
  | cons s a ih => simp [segsSize, ih, Nat.add_assoc]

theorem segsCell_append (a b : List Seg) : ∀ j, segsCell (a ++ b) j = if j < segsSize a then segsCell a j else segsCell b (j - segsSize a) := by
  induction a with
  | nil => intro j; simp [segsSize]
  | cons s a ih =>
    intro j
    show segsCell (s :: (a ++ b)) j = if j < s.size + segsSize a then segsCell (s :: a) j else segsCell b (j - (s.size + segsSize a))
    simp only [segsCell]
    by_cases h : j < s.size
    · rw [if_pos h, if_pos h, if_pos (by omega)]
    · rw [if_neg h, if_neg h, ih]
      by_cases h2 : j - s.size < segsSize a
      · rw [if_pos h2, if_pos (by omega)]
      · rw [if_neg h2, if_neg (by omega), Nat.sub_sub]

/-- Values of one cell each, by their make. -/
def segsOf : List AV → List Seg
  | [] => []
  | x :: r =>
    match x, segsOf r with
    | .c (.int k n), .ints k' m l :: b => if k = k' then .ints k (m + 1) (n :: l) :: b else .ints k 1 [n] :: .ints k' m l :: b
    | .c (.int k n), b => .ints k 1 [n] :: b
    | .c (.bool y), .bools m l :: b => .bools (m + 1) (y :: l) :: b
    | .c (.bool y), b => .bools 1 [y] :: b
    | x, .avs l :: b => .avs (x :: l) :: b
    | x, b => .avs [x] :: b

theorem segsOf_spec (l : List AV) : segsSize (segsOf l) = l.length ∧ ∀ j, segsCell (segsOf l) j = l[j]? := by
  induction l with
  | nil => simp [segsOf, segsSize, segsCell]
  | cons x r ih =>
    obtain ⟨ih1, ih2⟩ := ih
    have one : ∀ s : Seg, s.size = 1 → s.cell 0 = some x → segsSize (s :: segsOf r) = (x :: r).length ∧ ∀ j, segsCell (s :: segsOf r) j = (x :: r)[j]? := by
      intro s h1 h2
      refine ⟨by simp [segsSize, h1, ih1]; omega, fun j => ?_⟩
      simp only [segsCell, h1]
      cases j with
      | zero => simp [h2]
      | succ j => simp [ih2]
    have more : ∀ (s s' : Seg) (b : List Seg), segsOf r = s' :: b → s.size = s'.size + 1 → s.cell 0 = some x → (∀ j, s.cell (j + 1) = s'.cell j) → segsSize (s :: b) = (x :: r).length ∧ ∀ j, segsCell (s :: b) j = (x :: r)[j]? := by
      intro s s' b hb h1 h2 h3
      rw [hb] at ih1 ih2
      simp only [segsSize] at ih1
      refine ⟨by simp [segsSize, h1]; omega, fun j => ?_⟩
      simp only [segsCell, h1]
      cases j with
      | zero => simp [h2]
      | succ j =>
        have := ih2 j
        simp only [segsCell] at this
        simp only [List.getElem?_cons_succ, ← this, h3]
        by_cases hj : j < s'.size
        · rw [if_pos hj, if_pos (by omega)]
        · rw [if_neg hj, if_neg (by omega)]; congr 1; omega
    simp only [segsOf]
    split
    · rename_i k n k' m l b hb
      split
      · rename_i hk
        subst hk
        exact more _ _ b hb rfl (by simp [Seg.cell]) (fun j => by simp [Seg.cell])
      · rw [← hb]; exact one _ rfl (by simp [Seg.cell])
    · exact one _ rfl (by simp [Seg.cell])
    · rename_i y m l b hb
      exact more _ _ b hb rfl (by simp [Seg.cell]) (fun j => by simp [Seg.cell])
    · exact one _ rfl (by simp [Seg.cell])
    · rename_i l b _ _ hb
      exact more _ _ b hb rfl (by simp [Seg.cell]) (fun j => by simp [Seg.cell])
    · exact one _ rfl (by simp [Seg.cell])

/-- A value's cells. -/
def AV.segs : AV → Option (List Seg)
  | .agg b => some b
  | .c (.agg cs) => if cs.all (·.oneCell') then some (segsOf (cs.toList.map .c)) else none
  | .c v => if v.oneCell' then some (segsOf [.c v]) else none
  | .junk => none
  | .tup _ => none
  | .fz _ => none
  | x => some (.avs [x] :: [])

theorem AV.segs_spec {x : AV} {b : List Seg} (h : x.segs = some b) : x.size = some (segsSize b) ∧ (∀ j, x.cell j = segsCell b j) := by
  have one : ∀ x : AV, (∀ j, x.cell j = match j with | 0 => some x | _ + 1 => none) → x.size = some 1 → x.size = some (segsSize [.avs [x]]) ∧ ∀ j, x.cell j = segsCell [.avs [x]] j := by
    intro x h1 h2
    refine ⟨by rw [h2]; rfl, fun j => ?_⟩
    rw [h1 j]
    cases j <;> simp [segsCell, Seg.size, Seg.cell]
  cases x
  case agg b' => simp only [AV.segs] at h; injection h with h; subst h; exact ⟨rfl, fun _ => rfl⟩
  case junk => simp [AV.segs] at h
  case tup => simp [AV.segs] at h
  case fz => simp [AV.segs] at h
  case c v =>
    cases v
    case agg cs =>
      simp only [AV.segs] at h
      split at h
      · injection h with h; subst h
        have := segsOf_spec (cs.toList.map AV.c)
        refine ⟨by rw [this.1]; simp [AV.size], fun j => ?_⟩
        rw [this.2 j]
        simp [AV.cell]
      · cases h
    case tuple vs => simp [AV.segs, Value.oneCell'] at h
    all_goals
      simp only [AV.segs, Value.oneCell', if_true] at h
      injection h with h; subst h
      refine ⟨?_, fun j => ?_⟩
      all_goals first
        | (rw [(segsOf_spec _).1]; rfl)
        | (rw [(segsOf_spec _).2 j]; cases j <;> simp [AV.cell])
  all_goals
    simp only [AV.segs] at h
    injection h with h; subst h
    exact one _ (fun j => by cases j <;> rfl) rfl

/-- Where the cell off + ix lies: off picks the part, ix goes on in it. -/
def Seg.at_ : Seg → Nat → Nat → AV × Bool
  | .ints k n l, o, i => (.c (.int k (l.getD (o + i) 0)), decide (o + i < n))
  | .bools n l, o, i => (.c (.bool (l.getD (o + i) false)), decide (o + i < n))
  | .avs l, o, i => (l.getD (o + i) .junk, decide (o + i < l.length))
  | .recs sz n f, o, i => (.fz (f (i / sz) o), i % sz == 0 && decide (o < sz) && decide (i / sz < n))

def cellAt : List Seg → Nat → Nat → AV × Bool
  | [], _, _ => (.junk, false)
  | [s], o, i => s.at_ o i
  | s :: t :: b, o, i => if o < s.size then s.at_ o i else cellAt (t :: b) (o - s.size) i

theorem Seg.at_spec {s : Seg} {o i : Nat} (h : (s.at_ o i).2 = true) : s.cell (o + i) = some (s.at_ o i).1 := by
  cases s with
  | ints k n l => simp only [Seg.at_, decide_eq_true_eq] at h; simp [Seg.cell, Seg.at_, h]
  | bools n l => simp only [Seg.at_, decide_eq_true_eq] at h; simp [Seg.cell, Seg.at_, h]
  | avs l => simp only [Seg.at_, decide_eq_true_eq] at h; simp [Seg.cell, Seg.at_, h]
  | recs sz n f =>
    simp only [Seg.at_, Bool.and_eq_true, beq_iff_eq, decide_eq_true_eq] at h
    obtain ⟨⟨h1, h2⟩, h3⟩ := h
    have h4 : i = sz * (i / sz) := by have := Nat.div_add_mod i sz; omega
    have h5 : (o + i) / sz = i / sz := by
      rw [h4, Nat.add_mul_div_left _ _ (by omega), Nat.div_eq_of_lt h2, Nat.mul_div_cancel_left _ (by omega)]; omega
    have h6 : (o + i) % sz = o := by rw [h4, Nat.add_mul_mod_self_left, Nat.mod_eq_of_lt h2]
    have h7 : o + i < n * sz := by
      have : (i / sz + 1) * sz ≤ n * sz := Nat.mul_le_mul_right _ h3
      rw [Nat.add_mul, Nat.mul_comm, ← h4] at this
      omega
    simp [Seg.cell, Seg.at_, h5, h6, h7]

theorem cellAt_spec : ∀ {b : List Seg} {o i : Nat}, (cellAt b o i).2 = true → segsCell b (o + i) = some (cellAt b o i).1
  | [], _, _, h => by simp [cellAt] at h
  | [s], o, i, h => by
    simp only [cellAt] at h ⊢
    have h1 := Seg.at_spec h
    have h2 := (Seg.cell_some s (o + i)).1 (by simp [h1])
    simp [segsCell, h2, h1]
  | s :: t :: b, o, i, h => by
    simp only [cellAt] at h ⊢
    split at h
    · rename_i h0
      have h1 := Seg.at_spec h
      have h2 := (Seg.cell_some s (o + i)).1 (by simp [h1])
      rw [if_pos h0]
      simp only [segsCell, h2, if_true, h1]
    · rename_i h0
      rw [if_neg h0]
      have h1 := cellAt_spec h
      rw [segsCell, if_neg (by omega), ← h1]
      congr 1
      omega

/-- One cell written. -/
def Seg.set_ : Seg → Nat → Nat → AV → Seg × Bool
  | .ints k n l, o, i, .c (.int k' v) => (.ints k n (l.set (o + i) v), decide (k = k') && decide (o + i < n) && decide (o + i < l.length))
  | .bools n l, o, i, .c (.bool v) => (.bools n (l.set (o + i) v), decide (o + i < n) && decide (o + i < l.length))
  | .avs l, o, i, x => (.avs (l.set (o + i) x), decide (o + i < l.length))
  | s, _, _, _ => (s, false)

def setAt : List Seg → Nat → Nat → AV → List Seg × Bool
  | [], _, _, _ => ([], false)
  | [s], o, i, x => ([(s.set_ o i x).1], (s.set_ o i x).2)
  | s :: t :: b, o, i, x => if o < s.size then ((s.set_ o i x).1 :: t :: b, (s.set_ o i x).2) else (s :: (setAt (t :: b) (o - s.size) i x).1, (setAt (t :: b) (o - s.size) i x).2)

theorem Seg.set_spec {s : Seg} {o i : Nat} {x : AV} (h : (s.set_ o i x).2 = true) :
    (s.set_ o i x).1.size = s.size ∧ o + i < s.size ∧ ∀ j, (s.set_ o i x).1.cell j = if j = o + i then some x else s.cell j := by
  unfold Seg.set_ at h ⊢
  split at h
  · simp only [Bool.and_eq_true, decide_eq_true_eq] at h
    obtain ⟨⟨rfl, h2⟩, h3⟩ := h
    refine ⟨rfl, h2, fun j => ?_⟩
    simp only [Seg.cell]
    by_cases hj : j = o + i
    · subst hj; simp [h2, h3]
    · rw [if_neg hj]
      have : o + i ≠ j := fun e => hj e.symm
      simp [List.getElem?_set_ne this]
  · simp only [Bool.and_eq_true, decide_eq_true_eq] at h
    obtain ⟨h2, h3⟩ := h
    refine ⟨rfl, h2, fun j => ?_⟩
    simp only [Seg.cell]
    by_cases hj : j = o + i
    · subst hj; simp [h2, h3]
    · rw [if_neg hj]
      have : o + i ≠ j := fun e => hj e.symm
      simp [List.getElem?_set_ne this]
  · simp only [decide_eq_true_eq] at h
    refine ⟨by simp [Seg.size], h, fun j => ?_⟩
    simp only [Seg.cell]
    by_cases hj : j = o + i
    · subst hj; simp [h]
    · rw [if_neg hj]
      have : o + i ≠ j := fun e => hj e.symm
      simp [List.getElem?_set_ne this]
  · cases h

theorem setAt_spec : ∀ {b : List Seg} {o i : Nat} {x : AV}, (setAt b o i x).2 = true →
    segsSize (setAt b o i x).1 = segsSize b ∧ o + i < segsSize b ∧ ∀ j, segsCell (setAt b o i x).1 j = if j = o + i then some x else segsCell b j
  | [], _, _, _, h => by simp [setAt] at h
  | [s], o, i, x, h => by
    simp only [setAt] at h ⊢
    obtain ⟨h1, h2, h3⟩ := Seg.set_spec h
    refine ⟨by simp [segsSize, h1], by simp [segsSize]; omega, fun j => ?_⟩
    simp only [segsCell, h1, h3]
    by_cases hj : j = o + i
    · subst hj; simp [h2]
    · simp [hj]
  | s :: t :: b, o, i, x, h => by
    simp only [setAt] at h ⊢
    split at h
    · rename_i h0
      simp only [if_pos h0] at *
      obtain ⟨h1, h2, h3⟩ := Seg.set_spec h
      refine ⟨by simp [segsSize, h1], by simp [segsSize]; omega, fun j => ?_⟩
      simp only [segsCell, h1, h3]
      by_cases hj : j = o + i
      · subst hj; simp [h2]
      · simp [hj]
    · rename_i h0
      simp only [if_neg h0] at *
      obtain ⟨h1, h2, h3⟩ := setAt_spec h
      refine ⟨by rw [segsSize, h1]; rfl, by rw [segsSize]; omega, fun j => ?_⟩
      rw [segsCell, h3]
      by_cases hj : j = o + i
      · subst hj; rw [if_pos rfl, if_neg (by omega), if_pos (by omega)]
      · rw [if_neg hj]
        by_cases hs : j < s.size
        · rw [if_pos hs, segsCell, if_pos hs]
        · rw [if_neg hs, if_neg (by omega)]; conv => rhs; rw [segsCell, if_neg hs]

/-- The first n cells; what is behind them. -/
def Seg.take : Seg → Nat → Seg
  | .ints k _ l, n => .ints k n (l.take n)
  | .bools _ l, n => .bools n (l.take n)
  | .avs l, n => .avs (l.take n)
  | .recs sz m f, n => if n = m * sz then .recs sz m f else .avs ((List.range n).map fun j => .fz (f (j / sz) (j % sz)))

def Seg.drop : Seg → Nat → Seg
  | .ints k m l, n => .ints k (m - n) (l.drop n)
  | .bools m l, n => .bools (m - n) (l.drop n)
  | .avs l, n => .avs (l.drop n)
  | .recs sz m f, n => if n = 0 then .recs sz m f else if n % sz = 0 then .recs sz (m - n / sz) (fun i j => f (i + n / sz) j) else .avs ((List.range (m * sz - n)).map fun j => .fz (f ((j + n) / sz) ((j + n) % sz)))

theorem Seg.take_spec (s : Seg) (n : Nat) (h : n ≤ s.size) : (s.take n).size = n ∧ ∀ j, (s.take n).cell j = if j < n then s.cell j else none := by
  cases s with
  | ints k m l =>
    simp only [Seg.size] at h
    refine ⟨rfl, fun j => ?_⟩
    simp only [Seg.take, Seg.cell]
    by_cases hj : j < n
    · rw [if_pos hj, if_pos hj, if_pos (by omega)]; simp [List.getElem?_take, hj]
    · rw [if_neg hj, if_neg hj]
  | bools m l =>
    simp only [Seg.size] at h
    refine ⟨rfl, fun j => ?_⟩
    simp only [Seg.take, Seg.cell]
    by_cases hj : j < n
    · rw [if_pos hj, if_pos hj, if_pos (by omega)]; simp [List.getElem?_take, hj]
    · rw [if_neg hj, if_neg hj]
  | avs l =>
    simp only [Seg.size] at h
    refine ⟨by simp [Seg.take, Seg.size]; omega, fun j => ?_⟩
    simp only [Seg.take, Seg.cell, List.getElem?_take]
  | recs sz m f =>
    simp only [Seg.size] at h
    simp only [Seg.take]
    split
    · rename_i e
      subst e
      refine ⟨rfl, fun j => ?_⟩
      simp only [Seg.cell]
      split <;> rfl
    · refine ⟨by simp [Seg.size], fun j => ?_⟩
      simp only [Seg.cell]
      by_cases hj : j < n
      · rw [if_pos hj, if_pos (by omega)]; simp [hj]
      · rw [if_neg hj]; simp; omega

theorem Seg.drop_spec (s : Seg) (n : Nat) (h : n ≤ s.size) : (s.drop n).size = s.size - n ∧ ∀ j, (s.drop n).cell j = s.cell (j + n) := by
  cases s with
  | ints k m l =>
    simp only [Seg.size] at h
    refine ⟨rfl, fun j => ?_⟩
    simp only [Seg.drop, Seg.cell]
    by_cases hj : j < m - n
    · rw [if_pos hj, if_pos (by omega)]; simp [Nat.add_comm]
    · rw [if_neg hj, if_neg (by omega)]
  | bools m l =>
    simp only [Seg.size] at h
    refine ⟨rfl, fun j => ?_⟩
    simp only [Seg.drop, Seg.cell]
    by_cases hj : j < m - n
    · rw [if_pos hj, if_pos (by omega)]; simp [Nat.add_comm]
    · rw [if_neg hj, if_neg (by omega)]
  | avs l =>
    refine ⟨by simp [Seg.drop, Seg.size], fun j => ?_⟩
    simp only [Seg.drop, Seg.cell, List.getElem?_drop, Nat.add_comm]
  | recs sz m f =>
    simp only [Seg.size] at h
    simp only [Seg.drop]
    split
    · rename_i e
      subst e
      exact ⟨by simp [Seg.size], fun j => by simp⟩
    · split
      · rename_i e0 e
        have hsz : 0 < sz := by
          rcases Nat.eq_zero_or_pos sz with q | q
          · subst q; simp at h; omega
          · exact q
        have hn : n = sz * (n / sz) := by have := Nat.div_add_mod n sz; omega
        refine ⟨?_, fun j => ?_⟩
        · simp only [Seg.size, Nat.sub_mul]
          congr 1
          rw [Nat.mul_comm, ← hn]
        · have h1 : (j + n) / sz = j / sz + n / sz := by conv => lhs; rw [hn, Nat.add_mul_div_left _ _ hsz]
          have h2 : (j + n) % sz = j % sz := by conv => lhs; rw [hn, Nat.add_mul_mod_self_left]
          simp only [Seg.cell, h1, h2, Nat.sub_mul]
          have h3 : n / sz * sz = n := by rw [Nat.mul_comm, ← hn]
          rw [h3]
          by_cases hj : j < m * sz - n
          · rw [if_pos hj, if_pos (by omega)]
          · rw [if_neg hj, if_neg (by omega)]
      · refine ⟨by simp [Seg.size], fun j => ?_⟩
        simp only [Seg.cell]
        by_cases hj : j < m * sz - n
        · rw [if_pos (by omega)]; simp [hj]
        · rw [if_neg (by omega)]; simp; omega

def segsTake : List Seg → Nat → List Seg
  | [], _ => []
  | s :: b, n => if n = 0 then [] else if n < s.size then [s.take n] else s :: segsTake b (n - s.size)

def segsDrop : List Seg → Nat → List Seg
  | [], _ => []
  | s :: b, n => if n = 0 then s :: b else if n < s.size then s.drop n :: b else segsDrop b (n - s.size)

theorem segsTake_spec : ∀ (b : List Seg) (n : Nat), n ≤ segsSize b → segsSize (segsTake b n) = n ∧ ∀ j, segsCell (segsTake b n) j = if j < n then segsCell b j else none
  | [], n, h => by simp [segsSize] at h; subst h; simp [segsTake, segsSize, segsCell]
  | s :: b, n, h => by
    simp only [segsSize] at h
    simp only [segsTake]
    split
    · rename_i e; subst e; simp [segsSize, segsCell]
    · split
      · rename_i h1
        obtain ⟨h2, h3⟩ := Seg.take_spec s n (by omega)
        refine ⟨by simp [segsSize, h2], fun j => ?_⟩
        simp only [segsCell, h2, h3]
        by_cases hj : j < n
        · rw [if_pos hj, if_pos hj, if_pos hj, if_pos (by omega)]
        · rw [if_neg hj, if_neg hj]
      · obtain ⟨h2, h3⟩ := segsTake_spec b (n - s.size) (by omega)
        refine ⟨by simp [segsSize, h2]; omega, fun j => ?_⟩
        simp only [segsCell, h3]
        by_cases hj : j < s.size
        · rw [if_pos hj, if_pos (by omega)]; simp [hj]
        · rw [if_neg hj]
          by_cases hj2 : j < n
          · rw [if_pos (by omega), if_pos hj2]; simp [hj]
          · rw [if_neg (by omega), if_neg hj2]

theorem segsDrop_spec : ∀ (b : List Seg) (n : Nat), n ≤ segsSize b → segsSize (segsDrop b n) = segsSize b - n ∧ ∀ j, segsCell (segsDrop b n) j = segsCell b (j + n)
  | [], n, h => by simp [segsSize] at h; subst h; simp [segsDrop, segsSize, segsCell]
  | s :: b, n, h => by
    simp only [segsSize] at h
    simp only [segsDrop]
    split
    · rename_i e; subst e; simp
    · split
      · rename_i h1
        obtain ⟨h2, h3⟩ := Seg.drop_spec s n (by omega)
        refine ⟨by simp [segsSize, h2]; omega, fun j => ?_⟩
        simp only [segsCell, h2, h3]
        by_cases hj : j < s.size - n
        · rw [if_pos hj, if_pos (by omega)]
        · rw [if_neg hj, if_neg (by omega)]; congr 1; omega
      · obtain ⟨h2, h3⟩ := segsDrop_spec b (n - s.size) (by omega)
        refine ⟨by rw [h2]; simp [segsSize]; omega, fun j => ?_⟩
        rw [h3, segsCell, if_neg (by omega)]
        congr 1
        omega

/-- n cells cut out: in one part, or by whole parts. -/
def subAt : List Seg → Nat → Nat → Nat → List Seg × Bool
  | [.ints k m l], o, i, n => ([.ints k n ((l.drop (o + i)).take n)], decide (o + i + n ≤ m))
  | [.recs sz m f], o, i, n => if n = sz ∧ o = 0 then (segsOf ((List.range sz).map (f (i / sz))), i % sz == 0 && decide (i / sz < m) && decide (0 < sz)) else (segsTake (segsDrop [.recs sz m f] (o + i)) n, decide (o + i + n ≤ m * sz))
  | b, o, i, n => (segsTake (segsDrop b (o + i)) n, decide (o + i + n ≤ segsSize b))

/-- y may stand for x. -/
def AV.may (x y : AV) : Prop := x = y ∨ x = .fz y

theorem subAt_spec {b : List Seg} {o i n : Nat} (h : (subAt b o i n).2 = true) :
    segsSize (subAt b o i n).1 = n ∧ o + i + n ≤ segsSize b ∧ ∀ j y, segsCell (subAt b o i n).1 j = some y → ∃ x, segsCell b (o + i + j) = some x ∧ x.may y := by
  have gen : ∀ b : List Seg, o + i + n ≤ segsSize b → segsSize (segsTake (segsDrop b (o + i)) n) = n ∧ o + i + n ≤ segsSize b ∧ ∀ j y, segsCell (segsTake (segsDrop b (o + i)) n) j = some y → ∃ x, segsCell b (o + i + j) = some x ∧ x.may y := by
    intro b hb
    obtain ⟨h1, h2⟩ := segsDrop_spec b (o + i) (by omega)
    obtain ⟨h3, h4⟩ := segsTake_spec (segsDrop b (o + i)) n (by omega)
    refine ⟨h3, hb, fun j y hy => ⟨y, ?_, .inl rfl⟩⟩
    have hj : j < n := by have := segsCell_lt hy; omega
    rw [h4, if_pos hj, h2] at hy
    rw [← hy]; congr 1; omega
  unfold subAt at h ⊢
  split at h
  · rename_i k m l
    simp only [decide_eq_true_eq] at h
    refine ⟨by simp [segsSize, Seg.size], by simpa [segsSize, Seg.size] using h, fun j y hy => ⟨y, ?_, .inl rfl⟩⟩
    have hj : j < n := by have := segsCell_lt hy; simpa [segsSize, Seg.size] using this
    rw [← hy]
    simp only [segsCell, Seg.size, Seg.cell, if_pos hj, if_pos (show o + i + j < m by omega)]
    simp [List.getElem?_take, hj]
  · rename_i sz m f
    split at h
    · rename_i hc
      rw [if_pos hc]
      obtain ⟨rfl, rfl⟩ := hc
      simp only [Bool.and_eq_true, beq_iff_eq, decide_eq_true_eq] at h
      obtain ⟨⟨h1, h2⟩, h3⟩ := h
      have h4 : i = n * (i / n) := by have := Nat.div_add_mod i n; omega
      have h7 : i + n ≤ m * n := by
        have : (i / n + 1) * n ≤ m * n := Nat.mul_le_mul_right _ h2
        rw [Nat.add_mul, Nat.mul_comm, ← h4] at this
        omega
      have hs := segsOf_spec ((List.range n).map (f (i / n)))
      refine ⟨by simp [hs.1], by simp [segsSize, Seg.size]; omega, fun j y hy => ?_⟩
      have hj : j < n := by have := segsCell_lt hy; rw [hs.1] at this; simpa using this
      have h5 : (0 + i + j) / n = i / n := by
        rw [h4, Nat.zero_add, Nat.add_comm, Nat.add_mul_div_left _ _ h3, Nat.div_eq_of_lt hj, Nat.mul_div_cancel_left _ h3]; omega
      have h6 : (0 + i + j) % n = j := by rw [h4, Nat.zero_add, Nat.add_comm, Nat.add_mul_mod_self_left, Nat.mod_eq_of_lt hj]
      rw [hs.2 j] at hy
      refine ⟨.fz (f (i / n) j), ?_, .inr ?_⟩
      · simp only [segsCell, Seg.size, Seg.cell, h5, h6, if_pos (show 0 + i + j < m * n by omega)]
      · simp [hj] at hy; rw [hy]
    · rename_i hc
      rw [if_neg hc]
      simp only [decide_eq_true_eq] at h
      exact gen _ (by simpa [segsSize, Seg.size] using h)
  · simp only [decide_eq_true_eq] at h
    exact gen _ h

/-- n cells put in. -/
def putAt (b : List Seg) (o i n : Nat) (x : List Seg) : List Seg × Bool :=
  match b, x with
  | [.ints k m l], [.ints k' n' l'] => ([.ints k m (l.take (o + i) ++ l' ++ l.drop (o + i + n))], decide (k = k') && decide (n' = n) && decide (l'.length = n) && decide (o + i + n ≤ m) && decide (o + i + n ≤ l.length))
  | b, x => (segsTake b (o + i) ++ x ++ segsDrop b (o + i + n), decide (segsSize x = n) && decide (o + i + n ≤ segsSize b))

theorem putAt_spec {b : List Seg} {o i n : Nat} {x : List Seg} (h : (putAt b o i n x).2 = true) :
    segsSize (putAt b o i n x).1 = segsSize b ∧ segsSize x = n ∧ o + i + n ≤ segsSize b ∧
    ∀ j, segsCell (putAt b o i n x).1 j = if o + i ≤ j ∧ j < o + i + n then segsCell x (j - (o + i)) else segsCell b j := by
  unfold putAt at h ⊢
  split at h
  · rename_i k m l k' n' l'
    simp only [Bool.and_eq_true, decide_eq_true_eq] at h
    obtain ⟨⟨⟨⟨rfl, rfl⟩, h3⟩, h4⟩, h5⟩ := h
    refine ⟨by simp [segsSize, Seg.size], by simp [segsSize, Seg.size], by simpa [segsSize, Seg.size] using h4, fun j => ?_⟩
    simp only [segsCell_one, Seg.cell]
    have hl : (l.take (o + i)).length = o + i := by simp; omega
    by_cases hm : j < m
    · simp only [if_pos hm]
      by_cases hj : o + i ≤ j ∧ j < o + i + n'
      · rw [if_pos hj, if_pos (by omega)]
        congr 3
        rw [List.getD_eq_getElem?_getD, List.getD_eq_getElem?_getD, List.append_assoc, List.getElem?_append_right (by omega), hl, List.getElem?_append_left (by omega)]
      · rw [if_neg hj]
        congr 3
        rw [List.getD_eq_getElem?_getD, List.getD_eq_getElem?_getD, List.append_assoc]
        by_cases h6 : j < o + i
        · rw [List.getElem?_append_left (by omega), List.getElem?_take, if_pos h6]
        · rw [List.getElem?_append_right (by omega), hl, List.getElem?_append_right (by omega), List.getElem?_drop]
          congr 2
          omega
    · simp only [if_neg hm]
      rw [if_neg (by omega)]
  · simp only [Bool.and_eq_true, decide_eq_true_eq] at h
    obtain ⟨h1, h2⟩ := h
    obtain ⟨h3, h4⟩ := segsTake_spec b (o + i) (by omega)
    obtain ⟨h5, h6⟩ := segsDrop_spec b (o + i + n) (by omega)
    refine ⟨by simp only [segsSize_append, h3, h5, h1]; omega, h1, h2, fun j => ?_⟩
    rw [segsCell_append, segsCell_append, segsSize_append, h3, h1, h4, h6]
    by_cases ha : j < o + i
    · rw [if_pos (by omega), if_pos ha, if_pos ha, if_neg (by omega)]
    · by_cases hb : j < o + i + n
      · rw [if_pos hb, if_neg ha, if_pos (by omega)]
      · rw [if_neg hb, if_neg (by omega)]; congr 1; omega

/-- One behind the other; parts of one make run together. -/
def segsApp : List Seg → List Seg → List Seg × Bool
  | [], c => (c, true)
  | [.ints k n l], [.ints k' m l'] => if k = k' then ([.ints k (n + m) (l ++ l')], decide (l.length = n)) else ([.ints k n l, .ints k' m l'], true)
  | [.bools n l], [.bools m l'] => ([.bools (n + m) (l ++ l')], decide (l.length = n))
  | [.avs l], [.avs l'] => ([.avs (l ++ l')], true)
  | b, [] => (b, true)
  | b, c => (b ++ c, true)

theorem segsApp_spec {b c : List Seg} (h : (segsApp b c).2 = true) : segsSize (segsApp b c).1 = segsSize b + segsSize c ∧ ∀ j, segsCell (segsApp b c).1 j = if j < segsSize b then segsCell b j else segsCell c (j - segsSize b) := by
  unfold segsApp at h ⊢
  split at h
  · exact ⟨by simp [segsSize], fun j => by simp [segsSize]⟩
  · rename_i k n l k' m l'
    split at h
    · rename_i hk
      subst hk
      rw [if_pos rfl]
      simp only [decide_eq_true_eq] at h
      refine ⟨by simp [segsSize, Seg.size], fun j => ?_⟩
      have hs : segsSize [Seg.ints k n l] = n := by simp [segsSize, Seg.size]
      rw [hs]
      simp only [segsCell_one, Seg.cell, List.getD_eq_getElem?_getD]
      by_cases hj : j < n
      · rw [if_pos (by omega), if_pos hj, if_pos hj, List.getElem?_append_left (by omega)]
      · rw [if_neg hj, List.getElem?_append_right (by omega), h]
        by_cases hj2 : j < n + m
        · rw [if_pos hj2, if_pos (by omega)]
        · rw [if_neg hj2, if_neg (by omega)]
    · rename_i hk
      rw [if_neg hk]
      exact ⟨by simp [segsSize], fun j => segsCell_append [_] [_] j⟩
  · rename_i n l m l'
    simp only [decide_eq_true_eq] at h
    refine ⟨by simp [segsSize, Seg.size], fun j => ?_⟩
    have hs : segsSize [Seg.bools n l] = n := by simp [segsSize, Seg.size]
    rw [hs]
    simp only [segsCell_one, Seg.cell, List.getD_eq_getElem?_getD]
    by_cases hj : j < n
    · rw [if_pos (by omega), if_pos hj, if_pos hj, List.getElem?_append_left (by omega)]
    · rw [if_neg hj, List.getElem?_append_right (by omega), h]
      by_cases hj2 : j < n + m
      · rw [if_pos hj2, if_pos (by omega)]
      · rw [if_neg hj2, if_neg (by omega)]
  · rename_i l l'
    refine ⟨by simp [segsSize, Seg.size], fun j => ?_⟩
    have hs : segsSize [Seg.avs l] = l.length := by simp [segsSize, Seg.size]
    rw [hs]
    simp only [segsCell_one, Seg.cell]
    by_cases hj : j < l.length
    · rw [if_pos hj, List.getElem?_append_left hj]
    · rw [if_neg hj, List.getElem?_append_right (by omega)]
  · refine ⟨by simp [segsSize], fun j => ?_⟩
    split
    · rfl
    · rename_i hj
      cases hc : segsCell _ j with
      | none => simp [segsCell]
      | some x => exact absurd (segsCell_lt hc) hj
  · exact ⟨segsSize_append _ _, segsCell_append _ _⟩

end
end Go.Proofs.Ytfcfdedbbhdioaa.AI
