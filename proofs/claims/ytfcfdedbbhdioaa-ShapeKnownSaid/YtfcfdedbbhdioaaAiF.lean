/- AI F: memory that is written no more; lent memory. -/
import Derived.Test.YtfcfdedbbhdioaaAi11
namespace Go.Proofs.Ytfcfdedbbhdioaa.AI
noncomputable section
open Go
set_option linter.unusedVariables false
set_option linter.unusedSimpArgs false

def frzS (f : AV → Option AV) : List Seg → Option (List Seg)
  | [] => some []
  | .avs l :: b =>
    match l.mapM f, frzS f b with
    | some l', some b' => some (.avs l' :: b')
    | _, _ => none
  | s :: b => match frzS f b with | some b' => some (s :: b') | none => none

/-- The value, with all memory behind it, as of memory that nobody writes. -/
def frz : Nat → List Row → AV → Option AV
  | 0, _, _ => none
  | d + 1, rows, x =>
    match x with
    | .sl k o ln sz =>
      match rows[k]? with
      | some (.blob _ b) => match subAt b o 0 (ln * sz) with | (b', true) => (frzS (frz d rows) b').map (.fsl ln sz) | _ => none
      | _ => none
    | .ptr k o i =>
      match rows[k]? with
      | some (.blob _ b) => (frzS (frz d rows) b).map fun b' => .fptr (.agg b') o i
      | _ => none
    | .agg b => (frzS (frz d rows) b).map .agg
    | .tup l => (l.mapM (frz d rows)).map .tup
    | .fn f l => (l.mapM (frz d rows)).map (.fn f)
    | .ifc t x => (frz d rows x).map (.ifc t)
    | .mp _ | .junk | .junk1 => none
    | x => some x

theorem mapM_get {α β : Type} {f : α → Option β} : ∀ {l : List α} {r : List β}, l.mapM f = some r → r.length = l.length ∧ ∀ (j : Nat) (y : β), r[j]? = some y → ∃ x, l[j]? = some x ∧ f x = some y
  | [], r, h => by simp at h; subst h; exact ⟨rfl, fun j x hj => by simp at hj⟩
  | x :: l, r, h => by
    simp only [List.mapM_cons, Option.bind_eq_bind, Option.pure_def] at h
    cases hx : f x with
    | none => simp [hx] at h
    | some y =>
      cases hl : l.mapM f with
      | none => simp [hx, hl] at h
      | some ys =>
        simp [hx, hl] at h
        subst h
        obtain ⟨h1, h2⟩ := mapM_get hl
        refine ⟨by simp [h1], fun j z hj => ?_⟩
        cases j with
        | zero => simp at hj; subst hj; exact ⟨x, rfl, hx⟩
        | succ j => simpa using h2 j z (by simpa using hj)

theorem segsCell_avs (l : List AV) (b : List Seg) (j : Nat) : segsCell (.avs l :: b) j = if j < l.length then l[j]? else segsCell b (j - l.length) := rfl

theorem frzS_spec {f : AV → Option AV} : ∀ {b b' : List Seg}, frzS f b = some b' → segsSize b' = segsSize b ∧
    ∀ (j : Nat) (y : AV), segsCell b' j = some y → ∃ x, segsCell b j = some x ∧ (f x = some y ∨ (y = x ∧ ((∃ v, x = .c v) ∨ ∃ z, x = .fz z)))
  | [], b', h => by simp [frzS] at h; subst h; exact ⟨rfl, fun j y hy => by simp [segsCell] at hy⟩
  | .avs l :: b, b', h => by
    simp only [frzS] at h
    split at h
    · rename_i l' b'' h1 h2
      injection h with h
      subst h
      obtain ⟨h3, h4⟩ := frzS_spec h2
      obtain ⟨h5, h6⟩ := mapM_get h1
      refine ⟨by simp [segsSize, Seg.size, h3, h5], fun j y hy => ?_⟩
      rw [segsCell_avs] at hy ⊢
      rw [h5] at hy
      split at hy
      · rename_i hj
        rw [if_pos hj]
        obtain ⟨x, hx, hfx⟩ := h6 j y hy
        exact ⟨x, hx, .inl hfx⟩
      · rename_i hj
        rw [if_neg hj]
        exact h4 _ _ hy
    · cases h
  | .ints k n l :: b, b', h => by
    simp only [frzS] at h
    split at h
    · rename_i b'' h2
      injection h with h
      subst h
      obtain ⟨h3, h4⟩ := frzS_spec h2
      refine ⟨by simp [segsSize, Seg.size, h3], fun j y hy => ?_⟩
      simp only [segsCell] at hy ⊢
      split at hy
      · rename_i hj
        rw [if_pos hj]
        refine ⟨y, hy, .inr ⟨rfl, ?_⟩⟩
        simp only [Seg.cell] at hy
        split at hy <;> simp at hy
        exact .inl ⟨_, hy.symm⟩
      · rename_i hj
        rw [if_neg hj]
        exact h4 _ _ hy
    · cases h
  | .bools n l :: b, b', h => by
    simp only [frzS] at h
    split at h
    · rename_i b'' h2
      injection h with h
      subst h
      obtain ⟨h3, h4⟩ := frzS_spec h2
      refine ⟨by simp [segsSize, Seg.size, h3], fun j y hy => ?_⟩
      simp only [segsCell] at hy ⊢
      split at hy
      · rename_i hj
        rw [if_pos hj]
        refine ⟨y, hy, .inr ⟨rfl, ?_⟩⟩
        simp only [Seg.cell] at hy
        split at hy <;> simp at hy
        exact .inl ⟨_, hy.symm⟩
      · rename_i hj
        rw [if_neg hj]
        exact h4 _ _ hy
    · cases h
  | .recs sz n g :: b, b', h => by
    simp only [frzS] at h
    split at h
    · rename_i b'' h2
      injection h with h
      subst h
      obtain ⟨h3, h4⟩ := frzS_spec h2
      refine ⟨by simp [segsSize, Seg.size, h3], fun j y hy => ?_⟩
      simp only [segsCell] at hy ⊢
      split at hy
      · rename_i hj
        rw [if_pos hj]
        refine ⟨y, hy, .inr ⟨rfl, ?_⟩⟩
        simp only [Seg.cell] at hy
        split at hy <;> simp at hy
        exact .inr ⟨_, hy.symm⟩
      · rename_i hj
        rw [if_neg hj]
        exact h4 _ _ hy
    · cases h

theorem frz_one : ∀ (d : Nat) {rows : List Row} {x y : AV}, frz d rows x = some y → x.one = true → y.one = true
  | 0, rows, x, y, h, _ => by simp [frz] at h
  | d + 1, rows, x, y, h, hx => by
    cases x <;> simp only [frz, AV.one, Option.map_eq_some_iff, Option.some.injEq, reduceCtorEq] at h hx
    case c => subst h; exact hx
    case ptr => split at h <;> simp at h; obtain ⟨_, _, rfl⟩ := h; rfl
    case sl =>
      split at h
      · split at h <;> simp at h
        obtain ⟨_, _, rfl⟩ := h; rfl
      · cases h
    case fptr => subst h; rfl
    case fsl => subst h; rfl
    case fn => obtain ⟨_, _, rfl⟩ := h; rfl
    case ifc => obtain ⟨_, _, rfl⟩ := h; rfl
    case fz => subst h; exact hx

/-- With all rows' blocks. -/
def allR (R : Nat → Prop) (L : Nat → Place) (b : Nat) : Prop := R b ∨ ∃ k, L k = .at_ b

theorem frz_fr {w : World} {R : Nat → Prop} {L : Nat → Place} {rows : List Row} (hr : RowsOK w R L rows) : ∀ (d : Nat) {x y : AV} {v : Value}, VR w R L x v → frz d rows x = some y → FR w (allR R L) y v
  | 0, x, y, v, _, h => by simp [frz] at h
  | d + 1, x, y, v, hv, h => by
    have up : ∀ {x v}, FR w R x v → FR w (allR R L) x v := fun h => h.mono (fun b hb => .inl hb) fun _ _ => rfl
    have cell : ∀ {x y u}, VR w R L x u → (frz d rows x = some y ∨ (y = x ∧ ((∃ v, x = .c v) ∨ ∃ z, x = .fz z))) → FR w (allR R L) y u := by
      intro x y u hx hy
      rcases hy with hy | ⟨rfl, ⟨_, rfl⟩ | ⟨_, rfl⟩⟩
      · exact frz_fr hr d hx hy
      · cases hx with | fr _ _ h => exact up h
      · cases hx with | fr _ _ h => exact up h
    have cell1 : ∀ {x y : AV}, x.one = true → (frz d rows x = some y ∨ (y = x ∧ ((∃ v, x = .c v) ∨ ∃ z, x = .fz z))) → y.one = true := by
      intro x y hx hy
      rcases hy with hy | ⟨rfl, _⟩
      · exact frz_one d hy hx
      · exact hx
    have frcell : ∀ {x y u}, FR w R x u → (frz d rows x = some y ∨ (y = x ∧ ((∃ v, x = .c v) ∨ ∃ z, x = .fz z))) → FR w (allR R L) y u := fun hx hy => cell (.fr _ _ hx) hy
    have list : ∀ {l l' : List AV} {vs : Array Value}, (∀ (j : Nat) (y : AV) (v : Value), l[j]? = some y → vs[j]? = some v → VR w R L y v) → l.mapM (frz d rows) = some l' →
        l'.length = l.length ∧ ∀ (j : Nat) (y : AV) (v : Value), l'[j]? = some y → vs[j]? = some v → FR w (allR R L) y v := by
      intro l l' vs hl hm
      obtain ⟨h1, h2⟩ := mapM_get hm
      refine ⟨h1, fun j y v hy hv => ?_⟩
      obtain ⟨x, hx, hxy⟩ := h2 j y hy
      exact frz_fr hr d (hl j x v hx hv) hxy
    have blob : ∀ {k g : Nat} {t : TypeId} {b : List Seg}, rows[k]? = some (.blob t b) → L k = .at_ g → ∃ cs, w.heap[g]? = some (.cells cs t (0, 0)) ∧ allR R L g ∧ segsSize b ≤ cs.size ∧
        ∀ (j : Nat) (y : AV) (v : Value), segsCell b j = some y → cs[j]? = some v → VR w R L y v ∧ y.one = true := by
      intro k g t b hk hg
      have := hr.row k _ hk
      rw [hg] at this
      obtain ⟨_, cs, h1, h2, h3⟩ := this
      exact ⟨cs, h1, .inr ⟨k, hg⟩, h2, h3⟩
    cases x with
    | c v' => simp only [frz, Option.some.injEq] at h; subst h; cases hv with | fr _ _ h => exact up h
    | fptr => simp only [frz, Option.some.injEq] at h; subst h; cases hv with | fr _ _ h => exact up h
    | fsl => simp only [frz, Option.some.injEq] at h; subst h; cases hv with | fr _ _ h => exact up h
    | fz => simp only [frz, Option.some.injEq] at h; subst h; cases hv with | fr _ _ h => exact up h
    | junk => simp [frz] at h
    | junk1 => simp [frz] at h
    | mp => simp [frz] at h
    | agg b =>
      simp only [frz, Option.map_eq_some_iff] at h
      obtain ⟨b', hb', rfl⟩ := h
      obtain ⟨h1, h2⟩ := frzS_spec hb'
      cases hv with
      | fr _ _ hf =>
        cases hf with
        | agg _ cs hsz ho hv =>
          exact .agg b' cs (by rw [h1]; exact hsz) (fun j y hy => let ⟨x, hx, hxy⟩ := h2 j y hy; cell1 (ho j x hx) hxy) fun j y u hy hu => let ⟨x, hx, hxy⟩ := h2 j y hy; frcell (hv j x u hx hu) hxy
      | agg _ cs hsz ho hv =>
        exact .agg b' cs (by rw [h1]; exact hsz) (fun j y hy => let ⟨x, hx, hxy⟩ := h2 j y hy; cell1 (ho j x hx) hxy) fun j y u hy hu => let ⟨x, hx, hxy⟩ := h2 j y hy; cell (hv j x u hx hu) hxy
    | tup l =>
      simp only [frz, Option.map_eq_some_iff] at h
      obtain ⟨l', hl', rfl⟩ := h
      cases hv with
      | fr _ _ hf => cases hf with | tup _ vs hsz hv => obtain ⟨h1, h2⟩ := list (fun j y v hy hv' => .fr _ _ (hv j y v hy hv')) hl'; exact .tup l' vs (by rw [h1]; exact hsz) h2
      | tup _ vs hsz hv => obtain ⟨h1, h2⟩ := list hv hl'; exact .tup l' vs (by rw [h1]; exact hsz) h2
    | fn f l =>
      simp only [frz, Option.map_eq_some_iff] at h
      obtain ⟨l', hl', rfl⟩ := h
      cases hv with
      | fr _ _ hf => cases hf with | fn _ _ vs hsz hv => obtain ⟨h1, h2⟩ := list (fun j y v hy hv' => .fr _ _ (hv j y v hy hv')) hl'; exact .fn f l' vs (by rw [h1]; exact hsz) h2
      | fn _ _ vs hsz hv => obtain ⟨h1, h2⟩ := list hv hl'; exact .fn f l' vs (by rw [h1]; exact hsz) h2
    | ifc t x =>
      simp only [frz, Option.map_eq_some_iff] at h
      obtain ⟨x', hx', rfl⟩ := h
      cases hv with
      | fr _ _ hf => cases hf with | ifc _ _ u hu => exact .ifc t x' u (frz_fr hr d (.fr _ _ hu) hx')
      | ifc _ _ u hu => exact .ifc t x' u (frz_fr hr d hu hx')
    | ptr k o i =>
      simp only [frz] at h
      split at h
      · rename_i t b hk
        simp only [Option.map_eq_some_iff] at h
        obtain ⟨b', hb', rfl⟩ := h
        obtain ⟨h1, h2⟩ := frzS_spec hb'
        cases hv with
        | fr _ _ hf => cases hf
        | ptrGone _ _ _ _ hL => have := hr.row k _ hk; rw [hL] at this; exact this.elim
        | ptr _ _ _ g hL =>
          obtain ⟨cs, h3, h4, h5, h6⟩ := blob hk hL
          have get : ∀ (j : Nat) (y : AV), segsCell b' j = some y → ∃ x, segsCell b j = some x ∧ (frz d rows x = some y ∨ (y = x ∧ ((∃ v, x = .c v) ∨ ∃ z, x = .fz z))) ∧ cs[j]? = some (cs.getD j undef) := by
            intro j y hy
            obtain ⟨x, hx, hxy⟩ := h2 j y hy
            have : j < cs.size := Nat.lt_of_lt_of_le (segsCell_lt hx) h5
            exact ⟨x, hx, hxy, by simp [this]⟩
          have := FR.fptr (w := w) (R := allR R L) (.agg b') o i g 0 cs t (0, 0) h3 h4 (fun j => cs.getD j undef)
            (fun j y hy => by obtain ⟨x, _, _, hc⟩ := get j y hy; rw [Nat.zero_add]; exact hc)
            (fun j y hy => by obtain ⟨x, hx, hxy, hc⟩ := get j y hy; exact cell1 (h6 j x _ hx hc).2 hxy)
            (fun j y hy => by obtain ⟨x, hx, hxy, hc⟩ := get j y hy; exact cell (h6 j x _ hx hc).1 hxy)
          rw [Nat.zero_add] at this
          exact this
      · cases h
    | sl k o ln sz =>
      simp only [frz] at h
      split at h
      · rename_i t b hk
        split at h
        · rename_i bs hbs
          simp only [Option.map_eq_some_iff] at h
          obtain ⟨b', hb', rfl⟩ := h
          obtain ⟨h1, h2⟩ := frzS_spec hb'
          obtain ⟨h7, h8, h9⟩ := subAt_spec (b := b) (o := o) (i := 0) (n := ln * sz) (by rw [hbs])
          rw [hbs] at h7 h9
          simp only at h7 h9
          cases hv with
          | fr _ _ hf => cases hf
          | slGone _ _ _ _ _ _ _ hL => have := hr.row k _ hk; rw [hL] at this; exact this.elim
          | slNil _ _ hL => exact .fslNil sz b' none 0 (by rw [h1, h7]; simp)
          | sl _ _ _ _ g cap cs' t' fr' hL hb hl hcap hm =>
            obtain ⟨cs, h3, h4, h5, h6⟩ := blob hk hL
            have get : ∀ (j : Nat) (y : AV), segsCell b' j = some y → ∃ x x', segsCell b (o + 0 + j) = some x' ∧ x'.may x ∧ (frz d rows x = some y ∨ (y = x ∧ ((∃ v, x = .c v) ∨ ∃ z, x = .fz z))) ∧ cs[o + j]? = some (cs.getD (o + j) undef) := by
              intro j y hy
              obtain ⟨x, hx, hxy⟩ := h2 j y hy
              obtain ⟨x', hx', hm'⟩ := h9 j x hx
              have : o + j < cs.size := by have := segsCell_lt hx'; omega
              exact ⟨x, x', hx', hm', hxy, by simp [this]⟩
            refine FR.fsl ln sz b' g o cap cs t (0, 0) h3 h4 (fun j => cs.getD (o + j) undef) (by rw [h1, h7]) hl (fun j y hy => ?_) (fun j y hy => ?_) fun j y hy => ?_
            · obtain ⟨x, x', _, _, _, hc⟩ := get j y hy; exact hc
            · obtain ⟨x, x', hx, hm', hxy, hc⟩ := get j y hy
              exact cell1 (may_one hm' (h6 _ x' _ hx (by rw [Nat.add_zero]; exact hc)).2) hxy
            · obtain ⟨x, x', hx, hm', hxy, hc⟩ := get j y hy
              exact cell (may_vr hm' (h6 _ x' _ hx (by rw [Nat.add_zero]; exact hc)).1) hxy
        · cases h
      · cases h

/-- A value that says nothing of memory. -/
def AV.plain : Nat → AV → Bool
  | 0, _ => false
  | n + 1, x =>
    match x with
    | .c _ => true
    | .agg b => b.all fun s => match s with | .avs l => l.all (AV.plain n) | .recs .. => false | _ => true
    | .tup l => l.all (AV.plain n)
    | .fn _ caps => caps.all (AV.plain n)
    | .ifc _ x => AV.plain n x
    | _ => false

theorem plain_cell {n : Nat} {b : List Seg} (h : (b.all fun s => match s with | .avs l => l.all (AV.plain n) | .recs .. => false | _ => true) = true) :
    ∀ j y, segsCell b j = some y → (∃ v, y = .c v) ∨ AV.plain n y = true := by
  induction b with
  | nil => intro j y hy; simp [segsCell] at hy
  | cons s b ih =>
    intro j y hy
    simp only [List.all_cons, Bool.and_eq_true] at h
    simp only [segsCell] at hy
    split at hy
    · cases s with
      | ints k n l => simp only [Seg.cell] at hy; split at hy <;> simp at hy; exact .inl ⟨_, hy.symm⟩
      | bools n l => simp only [Seg.cell] at hy; split at hy <;> simp at hy; exact .inl ⟨_, hy.symm⟩
      | avs l =>
        simp only [Seg.cell] at hy
        exact .inr (List.all_eq_true.1 h.1 y (List.mem_of_getElem? hy))
      | recs sz n f => simp at h
    · exact ih h.2 _ _ hy

theorem plain_fr {w : World} {R R' : Nat → Prop} {L : Nat → Place} : ∀ (n : Nat) {x : AV} {v : Value}, VR w R L x v → x.plain n = true → FR w R' x v
  | 0, x, v, _, h => by simp [AV.plain] at h
  | n + 1, x, v, hv, h => by
    have cell : ∀ y u, VR w R L y u → ((∃ v, y = .c v) ∨ AV.plain n y = true) → FR w R' y u := by
      intro y u hy hc
      rcases hc with ⟨v', rfl⟩ | hp
      · cases hy with | fr _ _ h => cases h; exact .c _
      · exact plain_fr n hy hp
    cases hv with
    | fr _ _ hf =>
      cases hf with
      | c => exact .c _
      | agg b cs hsz h1 hv => simp only [AV.plain] at h; exact .agg b cs hsz h1 fun j y u hy hu => cell y u (.fr _ _ (hv j y u hy hu)) (plain_cell h j y hy)
      | tup l vs hsz hv => simp only [AV.plain] at h; exact .tup l vs hsz fun j y u hy hu => cell y u (.fr _ _ (hv j y u hy hu)) (.inr (List.all_eq_true.1 h y (List.mem_of_getElem? hy)))
      | fn f caps vs hsz hv => simp only [AV.plain] at h; exact .fn f caps vs hsz fun j y u hy hu => cell y u (.fr _ _ (hv j y u hy hu)) (.inr (List.all_eq_true.1 h y (List.mem_of_getElem? hy)))
      | ifc t x v hx => simp only [AV.plain] at h; exact .ifc t x v (plain_fr (L := L) n (.fr _ _ hx) h)
      | _ => simp [AV.plain] at h
    | agg b cs hsz h1 hv => simp only [AV.plain] at h; exact .agg b cs hsz h1 fun j y u hy hu => cell y u (hv j y u hy hu) (plain_cell h j y hy)
    | tup l vs hsz hv => simp only [AV.plain] at h; exact .tup l vs hsz fun j y u hy hu => cell y u (hv j y u hy hu) (.inr (List.all_eq_true.1 h y (List.mem_of_getElem? hy)))
    | fn f caps vs hsz hv => simp only [AV.plain] at h; exact .fn f caps vs hsz fun j y u hy hu => cell y u (hv j y u hy hu) (.inr (List.all_eq_true.1 h y (List.mem_of_getElem? hy)))
    | ifc t x v hx => simp only [AV.plain] at h; exact .ifc t x v (plain_fr n hx h)
    | _ => simp [AV.plain] at h

/-- Arguments of a call that writes none of our rows: of quiet memory, or lent. -/
def lend (lent : Bool) (rows : List Row) (x : AV) : Option AV := if lent then frz 8 rows x else if x.pur 6 then some x else none

def unbornL (_ : Nat) : Place := .unborn

section
variable {w : World} {R : Nat → Prop} {L : Nat → Place} {rows : List Row}

theorem unborn_rows (hr : RowsOK w R L rows) (lent : Bool) : RowsOK w (if lent then allR R L else R) unbornL [] := by
  refine ⟨fun k r h => by simp at h, fun _ _ => rfl, fun b hb => ?_, fun k k' b h => by cases h⟩
  cases lent
  · exact hr.ro b hb
  · rcases hb with hb | ⟨k, hk⟩
    · exact hr.ro b hb
    · exact hr.block_lt hk

theorem lend_vr (hr : RowsOK w R L rows) {lent : Bool} {x y : AV} {v : Value} (hx : VR w R L x v) (h : lend lent rows x = some y) : VR w (if lent then allR R L else R) unbornL y v := by
  unfold lend at h
  cases lent
  · simp only [Bool.false_eq_true, if_false] at h ⊢
    split at h
    · injection h with h
      subst h
      exact .fr _ _ (pur_fr 6 hx ‹_›)
    · cases h
  · simp only [if_true] at h ⊢
    exact .fr _ _ (frz_fr hr 8 hx h)

/-- The rows behind a call that was lent them. -/
theorem lent_back (hr : RowsOK w R L rows) {lent : Bool} {w1 : World} {R1 : Nat → Prop} {L1 : Nat → Place} (hs : Step w (if lent then allR R L else R) unbornL w1 R1 L1) (hr1 : RowsOK w1 R1 L1 []) {r : AV} {v : Value} (hv : VR w1 R1 L1 r v)
    (hp : (if lent then r.plain 6 else r.pur 6) = true) : ∃ R2, Step w R L w1 R2 L ∧ RowsOK w1 R2 L rows ∧ VR w1 R2 L r v ∧ (∀ b, R b → R2 b) := by
  have hnew : ∀ b, Mine w unbornL b → w.heap.size ≤ b := fun b hb => hb.elim id fun ⟨k, hk⟩ => by cases hk
  have hold : ∀ b, b < w.heap.size → w1.heap[b]? = w.heap[b]? := fun b hb => hs.frm.block b hb fun q => by have := hnew b q; omega
  let R2 : Nat → Prop := fun b => R1 b ∧ ¬ ∃ k, L k = .at_ b
  have hR2 : ∀ b, R b → R2 b := fun b hb => ⟨hs.frm.ro b (by
    cases lent
    · exact hb
    · exact .inl hb), fun ⟨k, hk⟩ => hr.notR hk hb⟩
  have hstep : Step w R L w1 R2 L := by
    refine ⟨⟨hs.frm.os, hs.frm.tape, hs.frm.output, hs.frm.size, fun b hb _ => hold b hb, hR2, fun b hb => ?_, fun k b hk => .inr ⟨k, hk⟩⟩, fun k _ => .inr ⟨rfl, fun b cs t fr hL hb => ⟨cs, t, fr, by rw [hold b (Array.getElem?_eq_some_iff.1 hb).1]; exact hb, rfl⟩⟩⟩
    rcases hs.frm.ro' b hb.1 with h | h
    · cases lent
      · exact .inl h
      · rcases h with h | h
        · exact .inl h
        · exact absurd h hb.2
    · exact .inr (.inl (hnew b h))
  refine ⟨R2, hstep, ⟨fun k r hk => Row.holds_mono (hr.row k r hk) (fun _ _ => hstep.vr hr) fun b hb => ⟨hold b (hr.block_lt hb), fun q => q.2 ⟨k, hb⟩⟩, hr.none, fun b hb => hr1.ro b hb.1, hr.inj⟩, ?_, hR2⟩
  cases lent
  · simp only [Bool.false_eq_true, if_false] at hp hs
    have hf := pur_fr 6 hv hp
    refine .fr _ _ (hf.mono (fun b hb => ⟨hb, fun ⟨k, hk⟩ => ?_⟩) fun _ _ => rfl)
    rcases hs.frm.ro' b hb with h | h
    · exact hr.notR hk h
    · have := hnew b h; have := hr.block_lt hk; omega
  · simp only [if_true] at hp
    exact .fr _ _ (plain_fr 6 hv hp)

end

/-- Of rows and plain values alone. -/
def AV.own : Nat → AV → Bool
  | 0, _ => false
  | n + 1, x =>
    match x with
    | .c _ | .ptr .. | .sl .. => true
    | .agg b => b.all fun s => match s with | .avs l => l.all (AV.own n) | .recs .. => false | _ => true
    | .tup l => l.all (AV.own n)
    | _ => false

def Row.own : Row → Bool
  | .blob _ b => (AV.agg b).own 6
  | .dead => true
  | _ => false

theorem own_cell {n : Nat} {b : List Seg} (h : (b.all fun s => match s with | .avs l => l.all (AV.own n) | .recs .. => false | _ => true) = true) :
    ∀ j y, segsCell b j = some y → (∃ v, y = .c v) ∨ AV.own n y = true := by
  induction b with
  | nil => intro j y hy; simp [segsCell] at hy
  | cons s b ih =>
    intro j y hy
    simp only [List.all_cons, Bool.and_eq_true] at h
    simp only [segsCell] at hy
    split at hy
    · cases s with
      | ints k n l => simp only [Seg.cell] at hy; split at hy <;> simp at hy; exact .inl ⟨_, hy.symm⟩
      | bools n l => simp only [Seg.cell] at hy; split at hy <;> simp at hy; exact .inl ⟨_, hy.symm⟩
      | avs l =>
        simp only [Seg.cell] at hy
        exact .inr (List.all_eq_true.1 h.1 y (List.mem_of_getElem? hy))
      | recs sz n f => simp at h
    · exact ih h.2 _ _ hy

theorem own_vr {w : World} {R R' : Nat → Prop} {L : Nat → Place} : ∀ (n : Nat) {x : AV} {v : Value}, VR w R L x v → x.own n = true → VR w R' L x v
  | 0, x, v, _, h => by simp [AV.own] at h
  | n + 1, x, v, hv, h => by
    have cell : ∀ y u, VR w R L y u → ((∃ v, y = .c v) ∨ AV.own n y = true) → VR w R' L y u := by
      intro y u hy hc
      rcases hc with ⟨v', rfl⟩ | hp
      · cases hy with | fr _ _ h => cases h; exact .fr _ _ (.c _)
      · exact own_vr n hy hp
    cases hv with
    | fr _ _ hf =>
      cases hf with
      | c => exact .fr _ _ (.c _)
      | agg b cs hsz h1 hv => simp only [AV.own] at h; exact .agg b cs hsz h1 fun j y u hy hu => cell y u (.fr _ _ (hv j y u hy hu)) (own_cell h j y hy)
      | tup l vs hsz hv => simp only [AV.own] at h; exact .tup l vs hsz fun j y u hy hu => cell y u (.fr _ _ (hv j y u hy hu)) (.inr (List.all_eq_true.1 h y (List.mem_of_getElem? hy)))
      | _ => simp [AV.own] at h
    | ptrGone k off ix a h' => exact .ptrGone k off ix a h'
    | ptr k off ix b h' => exact .ptr k off ix b h'
    | slGone k off len sz a n' cap h' => exact .slGone k off len sz a n' cap h'
    | slNil k sz h' => exact .slNil k sz h'
    | sl k off len sz b cap cs t fr h' hb hl hcap hm => exact .sl k off len sz b cap cs t fr h' hb hl hcap hm
    | agg b cs hsz h1 hv => simp only [AV.own] at h; exact .agg b cs hsz h1 fun j y u hy hu => cell y u (hv j y u hy hu) (own_cell h j y hy)
    | tup l vs hsz hv => simp only [AV.own] at h; exact .tup l vs hsz fun j y u hy hu => cell y u (hv j y u hy hu) (.inr (List.all_eq_true.1 h y (List.mem_of_getElem? hy)))
    | _ => simp [AV.own] at h

theorem own_row {w : World} {R R' : Nat → Prop} {L : Nat → Place} {r : Row} {p : Place} (h : r.holds w R L p) (ho : r.own = true) (hn : ∀ b, p = .at_ b → ¬ R' b) : r.holds w R' L p := by
  cases r with
  | dead => exact h
  | map es => simp [Row.own] at ho
  | blob t b =>
    cases p with
    | at_ g =>
      obtain ⟨h1, cs, h2, h3, h4⟩ := h
      refine ⟨hn g rfl, cs, h2, h3, fun j y v hy hv => ?_⟩
      have := h4 j y v hy hv
      refine ⟨?_, this.2⟩
      rcases own_cell (n := 5) (by simpa [Row.own, AV.own] using ho) j y hy with ⟨u, rfl⟩ | q
      · cases this.1 with | fr _ _ h => cases h; exact .fr _ _ (.c _)
      · exact own_vr 5 this.1 q
    | _ => exact h

/-- Are rows lent? 2: the result is plain; 4: the result is of rows of its own. -/
def lentOf (m : Nat) : Bool := Nat.beq m 2 || Nat.beq m 4

/-- What comes back of a call that was lent rows, or saw quiet memory alone. -/
def lentBack (m : Nat) (r : AV) (rows1 : List Row) : Option AV :=
  if Nat.beq m 4 then (if r.own 6 && rows1.all Row.own then frz 8 rows1 r else none)
  else match rows1 with
    | [] => if (if Nat.beq m 2 then r.plain 6 else r.pur 6) then some r else none
    | _ :: _ => none

theorem lent_back2 {w : World} {R : Nat → Prop} {L : Nat → Place} {rows : List Row} (hr : RowsOK w R L rows) {m : Nat} {w1 : World} {R1 : Nat → Prop} {L1 : Nat → Place} {rows1 : List Row} (hs : Step w (if lentOf m then allR R L else R) unbornL w1 R1 L1) (hr1 : RowsOK w1 R1 L1 rows1)
    {r r' : AV} {v : Value} (hv : VR w1 R1 L1 r v) (hb : lentBack m r rows1 = some r') : ∃ R2, Step w R L w1 R2 L ∧ RowsOK w1 R2 L rows ∧ VR w1 R2 L r' v ∧ (∀ b, R b → R2 b) := by
  unfold lentBack at hb
  by_cases hm : m = 4
  · subst hm
    simp only [show Nat.beq 4 4 = true from rfl, if_true] at hb
    split at hb
    rotate_left
    · cases hb
    rename_i ho
    simp only [Bool.and_eq_true] at ho
    simp only [lentOf, show Nat.beq 4 4 = true from rfl, Bool.or_true, if_true] at hs
    have hnew : ∀ b, Mine w unbornL b → w.heap.size ≤ b := fun b hb => hb.elim id fun ⟨k, hk⟩ => by cases hk
    have hold : ∀ b, b < w.heap.size → w1.heap[b]? = w.heap[b]? := fun b hb => hs.frm.block b hb fun q => by have := hnew b q; omega
    have hL1 : ∀ k b, L1 k = .at_ b → w.heap.size ≤ b := fun k b hk => hnew b (hs.frm.mine k b hk)
    let R2 : Nat → Prop := fun b => (R1 b ∨ ∃ k, L1 k = .at_ b) ∧ ¬ ∃ k, L k = .at_ b
    have hR2 : ∀ b, R b → R2 b := fun b hb => ⟨.inl (hs.frm.ro b (.inl hb)), fun ⟨k, hk⟩ => hr.notR hk hb⟩
    have hstep : Step w R L w1 R2 L := by
      refine ⟨⟨hs.frm.os, hs.frm.tape, hs.frm.output, hs.frm.size, fun b hb _ => hold b hb, hR2, fun b hb => ?_, fun k b hk => .inr ⟨k, hk⟩⟩, fun k _ => .inr ⟨rfl, fun b cs t fr hL hb => ⟨cs, t, fr, by rw [hold b (Array.getElem?_eq_some_iff.1 hb).1]; exact hb, rfl⟩⟩⟩
      rcases hb.1 with h1 | ⟨k, hk⟩
      · rcases hs.frm.ro' b h1 with h | h
        · rcases h with h | h
          · exact .inl h
          · exact absurd h hb.2
        · exact .inr (.inl (hnew b h))
      · exact .inr (.inl (hL1 k b hk))
    refine ⟨R2, hstep, ⟨fun k r hk => Row.holds_mono (hr.row k r hk) (fun _ _ => hstep.vr hr) fun b hb => ⟨hold b (hr.block_lt hb), fun q => q.2 ⟨k, hb⟩⟩, hr.none, fun b hb => ?_, hr.inj⟩, ?_, hR2⟩
    · rcases hb.1 with h | ⟨k, hk⟩
      · exact hr1.ro b h
      · exact hr1.block_lt hk
    · have hr2 : RowsOK w1 (fun _ => False) L1 rows1 := ⟨fun k r hk => own_row (hr1.row k r hk) (List.all_eq_true.1 ho.2 r (List.mem_of_getElem? hk)) (fun _ _ h => h), hr1.none, fun _ h => h.elim, hr1.inj⟩
      have hf := frz_fr hr2 8 (own_vr (R' := fun _ => False) 6 hv ho.1) hb
      refine .fr _ _ (hf.mono (fun b hb => ?_) fun _ _ => rfl)
      rcases hb with hb | ⟨k, hk⟩
      · exact hb.elim
      · refine ⟨.inr ⟨k, hk⟩, fun ⟨k', hk'⟩ => ?_⟩
        have := hr.block_lt hk'
        have := hL1 k b hk
        omega
  · have h4 : Nat.beq m 4 = false := by
      cases h : Nat.beq m 4 with
      | false => rfl
      | true => exact absurd (Nat.eq_of_beq_eq_true h) hm
    have hl : lentOf m = Nat.beq m 2 := by simp [lentOf, h4]
    rw [h4] at hb
    simp only [Bool.false_eq_true, if_false] at hb
    split at hb
    · by_cases hp : (if Nat.beq m 2 = true then r.plain 6 else r.pur 6) = true
      · rw [if_pos hp] at hb
        injection hb with hb
        subst hb
        rw [hl] at hs
        exact lent_back hr hs hr1 hv hp
      · rw [if_neg hp] at hb; cases hb
    · cases hb

end
end Go.Proofs.Ytfcfdedbbhdioaa.AI
