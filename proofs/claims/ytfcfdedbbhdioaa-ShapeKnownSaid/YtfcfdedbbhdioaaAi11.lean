/- AI 11: rows named anew: into a call and back; what is no longer reached is left out. -/
import Derived.Test.YtfcfdedbbhdioaaAi10
namespace Go.Proofs.Ytfcfdedbbhdioaa.AI
noncomputable section
open Go
set_option linter.unusedVariables false
set_option linter.unusedSimpArgs false

section
variable {w : World} {R : Nat → Prop} {L L' : Nat → Place}

theorem VR.agg_inv {b : List Seg} {v : Value} (h : VR w R L (.agg b) v) : ∃ cs, v = .agg cs ∧ cs.size = segsSize b ∧ (∀ (j : Nat) (y : AV), segsCell b j = some y → y.one = true) ∧
    ∀ (j : Nat) (y : AV) (u : Value), segsCell b j = some y → cs[j]? = some u → VR w R L y u := by
  cases h with
  | fr _ _ h => cases h with | agg _ cs hsz h1 hv => exact ⟨cs, rfl, hsz, h1, fun j y u hy hu => .fr _ _ (hv j y u hy hu)⟩
  | agg _ cs hsz h1 hv => exact ⟨cs, rfl, hsz, h1, hv⟩

theorem VR.tup_inv {l : List AV} {v : Value} (h : VR w R L (.tup l) v) : ∃ cs, v = .tuple cs ∧ cs.size = l.length ∧ ∀ (j : Nat) (y : AV) (u : Value), l[j]? = some y → cs[j]? = some u → VR w R L y u := by
  cases h with
  | fr _ _ h => cases h with | tup _ cs hsz hv => exact ⟨cs, rfl, hsz, fun j y u hy hu => .fr _ _ (hv j y u hy hu)⟩
  | tup _ cs hsz hv => exact ⟨cs, rfl, hsz, hv⟩

theorem VR.fn_inv {f : FuncId} {l : List AV} {v : Value} (h : VR w R L (.fn f l) v) : ∃ cs, v = .func (.func f) #[] cs ∧ cs.size = l.length ∧ ∀ (j : Nat) (y : AV) (u : Value), l[j]? = some y → cs[j]? = some u → VR w R L y u := by
  cases h with
  | fr _ _ h => cases h with | fn _ _ cs hsz hv => exact ⟨cs, rfl, hsz, fun j y u hy hu => .fr _ _ (hv j y u hy hu)⟩
  | fn _ _ cs hsz hv => exact ⟨cs, rfl, hsz, hv⟩

theorem VR.ifc_inv {t : TypeId} {x : AV} {v : Value} (h : VR w R L (.ifc t x) v) : ∃ u, v = .iface t u ∧ VR w R L x u := by
  cases h with
  | fr _ _ h => cases h with | ifc _ _ u h => exact ⟨u, rfl, .fr _ _ h⟩
  | ifc _ _ u h => exact ⟨u, rfl, h⟩

/-- Rows named anew. -/
def AV.ren : Nat → (Nat → Option Nat) → AV → AV
  | 0, _, x => if x.one then .junk1 else .junk
  | d + 1, ρ, x =>
    match x with
    | .ptr k o i => match ρ k with | some k' => .ptr k' o i | none => .junk1
    | .sl k o l sz => match ρ k with | some k' => .sl k' o l sz | none => .junk1
    | .mp k => match ρ k with | some k' => .mp k' | none => .junk1
    | .agg b => .agg (b.map fun s => match s with | .avs l => .avs (l.map (AV.ren d ρ)) | s => s)
    | .tup l => .tup (l.map (AV.ren d ρ))
    | .fn f l => .fn f (l.map (AV.ren d ρ))
    | .ifc t x => .ifc t (AV.ren d ρ x)
    | x => x

def segRen (d : Nat) (ρ : Nat → Option Nat) (s : Seg) : Seg := match s with | .avs l => .avs (l.map (AV.ren d ρ)) | s => s

theorem ren_one : ∀ (d : Nat) (ρ : Nat → Option Nat) (x : AV), (x.ren d ρ).one = x.one
  | 0, ρ, x => by simp only [AV.ren]; split <;> simp_all [AV.one]
  | d + 1, ρ, x => by
    cases x <;> simp only [AV.ren] <;> (try split) <;> simp [AV.one]

theorem segRen_size (d : Nat) (ρ : Nat → Option Nat) (s : Seg) : (segRen d ρ s).size = s.size := by cases s <;> simp [segRen, Seg.size]

theorem segsRen_size (d : Nat) (ρ : Nat → Option Nat) (b : List Seg) : segsSize (b.map (segRen d ρ)) = segsSize b := by
  induction b with
  | nil => rfl
  | cons s b ih => simp [segsSize, segRen_size, ih]

/-- A cell named anew, and what it was. -/
theorem segsRen_cell (d : Nat) (ρ : Nat → Option Nat) (b : List Seg) : ∀ (j : Nat) (y : AV), segsCell (b.map (segRen d ρ)) j = some y → ∃ x, segsCell b j = some x ∧ (y = x.ren d ρ ∨ (y = x ∧ ((∃ v, x = .c v) ∨ ∃ z, x = .fz z))) := by
  induction b with
  | nil => intro j y h; simp [segsCell] at h
  | cons s b ih =>
    intro j y h
    simp only [List.map_cons, segsCell, segRen_size] at h ⊢
    split at h
    · rename_i hj
      rw [if_pos hj]
      cases s with
      | ints k n l => exact ⟨y, h, .inr ⟨rfl, by simp only [segRen, Seg.cell] at h; split at h <;> simp at h; exact .inl ⟨_, h.symm⟩⟩⟩
      | bools n l => exact ⟨y, h, .inr ⟨rfl, by simp only [segRen, Seg.cell] at h; split at h <;> simp at h; exact .inl ⟨_, h.symm⟩⟩⟩
      | recs sz n f => exact ⟨y, h, .inr ⟨rfl, by simp only [segRen, Seg.cell] at h; split at h <;> simp at h; exact .inr ⟨_, h.symm⟩⟩⟩
      | avs l =>
        simp only [segRen, Seg.cell, List.getElem?_map, Option.map_eq_some_iff] at h
        obtain ⟨x, hx, rfl⟩ := h
        exact ⟨x, hx, .inl rfl⟩
    · rename_i hj
      rw [if_neg hj]
      exact ih _ _ h

def RenOK (ρ : Nat → Option Nat) (L L' : Nat → Place) : Prop := ∀ k k', ρ k = some k' → L k = .unborn ∨ L' k' = L k

theorem ren_vr (ρ : Nat → Option Nat) (hρ : RenOK ρ L L') : ∀ (d : Nat) {x : AV} {v : Value}, VR w R L x v → VR w R L' (x.ren d ρ) v
  | 0, x, v, h => by
    simp only [AV.ren]
    split
    · exact .junk1 v (h.one ‹_›)
    · exact .junk v
  | d + 1, x, v, h => by
    have cell : ∀ {b : List Seg}, (∀ (j : Nat) (y : AV) (u : Value) (cs : Array Value), segsCell b j = some y → VR w R L y u → VR w R L' (y.ren d ρ) u) := fun j y u cs hy hu => ren_vr ρ hρ d hu
    cases x with
    | c u => exact .fr _ _ (by cases h with | fr _ _ h => exact h)
    | junk => exact .junk v
    | junk1 => cases h with
      | fr _ _ h => cases h
      | junk1 _ h => exact .junk1 v h
    | ptr k o i =>
      simp only [AV.ren]
      cases hk : ρ k with
      | none => exact .junk1 v (h.one rfl)
      | some k' =>
        rcases hρ k k' hk with hL | hL
        · cases h with
          | fr _ _ h => cases h
          | ptrGone _ _ _ a h => rw [h] at hL; cases hL
          | ptr _ _ _ b h => rw [h] at hL; cases hL
        · cases h with
          | fr _ _ h => cases h
          | ptrGone _ _ _ a h => exact .ptrGone k' o i a (hL.trans h)
          | ptr _ _ _ b h => exact .ptr k' o i b (hL.trans h)
    | sl k o l sz =>
      simp only [AV.ren]
      cases hk : ρ k with
      | none => exact .junk1 v (h.one rfl)
      | some k' =>
        rcases hρ k k' hk with hL | hL
        · cases h with
          | fr _ _ h => cases h
          | slGone _ _ _ _ a n c h => rw [h] at hL; cases hL
          | slNil _ _ h => rw [h] at hL; cases hL
          | sl _ _ _ _ b c cs t fr h => rw [h] at hL; cases hL
        · cases h with
          | fr _ _ h => cases h
          | slGone _ _ _ _ a n c h => exact .slGone k' o l sz a n c (hL.trans h)
          | slNil _ _ h => exact .slNil k' sz (hL.trans h)
          | sl _ _ _ _ b c cs t fr h hb hl hc hm => exact .sl k' o l sz b c cs t fr (hL.trans h) hb hl hc hm
    | mp k =>
      simp only [AV.ren]
      cases hk : ρ k with
      | none => exact .junk1 v (h.one rfl)
      | some k' =>
        rcases hρ k k' hk with hL | hL
        · cases h with
          | fr _ _ h => cases h
          | mpGone _ r h => rw [h] at hL; cases hL
          | mp _ b h => rw [h] at hL; cases hL
        · cases h with
          | fr _ _ h => cases h
          | mpGone _ r h => exact .mpGone k' r (hL.trans h)
          | mp _ b h => exact .mp k' b (hL.trans h)
    | fptr => exact .fr _ _ (by cases h with | fr _ _ h => exact h)
    | fsl => exact .fr _ _ (by cases h with | fr _ _ h => exact h)
    | fz => exact .fr _ _ (by cases h with | fr _ _ h => exact h)
    | agg b =>
      obtain ⟨cs, rfl, hsz, h1, hv⟩ := h.agg_inv
      refine .agg (b.map (segRen d ρ)) cs (by rw [segsRen_size]; exact hsz) (fun j y hy => ?_) fun j y u hy hu => ?_
      · obtain ⟨x, hx, he⟩ := segsRen_cell d ρ b j y hy
        rcases he with rfl | ⟨rfl, _⟩
        · rw [ren_one]; exact h1 j x hx
        · exact h1 j _ hx
      · obtain ⟨x, hx, he⟩ := segsRen_cell d ρ b j y hy
        have hxu := hv j x u hx hu
        rcases he with rfl | ⟨rfl, ⟨z, rfl⟩ | ⟨z, rfl⟩⟩
        · exact ren_vr ρ hρ d hxu
        · exact .fr _ _ (by cases hxu with | fr _ _ h => exact h)
        · exact .fr _ _ (by cases hxu with | fr _ _ h => exact h)
    | tup l =>
      obtain ⟨cs, rfl, hsz, hv⟩ := h.tup_inv
      refine .tup (l.map (AV.ren d ρ)) cs (by simpa using hsz) fun j y u hy hu => ?_
      simp only [List.getElem?_map, Option.map_eq_some_iff] at hy
      obtain ⟨x, hx, rfl⟩ := hy
      exact ren_vr ρ hρ d (hv j x u hx hu)
    | fn f l =>
      obtain ⟨cs, rfl, hsz, hv⟩ := h.fn_inv
      refine .fn f (l.map (AV.ren d ρ)) cs (by simpa using hsz) fun j y u hy hu => ?_
      simp only [List.getElem?_map, Option.map_eq_some_iff] at hy
      obtain ⟨x, hx, rfl⟩ := hy
      exact ren_vr ρ hρ d (hv j x u hx hu)
    | ifc t x =>
      obtain ⟨u, rfl, hu⟩ := h.ifc_inv
      exact .ifc t _ u (ren_vr ρ hρ d hu)

def Row.ren (ρ : Nat → Option Nat) : Row → Row
  | .blob t b => .blob t (b.map (segRen 6 ρ))
  | .map es => .map (es.map fun e => (e.1, e.2.ren 6 ρ))
  | .dead => .dead

theorem Row.ren_holds {ρ : Nat → Option Nat} (hρ : RenOK ρ L L') {r : Row} {p : Place} (h : Row.holds w R L r p) : Row.holds w R L' (r.ren ρ) p := by
  cases r with
  | dead => exact h
  | blob t b =>
    cases p with
    | at_ g =>
      obtain ⟨h1, cs, h2, h3, h4⟩ := h
      refine ⟨h1, cs, h2, by rw [segsRen_size]; exact h3, fun j y u hy hu => ?_⟩
      obtain ⟨x, hx, he⟩ := segsRen_cell 6 ρ b j y hy
      obtain ⟨h5, h6⟩ := h4 j x u hx hu
      rcases he with rfl | ⟨rfl, ⟨z, rfl⟩ | ⟨z, rfl⟩⟩
      · exact ⟨ren_vr ρ hρ 6 h5, by rw [ren_one]; exact h6⟩
      · exact ⟨.fr _ _ (by cases h5 with | fr _ _ h => exact h), h6⟩
      · exact ⟨.fr _ _ (by cases h5 with | fr _ _ h => exact h), h6⟩
    | nil => simp only [Row.ren, Row.holds, segsRen_size] at h ⊢; exact h
    | unborn => exact h
    | gone => exact h
  | map es =>
    cases p with
    | at_ g =>
      obtain ⟨h1, ms, cl, h2, h3, h4, h5⟩ := h
      refine ⟨h1, ms, cl, h2, by simpa using h3, fun j x m hx hm => ?_, h5⟩
      simp only [List.getElem?_map, Option.map_eq_some_iff] at hx
      obtain ⟨x', hx', rfl⟩ := hx
      obtain ⟨h6, h7, h8⟩ := h4 j x' m hx' hm
      exact ⟨h6, ren_vr ρ hρ 6 h7, h8⟩
    | unborn => exact h
    | gone => exact h
    | nil => exact h

/-! ### Which rows are reached -/

def AV.refs : Nat → AV → List Nat
  | 0, _ => []
  | d + 1, x =>
    match x with
    | .ptr k _ _ | .sl k _ _ _ | .mp k => [k]
    | .agg b => b.flatMap fun s => match s with | .avs l => l.flatMap (AV.refs d) | _ => []
    | .tup l => l.flatMap (AV.refs d)
    | .fn _ l => l.flatMap (AV.refs d)
    | .ifc _ x => AV.refs d x
    | _ => []

def Row.refs : Row → List Nat
  | .blob _ b => (AV.agg b).refs 6
  | .map es => es.flatMap fun e => e.2.refs 6
  | .dead => []

def reach : Nat → List Row → List Nat → List Nat → List Nat
  | 0, _, _, seen => seen.reverse
  | _ + 1, _, [], seen => seen.reverse
  | n + 1, rows, k :: todo, seen => if seen.contains k then reach n rows todo seen else reach n rows (((rows[k]?).getD .dead).refs ++ todo) (k :: seen)

def posIn : List Nat → Nat → Option Nat
  | [], _ => none
  | x :: r, i => if x = i then some 0 else (posIn r i).map (· + 1)

def nodupB : List Nat → Bool
  | [] => true
  | x :: r => !r.contains x && nodupB r

def idsOK (n : Nat) (ids : List Nat) : Bool := ids.all (decide <| · < n) && nodupB ids

theorem posIn_some : ∀ {l : List Nat} {i k : Nat}, posIn l i = some k → l[k]? = some i
  | [], i, k, h => by simp [posIn] at h
  | x :: r, i, k, h => by
    simp only [posIn] at h
    split at h
    · rename_i e; injection h with h; subst h; subst e; rfl
    · simp only [Option.map_eq_some_iff] at h
      obtain ⟨k', h', rfl⟩ := h
      simpa using posIn_some h'

theorem posIn_of : ∀ {l : List Nat} {i k : Nat}, nodupB l = true → l[k]? = some i → posIn l i = some k
  | [], i, k, _, h => by simp at h
  | x :: r, i, k, hn, h => by
    simp only [nodupB, Bool.and_eq_true, Bool.not_eq_true', List.contains_eq_mem, decide_eq_false_iff_not] at hn
    simp only [posIn]
    cases k with
    | zero => simp at h; simp [h]
    | succ k =>
      simp at h
      have hne : x ≠ i := fun e => hn.1 (e ▸ List.mem_of_getElem? h)
      rw [if_neg hne, posIn_of hn.2 h]
      rfl

theorem posIn_none {l : List Nat} {i k : Nat} (hn : nodupB l = true) (h : posIn l i = none) : l[k]? ≠ some i := fun hk => by
  rw [posIn_of hn hk] at h; cases h

theorem idsOK_spec {n : Nat} {ids : List Nat} (h : idsOK n ids = true) : nodupB ids = true ∧ ∀ (k i : Nat), ids[k]? = some i → i < n := by
  simp only [idsOK, Bool.and_eq_true, List.all_eq_true, decide_eq_true_eq] at h
  exact ⟨h.2, fun k i hk => h.1 i (List.mem_of_getElem? hk)⟩

/-- The places of some of the rows, in their new order. -/
def subL (L : Nat → Place) (ids : List Nat) (k : Nat) : Place := match ids[k]? with | some i => L i | none => .unborn

theorem subL_ren {ids : List Nat} : RenOK (posIn ids) L (subL L ids) := fun k k' h => .inr (by simp [subL, posIn_some h])

def subRows (rows : List Row) (ids : List Nat) : List Row := ids.map fun k => ((rows[k]?).getD .dead).ren (posIn ids)

theorem sub_rows {rows : List Row} (hr : RowsOK w R L rows) {ids : List Nat} (hi : idsOK rows.length ids = true) : RowsOK w R (subL L ids) (subRows rows ids) := by
  obtain ⟨hn, hl⟩ := idsOK_spec hi
  refine ⟨fun k r hk => ?_, fun k hk => ?_, hr.ro, fun k k' b hk hk' => ?_⟩
  · simp only [subRows, List.getElem?_map, Option.map_eq_some_iff] at hk
    obtain ⟨i, hi', rfl⟩ := hk
    have hlt := hl k i hi'
    have : rows[i]? = some rows[i] := by simp [hlt]
    have hh := hr.row i _ this
    simp only [subL, hi', this, Option.getD_some]
    exact Row.ren_holds subL_ren hh
  · simp only [subRows, List.length_map] at hk
    simp [subL, List.getElem?_eq_none hk]
  · simp only [subL] at hk hk'
    split at hk
    · rename_i i hi1
      split at hk'
      · rename_i i' hi2
        have := hr.inj i i' b hk hk'
        subst this
        have h1 := posIn_of hn hi1
        have h2 := posIn_of hn hi2
        rw [h1] at h2
        exact Option.some.inj h2
      · cases hk'
    · cases hk

theorem subL_mine {ids : List Nat} {b : Nat} (h : Mine w (subL L ids) b) : Mine w L b := by
  rcases h with h | ⟨k, hk⟩
  · exact .inl h
  · simp only [subL] at hk
    split at hk
    · exact .inr ⟨_, hk⟩
    · cases hk

theorem holds_born {r : Row} {p : Place} (h : Row.holds w R L r p) : p ≠ .unborn := by
  rintro rfl
  cases r <;> simp [Row.holds] at h

theorem RowsOK.born {rows : List Row} (hr : RowsOK w R L rows) {k : Nat} (hk : k < rows.length) : L k ≠ .unborn := holds_born (hr.row k rows[k] (by simp [hk]))

/-! ### Back from a call -/

def backRen (ids : List Nat) (n : Nat) (k : Nat) : Option Nat := match ids[k]? with | some i => some i | none => some (n + (k - ids.length))

def backRows (rows : List Row) (ids : List Nat) (rows1 : List Row) : List Row :=
  if ids.isEmpty then rows ++ rows1.map (Row.ren (backRen ids rows.length)) else
  ((List.range rows.length).map fun i => match posIn ids i with | some k => ((rows1[k]?).getD .dead).ren (backRen ids rows.length) | none => (rows[i]?).getD .dead) ++
  (rows1.drop ids.length).map (Row.ren (backRen ids rows.length))

def backL (L L1 : Nat → Place) (ids : List Nat) (n : Nat) (i : Nat) : Place :=
  if i < n then (match posIn ids i with | some k => L1 k | none => L i) else L1 (ids.length + (i - n))

theorem back_rows_eq (rows : List Row) (ids : List Nat) (rows1 : List Row) : backRows rows ids rows1 =
    ((List.range rows.length).map fun i => match posIn ids i with | some k => ((rows1[k]?).getD .dead).ren (backRen ids rows.length) | none => (rows[i]?).getD .dead) ++ (rows1.drop ids.length).map (Row.ren (backRen ids rows.length)) := by
  unfold backRows
  split
  · rename_i h
    have : ids = [] := by simpa using h
    subst this
    simp only [posIn, List.length_nil, List.drop_zero]
    congr 1
    apply List.ext_getElem?
    intro i
    by_cases hi : i < rows.length
    · simp [hi]
    · simp [hi]
  · rfl

theorem back_call {rows rows1 : List Row} {w1 : World} {R1 : Nat → Prop} {L1 : Nat → Place} (hr : RowsOK w R L rows) {ids : List Nat} (hi : idsOK rows.length ids = true)
    (hs : Step w R (subL L ids) w1 R1 L1) (hr1 : RowsOK w1 R1 L1 rows1) :
    Step w R L w1 R1 (backL L L1 ids rows.length) ∧ RowsOK w1 R1 (backL L L1 ids rows.length) (backRows rows ids rows1) ∧ RenOK (backRen ids rows.length) L1 (backL L L1 ids rows.length) := by
  obtain ⟨hn, hl⟩ := idsOK_spec hi
  have hm : ids.length ≤ rows1.length := by
    rcases Nat.lt_or_ge rows1.length ids.length with q | q
    · exfalso
      have h1 : ids[rows1.length]? = some ids[rows1.length] := by simp [q]
      have h2 : subL L ids rows1.length = L ids[rows1.length] := by simp [subL, h1]
      have h3 : L ids[rows1.length] ≠ .unborn := hr.born (hl _ _ h1)
      have h4 := hr1.none rows1.length (Nat.le_refl _)
      rcases hs.keeps rows1.length (by rw [h2]; exact h3) with h5 | ⟨h5, _⟩
      · rw [h5] at h4; cases h4
      · rw [h5, h2] at h4; exact h3 h4
    · exact q
  -- a block of a row that the call did not get is none of the call's
  have other : ∀ i b, posIn ids i = none → L i = .at_ b → ¬ Mine w (subL L ids) b := by
    rintro i b hp hb (h | ⟨k, hk⟩)
    · have := hr.block_lt hb; omega
    · simp only [subL] at hk
      split at hk
      · rename_i i' hi'
        have := hr.inj i i' b hb hk
        subst this
        exact posIn_none hn hp hi'
      · cases hk
  have hren : RenOK (backRen ids rows.length) L1 (backL L L1 ids rows.length) := by
    intro k k' hk
    simp only [backRen] at hk
    split at hk
    · rename_i i hi'
      injection hk with hk
      subst hk
      refine .inr ?_
      simp only [backL, if_pos (hl k i hi'), posIn_of hn hi']
    · rename_i hi'
      injection hk with hk
      subst hk
      refine .inr ?_
      have : ids.length ≤ k := by simpa using hi'
      simp only [backL]
      rw [if_neg (by omega)]
      congr 1
      omega
  have hstep : Step w R L w1 R1 (backL L L1 ids rows.length) := by
    refine ⟨⟨hs.frm.os, hs.frm.tape, hs.frm.output, hs.frm.size, fun b hb hnm => hs.frm.block b hb fun q => hnm (subL_mine q), hs.frm.ro, fun b hb => (hs.frm.ro' b hb).imp id subL_mine, fun i b hb => ?_⟩, fun i hi' => ?_⟩
    · simp only [backL] at hb
      split at hb
      · split at hb
        · exact subL_mine (hs.frm.mine _ b hb)
        · exact .inr ⟨i, hb⟩
      · exact subL_mine (hs.frm.mine _ b hb)
    · have hlt : i < rows.length := by
        rcases Nat.lt_or_ge i rows.length with q | q
        · exact q
        · exact absurd (hr.none i q) hi'
      simp only [backL, if_pos hlt]
      cases hp : posIn ids i with
      | some k =>
        have hk := posIn_some hp
        have h2 : subL L ids k = L i := by simp [subL, hk]
        simp only
        rcases hs.keeps k (by rw [h2]; exact hi') with h5 | ⟨h5, h6⟩
        · exact .inl h5
        · exact .inr ⟨h5.trans h2, fun b cs t fr hb => h6 b cs t fr (h2.trans hb)⟩
      | none =>
        simp only
        refine .inr ⟨trivial, fun b cs t fr hb hh => ⟨cs, t, fr, ?_, rfl⟩⟩
        rw [hs.frm.block b (hr.block_lt hb) (other i b hp hb)]
        exact hh
  refine ⟨hstep, ?_, hren⟩
  rw [back_rows_eq]
  have hlen : (((List.range rows.length).map fun i => match posIn ids i with | some k => ((rows1[k]?).getD .dead).ren (backRen ids rows.length) | none => (rows[i]?).getD .dead) ++ (rows1.drop ids.length).map (Row.ren (backRen ids rows.length))).length = rows.length + (rows1.length - ids.length) := by simp
  have notR1 : ∀ i b, posIn ids i = none → L i = .at_ b → ¬ R1 b := fun i b hp hb q => (hs.frm.ro' b q).elim (hr.notR hb) (other i b hp hb)
  refine ⟨fun i r hk => ?_, fun i hk => ?_, hr1.ro, fun i i' b hk hk' => ?_⟩
  · by_cases hlt : i < rows.length
    · rw [List.getElem?_append_left (by simpa using hlt)] at hk
      simp only [List.getElem?_map, List.getElem?_range hlt, Option.map_some, Option.some.injEq] at hk
      simp only [backL, if_pos hlt]
      cases hp : posIn ids i with
      | some k =>
        rw [hp] at hk
        simp only at hk ⊢
        subst hk
        have hkl : k < rows1.length := by have := (List.getElem?_eq_some_iff.1 (posIn_some hp)).1; omega
        have hh := hr1.row k rows1[k] (by simp [hkl])
        simp only [hkl, List.getElem?_eq_getElem, Option.getD_some]
        exact Row.ren_holds hren hh
      | none =>
        rw [hp] at hk
        simp only [hlt, List.getElem?_eq_getElem, Option.getD_some] at hk ⊢
        subst hk
        exact Row.holds_mono (hr.row i rows[i] (by simp [hlt])) (fun _ _ => hstep.vr hr) fun b hb => ⟨hs.frm.block b (hr.block_lt hb) (other i b hp hb), notR1 i b hp hb⟩
    · rw [List.getElem?_append_right (by simpa using hlt)] at hk
      simp only [List.length_map, List.length_range, List.getElem?_map, List.getElem?_drop, Option.map_eq_some_iff] at hk
      obtain ⟨r', hr', rfl⟩ := hk
      simp only [backL, if_neg hlt]
      exact Row.ren_holds hren (hr1.row _ r' hr')
  · rw [hlen] at hk
    simp only [backL]
    rw [if_neg (by omega)]
    exact hr1.none _ (by omega)
  · have mix : ∀ i k, posIn ids i = none → L i = .at_ b → L1 k = .at_ b → False := fun i k hp hb hb1 => other i b hp hb (hs.frm.mine k b hb1)
    simp only [backL] at hk hk'
    split at hk
    · rename_i h1
      split at hk'
      · rename_i h2
        cases hp : posIn ids i with
        | some k =>
          rw [hp] at hk
          cases hp' : posIn ids i' with
          | some k' =>
            rw [hp'] at hk'
            have := hr1.inj k k' b hk hk'
            subst this
            have e1 := posIn_some hp
            have e2 := posIn_some hp'
            rw [e1] at e2
            exact Option.some.inj e2
          | none => rw [hp'] at hk'; exact (mix i' k hp' hk' hk).elim
        | none =>
          rw [hp] at hk
          cases hp' : posIn ids i' with
          | some k' => rw [hp'] at hk'; exact (mix i k' hp hk hk').elim
          | none => rw [hp'] at hk'; exact hr.inj i i' b hk hk'
      · rename_i h2
        cases hp : posIn ids i with
        | some k =>
          rw [hp] at hk
          have := hr1.inj k _ b hk hk'
          have hkl := (List.getElem?_eq_some_iff.1 (posIn_some hp)).1
          omega
        | none => rw [hp] at hk; exact (mix i _ hp hk hk').elim
    · rename_i h1
      split at hk'
      · rename_i h2
        cases hp' : posIn ids i' with
        | some k' =>
          rw [hp'] at hk'
          have := hr1.inj _ k' b hk hk'
          have hkl := (List.getElem?_eq_some_iff.1 (posIn_some hp')).1
          omega
        | none => rw [hp'] at hk'; exact (mix i' _ hp' hk' hk).elim
      · have := hr1.inj _ _ b hk hk'
        omega

end
end
end Go.Proofs.Ytfcfdedbbhdioaa.AI
