/- AI 9: make, literals, parts of slices, functions as values, strings. -/
import Derived.Test.YtfcfdedbbhdioaaAi8
namespace Go.Proofs.Ytfcfdedbbhdioaa.AI
noncomputable section
open Go
set_option linter.unusedVariables false
set_option linter.unusedSimpArgs false

section
variable {P : Program} {G : List (Nat × Obj)} {s : List AV} {rows : List Row}

/-- All zeros of one kind? -/
def zKind : List Value → Option IntKind
  | [] => none
  | [.int k 0] => some k
  | .int k 0 :: r => match zKind r with | some k' => if k = k' then some k else none | none => none
  | _ => none

theorem zKind_spec : ∀ {l : List Value} {k : IntKind}, zKind l = some k → 0 < l.length ∧ ∀ v ∈ l, v = .int k 0
  | [], k, h => by simp [zKind] at h
  | [v], k, h => by
    unfold zKind at h
    split at h
    · cases ‹[v] = []›
    · rename_i heq; simp only [List.cons.injEq, and_true] at heq; subst heq; injection h with h; subst h; simp
    · rename_i k' r hne heq
      simp only [List.cons.injEq] at heq
      obtain ⟨rfl, rfl⟩ := heq
      simp [zKind] at h
    · cases h
  | v :: w :: r, k, h => by
    unfold zKind at h
    split at h
    · rename_i heq; cases heq
    · rename_i heq; simp at heq
    · rename_i k' r' hne heq
      simp only [List.cons.injEq] at heq
      obtain ⟨rfl, rfl⟩ := heq
      cases hq : zKind (w :: r) with
      | none => simp [hq] at h
      | some k'' =>
        simp only [hq] at h
        split at h
        · rename_i e
          injection h with h
          subst h
          subst e
          obtain ⟨h1, h2⟩ := zKind_spec hq
          refine ⟨by simp, fun u hu => ?_⟩
          rcases List.mem_cons.1 hu with e | hu
          · exact e
          · exact h2 u hu
        · cases h
    · cases h

/-- n elements' zeros. -/
def zsegs (zc : List Value) (n : Nat) : List Seg :=
  match zKind zc with
  | some k => [.ints k (n * zc.length) (List.replicate (n * zc.length) 0)]
  | none =>
    match zc with
    | [.bool false] => [.bools n (List.replicate n false)]
    | _ => segsOf ((List.replicate n (zc.map .c)).flatten)

theorem flat_get {α : Type} (l : List α) (hl : 0 < l.length) : ∀ (n j : Nat), j < n * l.length → ((List.replicate n l).flatten)[j]? = l[j % l.length]?
  | 0, j, h => by simp at h
  | n + 1, j, h => by
    rw [List.replicate_succ, List.flatten_cons]
    by_cases hj : j < l.length
    · rw [List.getElem?_append_left hj, Nat.mod_eq_of_lt hj]
    · rw [List.getElem?_append_right (by omega), flat_get l hl n (j - l.length) (by rw [Nat.add_mul] at h; omega)]
      congr 1
      rw [Nat.mod_eq_sub_mod (a := j) (by omega)]

theorem zsegs_spec {zc : List Value} (h0 : 0 < zc.length) (n : Nat) : segsSize (zsegs zc n) = n * zc.length ∧ ∀ (j : Nat) (y : AV), segsCell (zsegs zc n) j = some y → ∃ v, y = .c v ∧ zc[j % zc.length]? = some v := by
  unfold zsegs
  split
  · rename_i k hk
    obtain ⟨h1, h2⟩ := zKind_spec hk
    refine ⟨by simp [segsSize, Seg.size], fun j y hy => ?_⟩
    rw [segsCell_one] at hy
    simp only [Seg.cell] at hy
    split at hy
    · rename_i hj
      have hm : j % zc.length < zc.length := Nat.mod_lt _ h0
      refine ⟨_, (Option.some.inj hy).symm, ?_⟩
      rw [List.getElem?_eq_getElem hm, h2 _ (List.getElem_mem hm)]
      simp [hj]
    · cases hy
  · split
    · refine ⟨by simp [segsSize, Seg.size], fun j y hy => ?_⟩
      rw [segsCell_one] at hy
      simp only [Seg.cell] at hy
      split at hy
      · rename_i hj
        refine ⟨_, (Option.some.inj hy).symm, ?_⟩
        simp [Nat.mod_one, hj]
      · cases hy
    · have hs := segsOf_spec ((List.replicate n (zc.map AV.c)).flatten)
      have hlen : ((List.replicate n (zc.map AV.c)).flatten).length = n * zc.length := by simp
      refine ⟨by rw [hs.1, hlen], fun j y hy => ?_⟩
      have hj : j < n * zc.length := by have := segsCell_lt hy; rw [hs.1, hlen] at this; exact this
      rw [hs.2, flat_get _ (by simpa using h0) n j (by simpa using hj)] at hy
      simp only [List.length_map, List.getElem?_map, Option.map_eq_some_iff] at hy
      obtain ⟨v, hv, rfl⟩ := hy
      exact ⟨v, rfl, hv⟩

theorem madeCells_get (z : Array Value) (n j : Nat) (hj : j < n) : (madeCells z n)[j]? = some (z[j % z.size]!) := by
  simp [madeCells, hj]

theorem zcells_vr {w : World} {R : Nat → Prop} {L : Nat → Place} {z : Value} (h0 : 0 < z.cells.size) (h1 : z.cells.all (·.oneCell') = true) (n : Nat) (cs : Array Value)
    (hcs : ∀ j, j < n * z.cells.size → cs[j]? = some (z.cells[j % z.cells.size]!)) :
    ∀ (j : Nat) (y : AV) (u : Value), segsCell (zsegs z.cells.toList n) j = some y → cs[j]? = some u → VR w R L y u ∧ y.one = true := by
  intro j y u hy hu
  obtain ⟨h2, h3⟩ := zsegs_spec (zc := z.cells.toList) (by simpa using h0) n
  have hj : j < n * z.cells.size := by have := segsCell_lt hy; rw [h2] at this; simpa using this
  obtain ⟨v, rfl, hv⟩ := h3 j y hy
  rw [hcs j hj] at hu
  injection hu with hu
  have hm : j % z.cells.size < z.cells.size := Nat.mod_lt _ h0
  have hv' : z.cells[j % z.cells.size] = v := by
    simp only [Array.length_toList, Array.getElem?_toList] at hv
    rw [Array.getElem?_eq_getElem hm] at hv
    exact Option.some.inj hv
  have : z.cells[j % z.cells.size]! = v := by rw [getElem!_pos z.cells (j % z.cells.size) hm]; exact hv'
  rw [this] at hu
  subst hu
  refine ⟨.fr _ _ (.c _), ?_⟩
  rw [Array.all_eq_true] at h1
  have := h1 _ hm
  rw [hv'] at this
  exact this

/-- make. -/
def mkAV (rows : List Row) (e : TypeId) (sz bytes : Nat) (z : Value) (l c : AV) : Option (AV × List Row × Bool) :=
  match l, c with
  | .c (.int _ n), .c (.int _ m) => some (.sl rows.length 0 n.toNat sz, rows ++ [.blob e (zsegs z.cells.toList n.toNat)], decide (0 ≤ n) && decide (n ≤ m) && decide ((bytes : Int) * m ≤ 140737488355328) && decide (m ≤ 9223372036854775807) && decide (m.toNat ≤ maxLen))
  | _, _ => none

theorem does_make {o : Oper} {t e : TypeId} {l c : Operand} {sz bytes : Nat} {z : Value} {r : AV} {rows' : List Row} (ho : o.op = .makeSlice t l c)
    (ht : sliOf P t = some e) (hn : tySize P e = some sz) (hby : (P.info? e).map (·.bytes) = some bytes) (hz : zeroOf P e = some z) (hzs : z.cells.size = sz) (hsz : 0 < sz) (h1 : z.cells.all (·.oneCell') = true)
    (h : mkAV rows e sz bytes z ((Opd.of l).ev s) ((Opd.of c).ev s) = some (r, rows', true)) : Does P G o s rows r rows' := by
  intro w R L a hs hr hg
  have hl := hs.ev l
  have hc := hs.ev c
  unfold mkAV at h
  split at h
  · rename_i k n k' m e1 e2
    rw [e1] at hl
    rw [e2] at hc
    have hl := hl.of_c
    have hc := hc.of_c
    simp only [Option.some.injEq, Prod.mk.injEq, Bool.and_eq_true, decide_eq_true_eq] at h
    obtain ⟨rfl, rfl, ⟨⟨⟨h2, h3⟩, h4⟩, h5⟩, h6⟩ := h
    obtain ⟨i, hi⟩ : ∃ i, P.info? e = some i := by
      cases hq : P.info? e with
      | none => simp [tySize, hq] at hn
      | some i => exact ⟨i, rfl⟩
    have hisz : i.size = sz := by simpa [tySize, hi] using hn
    have hiby : i.bytes = bytes := by simpa [hi] using hby
    have hiz : i.zero = some z := by simpa [zeroOf, hi] using hz
    have hrun := run_make (P := P) w t e i z (sliOf_u ht) hi hiz k k' n m h2 h3 (by rw [hiby]; omega) h5
    rw [hisz] at hrun
    have hmz := size_madeCells z.cells (m.toNat * sz)
    have hle : n.toNat ≤ m.toNat := by omega
    have hsz2 : segsSize (zsegs z.cells.toList n.toNat) = n.toNat * sz := by
      rw [(zsegs_spec (zc := z.cells.toList) (by simp [hzs]; exact hsz) n.toNat).1]; simp [hzs]
    obtain ⟨h7, h8⟩ := new_row hr e (zsegs z.cells.toList n.toNat) (madeCells z.cells (m.toNat * sz)) (by rw [hsz2, hmz]; exact Nat.mul_le_mul_right _ hle)
      (fun j y u hy hu => zcells_vr (by omega) h1 n.toNat (madeCells z.cells (m.toNat * sz)) (fun j hj => madeCells_get _ _ _ (by rw [hzs] at hj; have := Nat.mul_le_mul_right sz hle; omega)) j y u hy hu)
    refine ⟨.slice (some ⟨w.heap.size, 0, none⟩) n.toNat m.toNat, _, _, _, .inl (by simp [execOp, ho, hl, hc, hrun]), ?_, h8, h7⟩
    exact .sl _ 0 _ _ w.heap.size m.toNat _ e (0, 0) (by simp) (heap_alloc_new w _) hle (by rw [hmz]; omega) h6
  · cases h

/-- Cells as a list. -/
def cellsOf (b : List Seg) (n : Nat) : List AV := (List.range n).map fun j => (segsCell b j).getD .junk

theorem cellsOf_spec {b : List Seg} {n : Nat} (h : segsSize b = n) : (cellsOf b n).length = n ∧ ∀ j, (cellsOf b n)[j]? = segsCell b j := by
  refine ⟨by simp [cellsOf], fun j => ?_⟩
  by_cases hj : j < n
  · obtain ⟨x, hx⟩ := segsCell_ex (b := b) (j := j) (by omega)
    simp [cellsOf, hj, hx]
  · have h1 : segsCell b j = none := by
      cases hq : segsCell b j with
      | none => rfl
      | some x => have := segsCell_lt hq; omega
    simp [cellsOf, h1] <;> omega

/-- Parts put in. -/
def fillAV (ev : Opd → AV) : List (Nat × Nat × Opd) → List AV → Option (List AV)
  | [], cells => some cells
  | (off, size, x) :: rest, cells =>
    match (ev x).segs with
    | some b => if segsSize b = size ∧ off + size ≤ cells.length then fillAV ev rest (cells.take off ++ cellsOf b size ++ cells.drop (off + size)) else none
    | none => none

def CellsOK (w : World) (R : Nat → Prop) (L : Nat → Place) (cells : List AV) (cs : Array Value) : Prop :=
  cs.size = cells.length ∧ ∀ (j : Nat) (y : AV) (u : Value), cells[j]? = some y → cs[j]? = some u → VR w R L y u ∧ y.one = true

theorem foldl_splice (off : Nat) : ∀ (l : List Value) (k : Nat) (cs : Array Value), off + k + l.length ≤ cs.size →
    ((l.zipIdx k).foldl (fun cs (x : Value × Nat) => cs.setIfInBounds (off + x.2) x.1) cs).size = cs.size ∧
    ∀ j, ((l.zipIdx k).foldl (fun cs (x : Value × Nat) => cs.setIfInBounds (off + x.2) x.1) cs)[j]? = if off + k ≤ j ∧ j < off + k + l.length then l[j - (off + k)]? else cs[j]?
  | [], k, cs, _ => by simp <;> omega
  | v :: l, k, cs, h => by
    simp only [List.length_cons] at h
    simp only [List.zipIdx_cons, List.foldl_cons]
    obtain ⟨h1, h2⟩ := foldl_splice off l (k + 1) (cs.setIfInBounds (off + k) v) (by simp; omega)
    refine ⟨by rw [h1]; simp, fun j => ?_⟩
    rw [h2]
    by_cases hj : j = off + k
    · subst hj
      rw [if_neg (by omega), if_pos (by simp)]
      simp [Array.getElem?_setIfInBounds]; omega
    · by_cases hin : off + (k + 1) ≤ j ∧ j < off + (k + 1) + l.length
      · rw [if_pos hin, if_pos (by simp; omega)]
        have : j - (off + k) = (j - (off + (k + 1))) + 1 := by omega
        rw [this, List.getElem?_cons_succ]
      · rw [if_neg hin, if_neg (by simp; omega), Array.getElem?_setIfInBounds_ne (by omega)]

theorem fill_rel {w : World} {R : Nat → Prop} {L : Nat → Place} {a : Act} (hs : SlotsOK w R L s a.tmps) (place : Nat → Option (Nat × Nat)) : ∀ (parts : List (Nat × Operand)) (ps : List (Nat × Nat × Opd)) (cells : List AV) (cs : Array Value) (r : List AV),
    (parts.map fun p => (place p.1).map fun q => (q.1, q.2, Opd.of p.2)) = ps.map some → CellsOK w R L cells cs → fillAV (Opd.ev s) ps cells = some r →
    ∃ cs', Instr.fill place cs (parts.map fun p => (p.1, a.eval p.2)) = some cs' ∧ CellsOK w R L r cs'
  | [], ps, cells, cs, r, hp, hc, h => by
    cases ps with
    | nil => simp only [fillAV, Option.some.injEq] at h; subst h; exact ⟨cs, rfl, hc⟩
    | cons p ps => simp at hp
  | (i, x) :: parts, ps, cells, cs, r, hp, hc, h => by
    cases ps with
    | nil => simp at hp
    | cons p ps =>
      simp only [List.map_cons, List.cons.injEq] at hp
      obtain ⟨hp1, hp2⟩ := hp
      obtain ⟨off, size, ox⟩ := p
      simp only [Option.map_eq_some_iff] at hp1
      obtain ⟨q, hq1, hq2⟩ := hp1
      simp only [Prod.mk.injEq] at hq2
      obtain ⟨rfl, rfl, rfl⟩ := hq2
      simp only [fillAV] at h
      split at h
      · rename_i b hb
        split at h
        · rename_i hsz
          obtain ⟨hsz1, hsz2⟩ := hsz
          obtain ⟨h1, h2⟩ := segs_cells hb (hs.ev x)
          obtain ⟨h3, h4⟩ := cellsOf_spec hsz1
          have hcs : cs.size = cells.length := hc.1
          obtain ⟨h5, h6⟩ := foldl_splice q.1 (a.eval x).cells.toList 0 cs (by simp; omega)
          have hfold : (a.eval x).cells.zipIdx.foldl (fun cs (c, j) => cs.setIfInBounds (q.1 + j) c) cs = ((a.eval x).cells.toList.zipIdx 0).foldl (fun cs (x : Value × Nat) => cs.setIfInBounds (q.1 + x.2) x.1) cs := by
            rw [← Array.foldl_toList, Array.toList_zipIdx]
          have hok : CellsOK w R L (cells.take q.1 ++ cellsOf b q.2 ++ cells.drop (q.1 + q.2)) (((a.eval x).cells.toList.zipIdx 0).foldl (fun cs (x : Value × Nat) => cs.setIfInBounds (q.1 + x.2) x.1) cs) := by
            refine ⟨by rw [h5]; simp [h3]; omega, fun j y u hy hu => ?_⟩
            rw [h6] at hu
            have hl : (cells.take q.1).length = q.1 := by simp; omega
            rw [List.append_assoc] at hy
            by_cases hj : j < q.1
            · rw [List.getElem?_append_left (by omega), List.getElem?_take, if_pos hj] at hy
              rw [if_neg (by omega)] at hu
              exact hc.2 j y u hy hu
            · rw [List.getElem?_append_right (by omega), hl] at hy
              by_cases hj2 : j < q.1 + q.2
              · rw [List.getElem?_append_left (by omega), h4] at hy
                rw [if_pos (by simp; omega)] at hu
                exact h2 _ y u hy (by simpa using hu)
              · rw [List.getElem?_append_right (by omega), h3, List.getElem?_drop] at hy
                rw [if_neg (by simp; omega)] at hu
                refine hc.2 j y u ?_ hu
                rw [← hy]; congr 1; omega
          obtain ⟨cs', hf, hok'⟩ := fill_rel hs place parts ps _ _ r hp2 hok h
          refine ⟨cs', ?_, hok'⟩
          simp only [List.map_cons, Instr.fill, hq1]
          rw [if_neg (by simp; omega), hfold]
          exact hf
        · cases h
      · cases h

/-- A slice written out. -/
def bslCells (ev : Opd → AV) (sz n : Nat) (z : Value) (ps : List (Nat × Nat × Opd)) : Option (List AV) := fillAV ev ps ((List.replicate n (z.cells.toList.map .c)).flatten)

theorem bsl_run {w : World} {R : Nat → Prop} {L : Nat → Place} {a : Act} (hs : SlotsOK w R L s a.tmps) {t e : TypeId} {len sz : Nat} {parts : Array (Nat × Operand)} {z : Value} {ps : List (Nat × Nat × Opd)} {r : List AV}
    (ht : sliOf P t = some e) (hn : tySize P e = some sz) (hz : zeroOf P e = some z) (hzs : z.cells.size = sz) (hsz : 0 < sz) (h1 : z.cells.all (·.oneCell') = true) (hlen : 0 < len) (hsm : len * sz ≤ 16777216)
    (hps : (parts.toList.map fun p => some (p.1 * sz, sz, Opd.of p.2)) = ps.map some) (h : bslCells (Opd.ev s) sz len z ps = some r) :
    ∃ cs, (Instr.buildSlice t len (parts.map fun (i, x) => (i, a.eval x))).run P w = .ok (.slice (some ⟨w.heap.size, 0, none⟩) len len) (w.alloc (.cells cs e)) ∧ CellsOK w R L r cs ∧ r.length = len * sz := by
  obtain ⟨i, hi⟩ : ∃ i, P.info? e = some i := by
    cases hq : P.info? e with
    | none => simp [tySize, hq] at hn
    | some i => exact ⟨i, rfl⟩
  have hisz : i.size = sz := by simpa [tySize, hi] using hn
  have hiz : i.zero = some z := by simpa [zeroOf, hi] using hz
  have hpos : 0 < len * sz := Nat.mul_pos hlen hsz
  have hstart : CellsOK w R L ((List.replicate len (z.cells.toList.map AV.c)).flatten) ((Array.range (len * sz)).map (z.cells[· % z.cells.size]!)) := by
    refine ⟨by simp [hzs], fun j y u hy hu => ?_⟩
    have hj : j < len * sz := by have := (Array.getElem?_eq_some_iff.1 hu).1; simpa using this
    rw [flat_get _ (by simp; omega) len j (by simp [hzs]; exact hj)] at hy
    simp only [List.length_map, Array.length_toList, List.getElem?_map, Array.getElem?_toList, Option.map_eq_some_iff] at hy
    obtain ⟨v, hv, rfl⟩ := hy
    have hm : j % z.cells.size < z.cells.size := Nat.mod_lt _ (by omega)
    simp [hj] at hu
    rw [Array.getElem?_eq_getElem hm] at hv
    have hv' := Option.some.inj hv
    have : z.cells[j % z.cells.size]! = v := by rw [getElem!_pos z.cells (j % z.cells.size) hm]; exact hv'
    rw [this] at hu
    subst hu
    refine ⟨.fr _ _ (.c _), ?_⟩
    rw [Array.all_eq_true] at h1
    have := h1 _ hm
    rw [hv'] at this
    exact this
  obtain ⟨cs, hf, hok⟩ := fill_rel hs (fun i => some (i * sz, sz)) parts.toList ps _ _ r (by simpa using hps) hstart h
  have hparts : (parts.map fun (i, x) => (i, a.eval x)).toList = parts.toList.map fun p => (p.1, a.eval p.2) := by simp
  refine ⟨cs, ?_, hok, ?_⟩
  · refine run_buildSlice w t e len _ cs i z (sliOf_u ht) hi hiz (by rw [hisz]; omega) (by rw [hisz]; omega) ?_
    rw [hisz, hparts]
    exact hf
  · -- the length stays
    have hl : ∀ (ps : List (Nat × Nat × Opd)) (cells r : List AV), fillAV (Opd.ev s) ps cells = some r → r.length = cells.length := by
      intro ps
      induction ps with
      | nil => intro cells r h; simp only [fillAV, Option.some.injEq] at h; subst h; rfl
      | cons p ps ih =>
        intro cells r h
        obtain ⟨off, size, x⟩ := p
        simp only [fillAV] at h
        split at h
        · rename_i b hb
          split at h
          · rename_i hs'
            have := ih _ _ h
            rw [this]
            simp [cellsOf]; omega
          · cases h
        · cases h
    have := hl ps _ r h
    rw [this]
    simp [hzs]

theorem does_bsl {o : Oper} {t e : TypeId} {len sz : Nat} {parts : Array (Nat × Operand)} {z : Value} {ps : List (Nat × Nat × Opd)} {r : List AV} (ho : o.op = .buildSlice t len parts)
    (ht : sliOf P t = some e) (hn : tySize P e = some sz) (hz : zeroOf P e = some z) (hzs : z.cells.size = sz) (hsz : 0 < sz) (h1 : z.cells.all (·.oneCell') = true) (hlen : 0 < len) (hsm : len * sz ≤ 16777216)
    (hps : (parts.toList.map fun p => some (p.1 * sz, sz, Opd.of p.2)) = ps.map some) (h : bslCells (Opd.ev s) sz len z ps = some r) :
    Does P G o s rows (.sl rows.length 0 len sz) (rows ++ [.blob e (segsOf r)]) := by
  intro w R L a hs hr hg
  obtain ⟨cs, hrun, hok, hrl⟩ := bsl_run hs ht hn hz hzs hsz h1 hlen hsm hps h
  have hseg := segsOf_spec r
  obtain ⟨h3, h4⟩ := new_row hr e (segsOf r) cs (by rw [hseg.1, hok.1]; exact Nat.le_refl _) (fun j y u hy hu => hok.2 j y u ((hseg.2 j).symm.trans hy) hu)
  have hle : len ≤ len * sz := Nat.le_mul_of_pos_right _ hsz
  refine ⟨.slice (some ⟨w.heap.size, 0, none⟩) len len, _, _, _, .inl (by simp [execOp, ho, hrun]), ?_, h4, h3⟩
  exact .sl _ 0 _ _ w.heap.size len _ e (0, 0) (by simp) (heap_alloc_new w _) (Nat.le_refl _) (by rw [hok.1, hrl]; omega) (by simp only [maxLen]; omega)

theorem does_fbsl {o : Oper} {t e : TypeId} {len sz : Nat} {parts : Array (Nat × Operand)} {z : Value} {ps : List (Nat × Nat × Opd)} {r : List AV} (ho : o.op = .buildSlice t len parts)
    (ht : sliOf P t = some e) (hn : tySize P e = some sz) (hz : zeroOf P e = some z) (hzs : z.cells.size = sz) (hsz : 0 < sz) (h1 : z.cells.all (·.oneCell') = true) (hlen : 0 < len) (hsm : len * sz ≤ 16777216)
    (hps : (parts.toList.map fun p => some (p.1 * sz, sz, Opd.of p.2)) = ps.map some) (h : bslCells (Opd.ev s) sz len z ps = some r) (hp : r.all (AV.pur 4) = true) :
    Does P G o s rows (.fsl len sz (segsOf r)) rows := by
  intro w R L a hs hr hg
  obtain ⟨cs, hrun, hok, hrl⟩ := bsl_run hs ht hn hz hzs hsz h1 hlen hsm hps h
  have hseg := segsOf_spec r
  obtain ⟨h3, h4⟩ := new_quiet hr (.cells cs e)
  refine ⟨.slice (some ⟨w.heap.size, 0, none⟩) len len, _, _, _, .inl (by simp [execOp, ho, hrun]), .fr _ _ (.fsl len sz (segsOf r) w.heap.size 0 len cs e (0, 0) (heap_alloc_new w _) (.inr rfl) (fun j => (cs[j]?).getD undef) (by rw [hseg.1, hrl]) (Nat.le_refl _) (fun j y hy => ?_) (fun j y hy => ?_) fun j y hy => ?_), h4, h3⟩
  all_goals
    have hy' : r[j]? = some y := (hseg.2 j).symm.trans hy
    have hj : j < cs.size := by rw [hok.1]; exact (List.getElem?_eq_some_iff.1 hy').1
    have hu : cs[j]? = some cs[j] := by simp [hj]
  · simp [hj]
  · exact (hok.2 j y _ hy' hu).2
  · rw [hu]
    exact (pur_fr 4 (hok.2 j y _ hy' hu).1 (List.all_eq_true.1 hp y (List.mem_of_getElem? hy'))).mono (fun b hb => .inl hb) fun b hb => heap_alloc_old w _ b (hr.ro b hb)

/-- A struct or an array written out. -/
def placesOf (P : Program) (t : TypeId) : Option (Nat → Option (Nat × Nat)) :=
  match P.underlying t with
  | some (.array _ e) => (P.info? e).map fun ie => fun i => some (i * ie.size, ie.size)
  | some (.struct fields) => (fields.toList.mapM (fun f => (P.info? f.type).map fun i => (f.offset, i.size))).map fun l => fun i => l.toArray[i]?
  | _ => none

theorem does_build {o : Oper} {t : TypeId} {parts : Array (Nat × Operand)} {z : Value} {place : Nat → Option (Nat × Nat)} {ps : List (Nat × Nat × Opd)} {r : List AV} (ho : o.op = .build t parts)
    (hz : zeroOf P t = some z) (h1 : z.cells.all (·.oneCell') = true) (hpl : placesOf P t = some place)
    (hps : (parts.toList.map fun p => (place p.1).map fun q => (q.1, q.2, Opd.of p.2)) = ps.map some) (h : fillAV (Opd.ev s) ps (z.cells.toList.map .c) = some r) :
    Does P G o s rows (.agg (segsOf r)) rows := by
  refine Does.quiet fun w R L a hs hr hg => ?_
  have hstart : CellsOK w R L (z.cells.toList.map AV.c) z.cells := by
    refine ⟨by simp, fun j y u hy hu => ?_⟩
    simp only [List.getElem?_map, Array.getElem?_toList, Option.map_eq_some_iff] at hy
    obtain ⟨v, hv, rfl⟩ := hy
    rw [hv] at hu
    injection hu with hu
    subst hu
    refine ⟨.fr _ _ (.c _), ?_⟩
    obtain ⟨hl, he⟩ := Array.getElem?_eq_some_iff.1 hv
    rw [Array.all_eq_true] at h1
    have := h1 _ hl
    rw [he] at this
    exact this
  obtain ⟨cs, hf, hok⟩ := fill_rel hs place parts.toList ps _ _ r hps hstart h
  have hparts : (parts.map fun (i, x) => (i, a.eval x)).toList = parts.toList.map fun p => (p.1, a.eval p.2) := by simp
  have hb : P.built t (parts.map fun (i, x) => (i, a.eval x)).toList = some cs := by
    unfold Program.built
    obtain ⟨it, hit⟩ : ∃ i, P.info? t = some i := by
      cases hq : P.info? t with
      | none => simp [zeroOf, hq] at hz
      | some i => exact ⟨i, rfl⟩
    have hitz : it.zero = some z := by simpa [zeroOf, hit] using hz
    unfold placesOf at hpl
    rw [hparts]
    split at hpl
    · rename_i n e hu
      cases hie : P.info? e with
      | none => simp [hie] at hpl
      | some ie =>
        simp only [hie, Option.map_some, Option.some.injEq] at hpl
        subst hpl
        simp only [hit, hu, hitz, hie]
        exact hf
    · rename_i fields hu
      cases hm : fields.toList.mapM (fun f => (P.info? f.type).map fun i => (f.offset, i.size)) with
      | none => simp [hm] at hpl
      | some l =>
        simp only [hm, Option.map_some, Option.some.injEq] at hpl
        subst hpl
        simp only [hit, hu, hitz, hm]
        exact hf
    · cases hpl
  have hseg := segsOf_spec r
  refine ⟨.agg cs, by simp [execOp, ho, run_build w t _ cs hb], .agg _ _ (by rw [hseg.1, hok.1]) (fun j y hy => ?_) fun j y u hy hu => ?_⟩
  · have hy' : r[j]? = some y := (hseg.2 j).symm.trans hy
    have hj : j < cs.size := by rw [hok.1]; exact (List.getElem?_eq_some_iff.1 hy').1
    exact (hok.2 j y cs[j] hy' (by simp [hj])).2
  · exact (hok.2 j y u ((hseg.2 j).symm.trans hy) hu).1

/-- A part of a slice. -/
def bnd : Option AV → Int → Option Int
  | none, d => some d
  | some (.c (.int _ n)), _ => some n
  | _, _ => none

def slcAV (rows : List Row) (sz : Nat) (x : AV) (lo hi : Option AV) : Option (AV × Bool) :=
  match x with
  | .sl k o len sz' =>
    match bnd lo 0, bnd hi len with
    | some l, some h => some (if l < len then .sl k (o + l.toNat * sz) (h.toNat - l.toNat) sz else if l = 0 then .sl k o 0 sz else .fsl 0 sz [], live rows k && decide (sz = sz') && decide (0 ≤ l) && decide (l ≤ h) && decide (h ≤ len))
    | _, _ => none
  | .fsl len sz' b =>
    match bnd lo 0, bnd hi len with
    | some l, some h => some (if l < h then .fsl (h.toNat - l.toNat) sz (subAt b 0 (l.toNat * sz) ((h.toNat - l.toNat) * sz)).1 else .fsl 0 sz [], (if l < h then (subAt b 0 (l.toNat * sz) ((h.toNat - l.toNat) * sz)).2 else true) && decide (sz = sz') && decide (0 ≤ l) && decide (l ≤ h) && decide (h ≤ len))
    | _, _ => none
  | .c (.slice none 0 0) =>
    match bnd lo 0, bnd hi 0 with
    | some 0, some 0 => some (.c (.slice none 0 0), true)
    | _, _ => none
  | _ => none

theorem does_mkfn {o : Oper} {f : FuncId} {caps : Array Operand} (ho : o.op = .makeFunc (.func f) #[] caps) : Does P G o s rows (.fn f (caps.toList.map fun x => (Opd.of x).ev s)) rows := by
  refine Does.quiet fun w R L a hs hr hg => ⟨.func (.func f) #[] (caps.map a.eval), by simp [execOp, ho, Instr.makeFunc], .fn f _ _ (by simp) fun j y v hy hv => ?_⟩
  simp only [List.getElem?_map, Array.getElem?_toList, Array.getElem?_map, Option.map_eq_some_iff] at hy hv
  obtain ⟨x, hx, rfl⟩ := hy
  obtain ⟨x', hx', rfl⟩ := hv
  rw [hx] at hx'
  injection hx' with hx'
  subst hx'
  exact hs.ev x

theorem does_mkif {o : Oper} {t : TypeId} {x : Operand} (ho : o.op = .makeInterface t x) (ht : (match P.underlying t with | some (.interface _) | none => false | _ => true) = true) : Does P G o s rows (.ifc t ((Opd.of x).ev s)) rows := by
  refine Does.quiet fun w R L a hs hr hg => ⟨.iface t (a.eval x), ?_, .ifc t _ _ (hs.ev x)⟩
  cases hu : P.underlying t with
  | none => simp [hu] at ht
  | some d => cases d <;> simp [hu] at ht <;> simp [execOp, ho, Instr.makeInterface, run_underlying hu]

/-- A field of a value. -/
def fieldAV (agg : Bool) (off n : Nat) (x : AV) : Option (AV × Bool) :=
  match x.segs with
  | some b => some (pickAt agg n b off 0)
  | none => none

end
end
end Go.Proofs.Ytfcfdedbbhdioaa.AI
