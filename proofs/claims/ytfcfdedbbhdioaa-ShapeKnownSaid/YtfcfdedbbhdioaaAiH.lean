/- AI H: bytes to strings, strings to bytes; clear. -/
import Derived.Test.YtfcfdedbbhdioaaAiG
import Derived.Laws.BytesString
import Derived.Lib.ConvBytes
namespace Go.Proofs.Ytfcfdedbbhdioaa.AI
noncomputable section
open Go
set_option linter.unusedVariables false
set_option linter.unusedSimpArgs false

/-- A string, by its bytes. -/
def bstr (l : List Int) : ByteArray := ⟨(l.map fun n => UInt8.ofNat n.toNat).toArray⟩

def b2sAV (rows : List Row) (x : AV) : Option (AV × Bool) :=
  match contents rows 1 x with
  | some (n, [.ints .u8 m l], ok) => some (.c (.string (bstr (l.take n))), ok && decide (m = n) && decide (n ≤ l.length))
  | some (0, [], ok) => some (.c (.string (bstr [])), ok)
  | _ => none

/-- The bytes of a string. -/
def strl (b : ByteArray) : List Int := b.data.toList.map fun x => (x.toNat : Int)

def s2bAV (x : AV) : Option (AV × Bool) :=
  match x with
  | .c (.string b) => some (.fsl b.size 1 [.ints .u8 b.size (strl b)], decide (b.size ≤ 16777216))
  | _ => none

def clrAV (rows : List Row) (z : Value) (x : AV) : Option (List Row × Bool) :=
  match x with
  | .c (.slice _ 0 _) => some (rows, true)
  | .fsl 0 _ _ => some (rows, true)
  | .sl k o len sz =>
    match rows[k]? with
    | some (.blob e b) =>
      if len = 0 then some (rows, true)
      else some (rows.set k (.blob e (putAt b o 0 len (segsOf (List.replicate len (.c z)))).1), (putAt b o 0 len (segsOf (List.replicate len (.c z)))).2 && decide (sz = 1))
    | _ => none
  | _ => none

section
variable {P : Program} {G : List (Nat × Obj)} {s : List AV} {rows : List Row}

theorem foldl_push : ∀ (l : List Int) (b : ByteArray), l.foldl (fun r n => r.push (UInt8.ofNat n.toNat)) b = ⟨(b.data.toList ++ l.map fun n => UInt8.ofNat n.toNat).toArray⟩
  | [], b => by cases b; simp
  | n :: l, b => by
    rw [List.foldl_cons, foldl_push l]
    cases b with
    | mk d => simp [ByteArray.push]

theorem u8_of {t e : TypeId} (ht : sliOf P t = some e) : P.underlying t = some (.slice e) := sliOf_u ht

theorem does_b2s {o : Oper} {t t' e : TypeId} {x : Operand} {y : AV} (ho : o.op = .convert t t' x) (ht : sliOf P t = some e) (he : P.underlying e = some (.int .u8)) (ht' : P.underlying t' = some .string)
    (h : b2sAV rows ((Opd.of x).ev s) = some (y, true)) : Does P G o s rows y rows := by
  refine Does.quiet fun w R L a hs hr hg => ?_
  have hx := hs.ev x
  have key : ∀ v, (convert t t' (a.eval x)).run P w = .ok v w → (execOp a.eval o).run P w = .ok (.value v) w := by
    intro v hv
    simp [execOp, ho, hv]
  generalize (Opd.of x).ev s = px at h hx
  generalize a.eval x = vx at hx key
  have base : ∀ (n : Nat) (c : List Seg) (l : List Int), contents rows 1 px = some (n, c, true) → l.length = n → (∀ j, j < n → segsCell c j = some (.c (.int .u8 (l.getD j 0)))) → ∃ v, (execOp a.eval o).run P w = .ok (.value v) w ∧ VR w R L (.c (.string (bstr l))) v := by
    intro n c l hc hl hcell
    obtain ⟨xa, cap, rfl, hcz, ys, hyl, hyf, hyv⟩ := contents_run (P := P) hr hx hc
    have hys : ys = l.map (Value.int .u8) := by
      apply List.ext_getElem?
      intro j
      by_cases hj : j < n
      · have hj' : j < ys.length := by omega
        have h1 := (hyv j _ ys[j] (hcell j hj) (by simp [hj'])).1
        have h2 : ys[j] = .int .u8 (l.getD j 0) := by
          generalize ys[j] = u at h1
          cases h1 with | fr _ _ hf => cases hf; rfl
        simp [hj', h2, List.getD, show j < l.length by omega]
      · rw [List.getElem?_eq_none (by omega), List.getElem?_eq_none (by simp; omega)]
    have hrun : (convert t t' (.slice xa n cap)).run P w = .ok (.string (bstr l)) w := by
      rw [run_convert_bytes_string w t t' e xa n cap (sliOf_u ht) he ht']
      have hf := hyf w rfl
      rw [hys] at hf
      cases xa with
      | none =>
        have hn : n = 0 ∨ 0 < n := Nat.eq_zero_or_pos n
        have : l = [] := by
          rcases hn with hn | hn
          · exact List.eq_nil_of_length_eq_zero (by omega)
          · simp [Builtin.firstCells] at hf
            first
              | exact hf
              | (cases l with
                | nil => rfl
                | cons a l => simp at hf)
        subst this
        simp [Conv.bytesToString, bstr, Sem.run_pure]
        rfl
      | some ad =>
        have hf' : (loadCells ad n).run P w = .ok (l.map (Value.int .u8)).toArray w := by simpa [Builtin.firstCells] using hf
        rw [run_bytesToString w ad n cap l hf', foldl_push]
        simp [bstr, ByteArray.empty, ByteArray.emptyWithCapacity]
        try rfl
    exact ⟨_, key _ hrun, .fr _ _ (.c _)⟩
  unfold b2sAV at h
  split at h
  · rename_i n m l ok hc
    simp only [Option.some.injEq, Prod.mk.injEq, Bool.and_eq_true, decide_eq_true_eq] at h
    obtain ⟨rfl, ⟨rfl, rfl⟩, h3⟩ := h
    refine base m _ (l.take m) hc (by simp; omega) fun j hj => ?_
    simp only [segsCell, Seg.size, Seg.cell, if_pos hj, List.getD, List.getElem?_take]
  · rename_i ok hc
    simp only [Option.some.injEq, Prod.mk.injEq] at h
    obtain ⟨rfl, rfl⟩ := h
    exact base 0 _ [] hc rfl fun j hj => by omega
  · cases h

theorem does_s2b {o : Oper} {t t' e : TypeId} {x : Operand} {y : AV} (ho : o.op = .convert t t' x) (ht : P.underlying t = some .string) (ht' : sliOf P t' = some e) (he : P.underlying e = some (.int .u8))
    (h : s2bAV ((Opd.of x).ev s) = some (y, true)) : Does P G o s rows y rows := by
  intro w R L a hs hr hg
  have hx := hs.ev x
  have key : ∀ v w', (convert t t' (a.eval x)).run P w = .ok v w' → (execOp a.eval o).run P w = .ok (.value v) w' := by
    intro v w' hv
    simp [execOp, ho, hv]
  generalize (Opd.of x).ev s = px at h hx
  generalize a.eval x = vx at hx key
  unfold s2bAV at h
  split at h
  · rename_i b
    simp only [Option.some.injEq, Prod.mk.injEq, decide_eq_true_eq] at h
    obtain ⟨rfl, hsz⟩ := h
    have hv : vx = .string b := by cases hx with | fr _ _ hf => cases hf; rfl
    subst hv
    have hrun := Lib.run_convert_string_bytes w t t' e b ht (sliOf_u ht') he
    have hst : Step w R L (Lib.bytesWorld w e b) (fun q => R q ∨ q = w.heap.size) L := by
      refine ⟨⟨rfl, rfl, rfl, by rw [Lib.bytesWorld_size]; omega, fun q hq _ => Lib.bytesWorld_at_old w e b q hq, fun q hq => .inl hq, fun q hq => hq.imp id fun e => .inl (by omega), fun k q hk => .inr ⟨k, hk⟩⟩,
        fun k _ => .inr ⟨rfl, fun q cs t fr hL hb => ⟨cs, t, fr, ?_, rfl⟩⟩⟩
      rw [Lib.bytesWorld_at_old w e b q (Array.getElem?_eq_some_iff.1 hb).1]; exact hb
    have hrows : RowsOK (Lib.bytesWorld w e b) (fun q => R q ∨ q = w.heap.size) L rows := by
      refine ⟨fun k r hk => Row.holds_mono (hr.row k r hk) (fun _ _ => hst.vr hr) fun q hq => ⟨Lib.bytesWorld_at_old w e b q (hr.block_lt hq), fun c => ?_⟩, hr.none, fun q hq => ?_, hr.inj⟩
      · rcases c with c | c
        · exact hr.notR hq c
        · have := hr.block_lt hq; omega
      · rw [Lib.bytesWorld_size]
        rcases hq with hq | hq
        · have := hr.ro q hq; omega
        · omega
    refine ⟨_, _, _, _, .inl (key _ _ hrun), .fr _ _ ?_, hrows, hst⟩
    have hcell : ∀ j, j < b.size → (Lib.bytesCells w e b)[0 + j]? = some (.int .u8 ((strl b).getD j 0)) := by
      intro j hj
      have hj' : j < b.data.size := hj
      have hb : b.data[j]? = some b.data[j] := by simp [hj']
      simp [Lib.bytesCells, Array.getElem?_append, hj', hj, strl, List.getD, hb]
    refine .fsl b.size 1 _ w.heap.size 0 _ _ e _ (Lib.bytesWorld_at_new w e b) (.inr rfl) (fun j => .int .u8 ((strl b).getD j 0)) (by simp [segsSize, Seg.size]) ?_ ?_ ?_ ?_
    · exact grownCap_ge w b.size 0 e
    · intro j y hy
      have hj := segsCell_lt hy
      simp only [segsSize, Seg.size, Nat.add_zero] at hj
      exact hcell j hj
    · intro j y hy
      have hj := segsCell_lt hy
      simp only [segsSize, Seg.size, Nat.add_zero] at hj
      simp only [segsCell, Seg.size, Seg.cell, if_pos hj, Option.some.injEq] at hy
      subst hy
      rfl
    · intro j y hy
      have hj := segsCell_lt hy
      simp only [segsSize, Seg.size, Nat.add_zero] at hj
      simp only [segsCell, Seg.size, Seg.cell, if_pos hj, Option.some.injEq] at hy
      subst hy
      exact .c _
  · cases h

theorem does_clr {o : Oper} {t e : TypeId} {x : Operand} {z : Value} {rows' : List Row} (ho : o.op = .call { callee := .builtin .clear, args := #[x], argTypes := #[t] }) (ht : sliOf P t = some e) (hz : zeroOf P e = some z) (hz1 : z.oneCell' = true)
    (h : clrAV rows z ((Opd.of x).ev s) = some (rows', true)) : Does P G o s rows (.c (.tuple #[])) rows' := by
  intro w R L a hs hr hg
  have hx := hs.ev x
  have key : ∀ v w', (Builtin.clear_ #[t] o.type #[a.eval x]).run P w = .ok v w' → (execOp a.eval o).run P w = .ok (.value v) w' := by
    intro v w' hv
    simp [execOp, ho, resolve, invoke, builtin, hv]
  generalize (Opd.of x).ev s = px at h hx
  generalize a.eval x = vx at hx key
  have hu := sliOf_u ht
  have hzv : ∀ w, (zeroValue e).run P w = .ok z w := fun w => run_zeroValue' hz w
  have empty : ∀ (ad : Option Addr) (cap : Nat), vx = .slice ad 0 cap → rows' = rows → ∃ v w' R' L', ((execOp a.eval o).run P w = .ok (.value v) w' ∨ ((execOp a.eval o).run P w = .ok .skip w' ∧ v = undef)) ∧ VR w' R' L' (.c (.tuple #[])) v ∧ RowsOK w' R' L' rows' ∧ Step w R L w' R' L' := by
    rintro ad cap rfl rfl
    refine ⟨.tuple #[], w, R, L, .inl (key _ _ ?_), .fr _ _ (.c _), hr, Step.refl w R L⟩
    cases ad <;> simp [Builtin.clear_, run_underlying hu]
  unfold clrAV at h
  split at h
  · rename_i ad cap
    injection h with h
    injection h with h1 h2
    have hv : vx = .slice ad 0 cap := by cases hx with | fr _ _ hf => cases hf; rfl
    exact empty ad cap hv h1.symm
  · injection h with h
    injection h with h1 h2
    cases hx with
    | fr _ _ hf =>
      cases hf with
      | fsl _ _ _ g o cap => exact empty _ cap rfl h1.symm
      | fslNil _ _ a cap => exact empty a cap rfl h1.symm
  · rename_i k off len sz
    split at h
    · rename_i e' b hk
      have hrow := hr.row k _ hk
      split at h
      · rename_i hl
        subst hl
        injection h with h
        injection h with h1 h2
        cases hx with
        | fr _ _ hf => cases hf
        | slGone _ _ _ _ _ _ _ hL => rw [hL] at hrow; exact hrow.elim
        | slNil _ _ hL => exact empty none 0 rfl h1.symm
        | sl _ _ _ _ g cap cs t fr hL hb hl hcap hm => exact empty _ cap rfl h1.symm
      · rename_i hl
        simp only [Option.some.injEq, Prod.mk.injEq, Bool.and_eq_true, decide_eq_true_eq] at h
        obtain ⟨h1, h2, rfl⟩ := h
        obtain ⟨h3, h4, h5, h6⟩ := putAt_spec h2
        cases hx with
        | fr _ _ hf => cases hf
        | slGone _ _ _ _ _ _ _ hL => rw [hL] at hrow; exact hrow.elim
        | slNil _ _ hL => exact absurd rfl hl
        | sl _ _ _ _ g cap cs te fr hL hb hlc hcap hm =>
          rw [hL] at hrow
          obtain ⟨hnR, cs', hb', hzz, hc⟩ := hrow
          rw [hb] at hb'
          injection hb' with hb'
          injection hb' with q1 q2 q3
          subst q1 q2 q3
          have hzc := Value.cells_of_one hz1
          have hzcells : (Builtin.zeroCells z.cells len).toList = List.replicate len z := by
            rw [hzc]
            simp [Builtin.zeroCells]
            apply List.ext_getElem
            · simp
            · intro i h1 h2
              simp [Nat.mod_one]
          have hone : ∀ v ∈ List.replicate len z, v.oneCell' = true := fun v hv => by rw [List.eq_of_mem_replicate hv]; exact hz1
          have hst0 := run_storeCells_at P g off te (List.replicate len z) 0 cs w hb (by simp; omega) hone
          simp only [Nat.add_zero, List.length_replicate] at hst0
          have hrun : (Builtin.clear_ #[t] o.type #[.slice (some ⟨g, off, none⟩) len cap]).run P w = .ok (.tuple #[]) (w.setRow g (cs.toList.take off ++ List.replicate len z ++ cs.toList.drop (off + len)).toArray) := by
            obtain ⟨m, rfl⟩ : ∃ m, len = m + 1 := ⟨len - 1, by omega⟩
            simp [Builtin.clear_, run_underlying hu, hzv, hzcells, hst0]
          refine ⟨.tuple #[], _, R, L, .inl (key _ _ hrun), .fr _ _ (.c _), ?_⟩
          have hset := setRow_heap w g cs (cs.toList.take off ++ List.replicate len z ++ cs.toList.drop (off + len)).toArray te (0, 0) hb
          have hnz : (cs.toList.take off ++ List.replicate len z ++ cs.toList.drop (off + len)).toArray.size = cs.size := by
            simp; omega
          obtain ⟨hst, hok⟩ := step_upd hr hL (w1 := w.setRow g (cs.toList.take off ++ List.replicate len z ++ cs.toList.drop (off + len)).toArray) (by simp) (fun b'' hb'' => setRow_other w g b'' _ hb'')
            (fun cs' t' fr' hcs' => ⟨_, _, _, hset, by rw [hb] at hcs'; injection hcs' with hcs'; injection hcs' with q1 _ _; rw [← q1]; exact hnz⟩) rfl rfl rfl
          rw [← h1]
          refine ⟨hok _ ⟨hnR, _, hset, by rw [hnz]; omega, fun j y u hy hu' => ?_⟩, hst⟩
          rw [h6] at hy
          have hu' : (cs.toList.take off ++ List.replicate len z ++ cs.toList.drop (off + len))[j]? = some u := by simpa using hu'
          rw [splice_get _ _ _ _ _ (by simp) (by simp; omega)] at hu'
          simp only [Nat.add_zero] at hy
          split at hy
          · rename_i hin
            rw [if_pos hin, List.getElem?_replicate] at hu'
            rw [(segsOf_spec _).2, List.getElem?_replicate] at hy
            split at hu'
            · rename_i hlt
              rw [if_pos hlt] at hy
              injection hy with hy
              injection hu' with hu'
              subst hy hu'
              exact ⟨.fr _ _ (.c _), by simpa [AV.one] using hz1⟩
            · cases hu'
          · rename_i hin
            rw [if_neg hin] at hu'
            have := hc j y u hy (by rw [← Array.getElem?_toList]; exact hu')
            exact ⟨hst.vr hr this.1, this.2⟩
    · cases h
  · cases h

end
end
end Go.Proofs.Ytfcfdedbbhdioaa.AI
