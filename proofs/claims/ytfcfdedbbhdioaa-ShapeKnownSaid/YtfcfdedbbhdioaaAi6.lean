/- AI 6: stores, addresses, indexing, len. -/
import Derived.Test.YtfcfdedbbhdioaaAi5
namespace Go.Proofs.Ytfcfdedbbhdioaa.AI
noncomputable section
open Go
set_option linter.unusedVariables false
set_option linter.unusedSimpArgs false

section
variable {P : Program} {G : List (Nat × Obj)} {s : List AV} {rows : List Row}

/-- What a store makes of the rows. -/
def storeAV (n : Nat) (rows : List Row) (p x : AV) : Option (List Row × Bool) :=
  match p with
  | .ptr k off ix =>
    match rows[k]? with
    | some (.blob e b) =>
      if x.one then some (rows.set k (.blob e (setAt b off ix x).1), (setAt b off ix x).2 && decide (n = 1))
      else match x.segs with
        | some bx => some (rows.set k (.blob e (putAt b off ix n bx).1), (putAt b off ix n bx).2)
        | none => none
    | _ => none
  | _ => none

theorem run_storeVar' {t : TypeId} {n : Nat} (hn : tySize P t = some n) (w : World) {g o : Nat} {cs : Array Value} {e : TypeId} {v : Value} (hb : w.heap[g]? = some (.cells cs e (0, 0))) (hs : v.cells.size = n)
    (hl : o + n ≤ cs.size) (h1 : ∀ (j : Nat) (u : Value), v.cells[j]? = some u → u.oneCell' = true) :
    (storeVar t ⟨g, o, none⟩ v).run P w = .ok () (w.setRow g (cs.toList.take o ++ v.cells.toList ++ cs.toList.drop (o + n)).toArray) := by
  have hst := run_storeCells_at P g o e v.cells.toList 0 cs w hb (by simp [hs]; omega) (fun u hu => by
    obtain ⟨j, hj⟩ := List.mem_iff_getElem?.1 hu
    exact h1 j u (by rw [← Array.getElem?_toList]; exact hj))
  simp only [Nat.add_zero, Array.length_toList, hs] at hst
  simp [storeVar, Sem.run_bind, run_sizeOf' hn, hs, hst]

theorem splice_get (cs : List Value) (vs : List Value) (o n j : Nat) (hn : vs.length = n) (hl : o + n ≤ cs.length) :
    (cs.take o ++ vs ++ cs.drop (o + n))[j]? = if o ≤ j ∧ j < o + n then vs[j - o]? else cs[j]? := by
  have ht : (cs.take o).length = o := by simp; omega
  rw [List.append_assoc]
  by_cases h1 : j < o
  · rw [List.getElem?_append_left (by omega), List.getElem?_take, if_pos h1, if_neg (by omega)]
  · rw [List.getElem?_append_right (by omega), ht]
    by_cases h2 : j < o + n
    · rw [List.getElem?_append_left (by omega), if_pos (by omega)]
    · rw [List.getElem?_append_right (by omega), if_neg (by omega), List.getElem?_drop]
      congr 1
      omega

theorem does_store {o : Oper} {t : TypeId} {p x : Operand} {n : Nat} {rows' : List Row} (ho : o.op = .store t p x) (hn : tySize P t = some n)
    (h : storeAV n rows ((Opd.of p).ev s) ((Opd.of x).ev s) = some (rows', true)) : Does P G o s rows (.c undef) rows' := by
  intro w R L a hs hr hg
  have hp := hs.ev p
  have hx := hs.ev x
  have key : ∀ v, a.eval p = .pointer (some v) → ∀ w', (storeVar t v (a.eval x)).run P w = .ok () w' → (execOp a.eval o).run P w = .ok .skip w' := by
    intro v hv w' hu
    simp [execOp, ho, hv, Instr.storeAt, Instr.sureAddr, hu]
  generalize (Opd.of p).ev s = pp at h hp
  generalize (Opd.of x).ev s = px at h hx
  generalize a.eval p = vp at hp key
  generalize a.eval x = vx at hx key
  unfold storeAV at h
  split at h
  · rename_i k off ix
    split at h
    · rename_i e b hk
      have hrow := hr.row k _ hk
      cases hp with
      | fr _ _ h' => cases h'
      | ptrGone _ _ _ q hL => rw [hL] at hrow; exact hrow.elim
      | ptr _ _ _ g hL =>
        rw [hL] at hrow
        obtain ⟨hnR, cs, hb, hz, hc⟩ := hrow
        -- one law for both ways
        have main : ∀ (b' : List Seg) (bx : Nat → Option AV), (∀ (j : Nat) (y : AV) (u : Value), bx j = some y → vx.cells[j]? = some u → VR w R L y u ∧ y.one = true) → (∀ j, j < n → (bx j).isSome) → vx.cells.size = n → segsSize b' = segsSize b → off + ix + n ≤ segsSize b →
            (∀ j, segsCell b' j = if off + ix ≤ j ∧ j < off + ix + n then bx (j - (off + ix)) else segsCell b j) → rows' = rows.set k (.blob e b') →
            ∃ v w' R' L', ((execOp a.eval o).run P w = .ok (.value v) w' ∨ ((execOp a.eval o).run P w = .ok .skip w' ∧ v = undef)) ∧ VR w' R' L' (.c undef) v ∧ RowsOK w' R' L' rows' ∧ Step w R L w' R' L' := by
          intro b' bx hbx hsome hsz hsz' hle hcell hrows
          subst hrows
          have h1 : ∀ (j : Nat) (u : Value), vx.cells[j]? = some u → u.oneCell' = true := by
            intro j u hu
            have hj : j < n := by rw [← hsz]; exact (Array.getElem?_eq_some_iff.1 hu).1
            obtain ⟨y, hy⟩ := Option.isSome_iff_exists.1 (hsome j hj)
            exact (hbx j y u hy hu).1.one (hbx j y u hy hu).2
          have hrun := run_storeVar' hn w (o := off + ix) hb hsz (by omega) h1
          refine ⟨undef, _, R, L, .inr ⟨key _ rfl _ hrun, rfl⟩, .fr _ _ (.c _), ?_⟩
          have hset := setRow_heap w g cs (cs.toList.take (off + ix) ++ vx.cells.toList ++ cs.toList.drop (off + ix + n)).toArray e (0, 0) hb
          have hnz : (cs.toList.take (off + ix) ++ vx.cells.toList ++ cs.toList.drop (off + ix + n)).toArray.size = cs.size := by
            simp [hsz]; omega
          obtain ⟨hst, hok⟩ := step_upd hr hL (w1 := w.setRow g (cs.toList.take (off + ix) ++ vx.cells.toList ++ cs.toList.drop (off + ix + n)).toArray) (by simp) (fun b'' hb'' => setRow_other w g b'' _ hb'')
            (fun cs' t' fr' hcs' => ⟨_, _, _, hset, by rw [hb] at hcs'; injection hcs' with hcs'; injection hcs' with q1 _ _; rw [← q1]; exact hnz⟩) rfl rfl rfl
          refine ⟨hok _ ⟨hnR, _, hset, by rw [hnz]; omega, fun j y u hy hu => ?_⟩, hst⟩
          rw [hcell] at hy
          have hu' : (cs.toList.take (off + ix) ++ vx.cells.toList ++ cs.toList.drop (off + ix + n))[j]? = some u := by simpa using hu
          rw [splice_get _ _ _ _ _ (by simp [hsz]) (by simp; omega)] at hu'
          split at hy
          · rename_i hin
            rw [if_pos hin] at hu'
            have := hbx _ y u hy (by rw [← Array.getElem?_toList]; exact hu')
            exact ⟨hst.vr hr this.1, this.2⟩
          · rename_i hin
            rw [if_neg hin] at hu'
            have := hc j y u hy (by rw [← Array.getElem?_toList]; exact hu')
            exact ⟨hst.vr hr this.1, this.2⟩
        split at h
        · rename_i hone
          simp only [Option.some.injEq, Prod.mk.injEq, Bool.and_eq_true, decide_eq_true_eq] at h
          obtain ⟨h1, h2, rfl⟩ := h
          obtain ⟨h3, h4, h5⟩ := setAt_spec h2
          have hvx := Value.cells_of_one (hx.one hone)
          refine main _ (fun j => if j = 0 then some px else none) (fun j y u hy hu => ?_) (fun j hj => ?_) (by rw [hvx]; rfl) h3 (by omega) (fun j => ?_) h1.symm
          · split at hy
            · rename_i e0; subst e0; injection hy with hy; subst hy
              rw [hvx] at hu; simp at hu; subst hu; exact ⟨hx, hone⟩
            · cases hy
          · simp; omega
          · rw [h5]
            by_cases hj : j = off + ix
            · subst hj; simp
            · rw [if_neg hj, if_neg (by omega)]
        · split at h
          · rename_i bx hbx
            simp only [Option.some.injEq, Prod.mk.injEq] at h
            obtain ⟨h1, h2⟩ := h
            obtain ⟨h3, h4, h5, h6⟩ := putAt_spec h2
            obtain ⟨h7, h8⟩ := segs_cells hbx hx
            exact main _ (segsCell bx) h8 (fun j hj => (segsCell_some bx j).2 (by omega)) (by omega) h3 h5 h6 h1.symm
          · cases h
    · cases h
  · cases h

/-- A field's address. -/
def faAV (off : Nat) : AV → Option AV
  | .ptr k o i => some (.ptr k (o + off) i)
  | .fptr x o i => some (.fptr x (o + off) i)
  | _ => none

def fldOf (P : Program) (t : TypeId) (f : Nat) : Option (Nat × TypeId) :=
  match P.underlying t with
  | some (.struct fs) => (fs[f]?).map fun x => (x.offset, x.type)
  | _ => none

theorem run_fieldAt {t : TypeId} {f off : Nat} {ft : TypeId} {n : Nat} (hf : fldOf P t f = some (off, ft)) (hn : tySize P ft = some n) (h0 : n ≠ 0) (w : World) (b o : Nat) :
    (Instr.fieldAt t (.pointer (some ⟨b, o, none⟩)) f).run P w = .ok (.pointer (some ⟨b, o + off, none⟩)) w := by
  unfold fldOf at hf
  split at hf
  · rename_i fs hu
    cases hq : fs[f]? with
    | none => simp [hq] at hf
    | some x =>
      simp only [hq, Option.map_some, Option.some.injEq, Prod.mk.injEq] at hf
      obtain ⟨rfl, rfl⟩ := hf
      simp [Instr.fieldAt, run_underlying hu, hq, Instr.sureAddr, fieldPlace, Sem.run_bind, run_sizeOf' hn, h0, addr_add]
  · cases hf

theorem does_fa {o : Oper} {t : TypeId} {x : Operand} {f off : Nat} {ft : TypeId} {n : Nat} {y : AV} (ho : o.op = .fieldAddr t x f) (hf : fldOf P t f = some (off, ft)) (hn : tySize P ft = some n) (h0 : n ≠ 0)
    (h : faAV off ((Opd.of x).ev s) = some y) (hlive : ∀ k o i, y = .ptr k o i → ∃ e b, rows[k]? = some (.blob e b)) : Does P G o s rows y rows := by
  refine Does.quiet fun w R L a hs hr hg => ?_
  have hx := hs.ev x
  have key : ∀ b q, a.eval x = .pointer (some ⟨b, q, none⟩) → (execOp a.eval o).run P w = .ok (.value (.pointer (some ⟨b, q + off, none⟩))) w := by
    intro b q hv
    simp [execOp, ho, hv, run_fieldAt hf hn h0]
  generalize (Opd.of x).ev s = p at h hx
  generalize a.eval x = vx at hx key
  unfold faAV at h
  split at h
  · rename_i k q i
    injection h with h
    obtain ⟨e, b, hk⟩ := hlive _ _ _ h.symm
    have hrow := hr.row k _ hk
    cases hx with
    | fr _ _ h' => cases h'
    | ptrGone _ _ _ q' hL => rw [hL] at hrow; exact hrow.elim
    | ptr _ _ _ g hL =>
      refine ⟨_, key _ _ rfl, ?_⟩
      subst h
      have : q + i + off = q + off + i := by omega
      rw [this]
      exact .ptr k (q + off) i g hL
  · rename_i z q i
    injection h with h
    subst h
    cases hx with
    | fr _ _ h' =>
      cases h' with
      | fptr _ _ _ g o' cs e fr hb hR f' hc h1 hv =>
        refine ⟨_, key _ _ rfl, ?_⟩
        have : o' + (q + i) + off = o' + (q + off + i) := by omega
        rw [this]
        exact .fr _ _ (.fptr z (q + off) i g o' cs e fr hb hR f' hc h1 hv)
  · cases h

/-- An element's address: of an array behind a pointer; of a slice. -/
def iaA (len sz : Nat) (p i : AV) : Option (AV × Bool) :=
  match p, i with
  | .ptr k o j, .c (.int _ n) => some (.ptr k o (j + n.toNat * sz), decide (0 ≤ n) && decide (n < len))
  | .fptr x o j, .c (.int _ n) => some (.fptr x o (j + n.toNat * sz), decide (0 ≤ n) && decide (n < len))
  | _, _ => none

def oneSeg (rows : List Row) (k : Nat) : Bool :=
  match rows[k]? with
  | some (.blob _ [_]) => true
  | _ => false

def iaS (sz : Nat) (rows : List Row) (p i : AV) : Option (AV × Bool) :=
  match p, i with
  | .sl k o len sz', .c (.int _ n) => some (if oneSeg rows k then .ptr k o (n.toNat * sz) else .ptr k (o + n.toNat * sz) 0, decide (0 ≤ n) && decide (n < len) && decide (sz = sz'))
  | .fsl len sz' b, .c (.int _ n) => some (match b with | [_] => .fptr (.agg b) 0 (n.toNat * sz) | _ => .fptr (.agg b) (n.toNat * sz) 0, decide (0 ≤ n) && decide (n < len) && decide (sz = sz'))
  | _, _ => none

def arrOf (P : Program) (t : TypeId) : Option (Nat × TypeId) :=
  match P.underlying t with
  | some (.array n e) => some (n, e)
  | _ => none

def sliOf (P : Program) (t : TypeId) : Option TypeId :=
  match P.underlying t with
  | some (.slice e) => some e
  | _ => none

theorem arrOf_u {t : TypeId} {n : Nat} {e : TypeId} (h : arrOf P t = some (n, e)) : P.underlying t = some (.array n e) := by
  unfold arrOf at h
  split at h
  · rename_i hu; simp only [Option.some.injEq, Prod.mk.injEq] at h; obtain ⟨rfl, rfl⟩ := h; exact hu
  · cases h

theorem sliOf_u {t e : TypeId} (h : sliOf P t = some e) : P.underlying t = some (.slice e) := by
  unfold sliOf at h
  split at h
  · rename_i hu; simp only [Option.some.injEq] at h; subst h; exact hu
  · cases h

theorem does_iaA {o : Oper} {t e : TypeId} {x i : Operand} {len sz : Nat} {y : AV} (ho : o.op = .indexAddr t x i) (ht : arrOf P t = some (len, e)) (hn : tySize P e = some sz)
    (h : iaA len sz ((Opd.of x).ev s) ((Opd.of i).ev s) = some (y, true)) (hlive : ∀ k o i, y = .ptr k o i → ∃ e b, rows[k]? = some (.blob e b)) : Does P G o s rows y rows := by
  refine Does.quiet fun w R L a hs hr hg => ?_
  have hx := hs.ev x
  have hi := hs.ev i
  have key : ∀ b q k n, a.eval x = .pointer (some ⟨b, q, none⟩) → a.eval i = .int k n → 0 ≤ n → n < len → (execOp a.eval o).run P w = .ok (.value (.pointer (some ⟨b, q + n.toNat * sz, none⟩))) w := by
    intro b q k n hv hv' h0 h1
    simp [execOp, ho, hv, hv', Instr.indexAt, asIntOf, run_underlying (arrOf_u ht), Instr.sureAddr, h0, h1, run_sizeOf' hn, addr_add]
  generalize (Opd.of x).ev s = p at h hx
  generalize (Opd.of i).ev s = q at h hi
  generalize a.eval x = vx at hx key
  generalize a.eval i = vi at hi key
  unfold iaA at h
  split at h
  · rename_i k o' j kk n
    simp only [Option.some.injEq, Prod.mk.injEq, Bool.and_eq_true, decide_eq_true_eq] at h
    obtain ⟨rfl, h0, h1⟩ := h
    obtain ⟨e', b, hk⟩ := hlive _ _ _ rfl
    have hrow := hr.row k _ hk
    have hvi : vi = .int kk n := by cases hi with | fr _ _ h' => cases h'; rfl
    cases hx with
    | fr _ _ h' => cases h'
    | ptrGone _ _ _ q' hL => rw [hL] at hrow; exact hrow.elim
    | ptr _ _ _ g hL =>
      refine ⟨_, key _ _ _ _ rfl hvi h0 h1, ?_⟩
      have : o' + j + n.toNat * sz = o' + (j + n.toNat * sz) := by omega
      rw [this]
      exact .ptr k o' _ g hL
  · rename_i z o' j kk n
    simp only [Option.some.injEq, Prod.mk.injEq, Bool.and_eq_true, decide_eq_true_eq] at h
    obtain ⟨rfl, h0, h1⟩ := h
    have hvi : vi = .int kk n := by cases hi with | fr _ _ h' => cases h'; rfl
    cases hx with
    | fr _ _ h' =>
      cases h' with
      | fptr _ _ _ g o'' cs e fr hb hR f' hc h1' hv =>
        refine ⟨_, key _ _ _ _ rfl hvi h0 h1, ?_⟩
        have : o'' + (o' + j) + n.toNat * sz = o'' + (o' + (j + n.toNat * sz)) := by omega
        rw [this]
        exact .fr _ _ (.fptr z o' _ g o'' cs e fr hb hR f' hc h1' hv)
  · cases h

theorem does_iaS {o : Oper} {t e : TypeId} {x i : Operand} {sz : Nat} {y : AV} (ho : o.op = .indexAddr t x i) (ht : sliOf P t = some e) (hn : tySize P e = some sz)
    (h : iaS sz rows ((Opd.of x).ev s) ((Opd.of i).ev s) = some (y, true)) (hlive : ∀ k o i, y = .ptr k o i → ∃ e b, rows[k]? = some (.blob e b)) : Does P G o s rows y rows := by
  refine Does.quiet fun w R L a hs hr hg => ?_
  have hx := hs.ev x
  have hi := hs.ev i
  have key : ∀ b q k n len cap, a.eval x = .slice (some ⟨b, q, none⟩) len cap → a.eval i = .int k n → 0 ≤ n → n < len → (execOp a.eval o).run P w = .ok (.value (.pointer (some ⟨b, q + n.toNat * sz, none⟩))) w := by
    intro b q k n len cap hv hv' h0 h1
    simp [execOp, ho, hv, hv', Instr.indexAt, asIntOf, run_underlying (sliOf_u ht), h0, h1, run_sizeOf' hn, addr_add]
  generalize (Opd.of x).ev s = p at h hx
  generalize (Opd.of i).ev s = q at h hi
  generalize a.eval x = vx at hx key
  generalize a.eval i = vi at hi key
  unfold iaS at h
  split at h
  · rename_i k o' len sz' kk n
    simp only [Option.some.injEq, Prod.mk.injEq, Bool.and_eq_true, decide_eq_true_eq] at h
    obtain ⟨hy, ⟨h0, h1⟩, rfl⟩ := h
    have hk : ∃ e b, rows[k]? = some (.blob e b) := by
      split at hy
      · exact hlive _ _ _ hy.symm
      · exact hlive _ _ _ hy.symm
    obtain ⟨e', b, hk⟩ := hk
    have hrow := hr.row k _ hk
    have hvi : vi = .int kk n := by cases hi with | fr _ _ h' => cases h'; rfl
    cases hx with
    | fr _ _ h' => cases h'
    | slGone _ _ _ _ q' _ _ hL => rw [hL] at hrow; exact hrow.elim
    | slNil => exfalso; simp at h1; omega
    | sl _ _ _ _ g cap cs t' fr hL hb hl hcap hm =>
      refine ⟨_, key _ _ _ _ _ _ rfl hvi h0 h1, ?_⟩
      subst hy
      split
      · exact .ptr k o' _ g hL
      · exact .ptr k (o' + n.toNat * sz) 0 g hL
  · rename_i len sz' b kk n
    simp only [Option.some.injEq, Prod.mk.injEq, Bool.and_eq_true, decide_eq_true_eq] at h
    obtain ⟨rfl, ⟨h0, h1⟩, rfl⟩ := h
    have hvi : vi = .int kk n := by cases hi with | fr _ _ h' => cases h'; rfl
    cases hx with
    | fr _ _ h' =>
      cases h' with
      | fsl _ _ _ g o'' cap cs e fr hb hR f' hs' hn' hc h1' hv =>
        refine ⟨_, key _ _ _ _ _ _ rfl hvi h0 h1, ?_⟩
        split
        · have : o'' + n.toNat * sz = o'' + (0 + n.toNat * sz) := by omega
          rw [this]
          exact .fr _ _ (.fptr (.agg _) 0 _ g o'' cs e fr hb hR f' hc h1' hv)
        · exact .fr _ _ (.fptr (.agg b) (n.toNat * sz) 0 g o'' cs e fr hb hR f' hc h1' hv)
      | fslNil => exfalso; simp at h1; omega
  · cases h

/-- Is a row there? -/
def live (rows : List Row) (k : Nat) : Bool :=
  match rows[k]? with
  | some (.blob _ _) => true
  | _ => false

theorem live_ex {k : Nat} (h : live rows k = true) : ∃ e b, rows[k]? = some (.blob e b) := by
  unfold live at h
  split at h
  · exact ⟨_, _, ‹_›⟩
  · cases h

/-- len. -/
def lenAV (rows : List Row) : AV → Option AV
  | .sl k _ len _ => if live rows k then some (.c (.int .i64 len)) else none
  | .fsl n _ _ => some (.c (.int .i64 n))
  | .c (.slice _ n _) => some (.c (.int .i64 n))
  | .c (.string b) => some (.c (.int .i64 b.size))
  | _ => none

end
end
end Go.Proofs.Ytfcfdedbbhdioaa.AI
