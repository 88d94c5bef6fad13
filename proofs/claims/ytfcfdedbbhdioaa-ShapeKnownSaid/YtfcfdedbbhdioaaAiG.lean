/- AI G: parts of values; parts of slices; empty literals; what an interface value is. -/
import Derived.Test.YtfcfdedbbhdioaaAi9
namespace Go.Proofs.Ytfcfdedbbhdioaa.AI
noncomputable section
open Go
set_option linter.unusedVariables false
set_option linter.unusedSimpArgs false

section
variable {P : Program} {G : List (Nat × Obj)} {s : List AV} {rows : List Row}

theorem VR.agg_or {w : World} {R : Nat → Prop} {L : Nat → Place} {x : AV} {v : Value} (h : VR w R L x v) (hx : (∃ b, x = .agg b) ∨ ∃ cs, x = .c (.agg cs)) : ∃ cs, v = .agg cs := by
  rcases hx with ⟨b, rfl⟩ | ⟨cs, rfl⟩
  · cases h with
    | fr _ _ h => cases h with | agg _ cs => exact ⟨cs, rfl⟩
    | agg _ cs => exact ⟨cs, rfl⟩
  · exact ⟨cs, h.of_c⟩

/-- The cells of a value of several cells. -/
def aggSegs : AV → Option (List Seg)
  | .agg b => some b
  | .c (.agg cs) => AV.segs (.c (.agg cs))
  | _ => none

theorem aggSegs_spec {w : World} {R : Nat → Prop} {L : Nat → Place} {x : AV} {b : List Seg} {v : Value} (h : aggSegs x = some b) (hv : VR w R L x v) :
    ∃ cs, v = .agg cs ∧ cs.size = segsSize b ∧ ∀ (j : Nat) (y : AV) (u : Value), segsCell b j = some y → cs[j]? = some u → VR w R L y u ∧ y.one = true := by
  unfold aggSegs at h
  split at h
  · injection h with h
    subst h
    obtain ⟨cs, rfl⟩ := hv.agg_or (.inl ⟨_, rfl⟩)
    exact ⟨cs, rfl, segs_cells (x := .agg _) rfl hv⟩
  · obtain ⟨cs, rfl⟩ := hv.agg_or (.inr ⟨_, rfl⟩)
    exact ⟨cs, rfl, segs_cells h hv⟩
  · cases h

theorem part_run {w : World} {R : Nat → Prop} {L : Nat → Place} {agg : Bool} {n : Nat} {b : List Seg} {o i : Nat} {t : TypeId} (ha : tyAgg P t = some agg) (hn : tySize P t = some n) (h : (pickAt agg n b o i).2 = true)
    {cs : Array Value} (hz : cs.size = segsSize b) (hv : ∀ (j : Nat) (y : AV) (v : Value), segsCell b j = some y → cs[j]? = some v → VR w R L y v ∧ y.one = true) :
    ∃ v, (part t cs (o + i)).run P w = .ok v w ∧ VR w R L (pickAt agg n b o i).1 v := by
  unfold pickAt at h ⊢
  cases agg with
  | true =>
    simp only [if_true, Bool.and_eq_true, decide_eq_true_eq] at h ⊢
    obtain ⟨h1, h2, h3⟩ := subAt_spec h.1
    refine ⟨.agg (cs.extract (o + i) (o + i + n)), by simp [part, Sem.run_bind, run_isAgg ha, run_sizeOf' hn], .agg _ _ (by simp [h1]; omega) (fun j y hy => ?_) fun j y v hy hv' => ?_⟩
    · obtain ⟨x, hx, hm⟩ := h3 j y hy
      have hj := segsCell_lt hx
      have hl : o + i + j < cs.size := by omega
      exact may_one hm (hv _ x cs[o + i + j] hx (by simp [hl])).2
    · obtain ⟨x, hx, hm⟩ := h3 j y hy
      rw [Array.getElem?_extract] at hv'
      split at hv'
      · exact may_vr hm (hv _ x v hx hv').1
      · cases hv'
  | false =>
    simp only [Bool.false_eq_true, if_false] at h ⊢
    have h1 := cellAt_spec h
    have hj := segsCell_lt h1
    have hl : o + i < cs.size := by omega
    have h2 : cs[o + i]? = some cs[o + i] := by simp [hl]
    exact ⟨cs[o + i], by simp [part, Sem.run_bind, run_isAgg ha, h2], (hv _ _ _ h1 h2).1.unfz⟩

def fldAV (agg : Bool) (off n : Nat) (x : AV) : Option (AV × Bool) := (aggSegs x).map fun b => pickAt agg n b off 0

theorem does_fld {o : Oper} {t : TypeId} {x : Operand} {f off : Nat} {ft : TypeId} {agg : Bool} {n : Nat} {y : AV} (ho : o.op = .field t x f) (hf : fldOf P t f = some (off, ft)) (ha : tyAgg P ft = some agg) (hn : tySize P ft = some n)
    (h : fldAV agg off n ((Opd.of x).ev s) = some (y, true)) : Does P G o s rows y rows := by
  refine Does.quiet fun w R L a hs hr hg => ?_
  have hx := hs.ev x
  unfold fldAV at h
  simp only [Option.map_eq_some_iff] at h
  obtain ⟨b, hb, hp⟩ := h
  obtain ⟨cs, hv, hsz, hcell⟩ := aggSegs_spec hb hx
  obtain ⟨u, hu, hvr⟩ := part_run ha hn (o := off) (i := 0) (by rw [hp]) hsz hcell
  rw [hp] at hvr
  refine ⟨u, ?_, hvr⟩
  unfold fldOf at hf
  split at hf
  · rename_i fs hu'
    cases hq : fs[f]? with
    | none => simp [hq] at hf
    | some z =>
      simp only [hq, Option.map_some, Option.some.injEq, Prod.mk.injEq] at hf
      obtain ⟨rfl, rfl⟩ := hf
      rw [Nat.add_zero] at hu
      simp [execOp, ho, Instr.field, run_underlying hu', hq, hv, asAgg, hu]
  · cases hf

def ixAV (agg : Bool) (len sz : Nat) (x i : AV) : Option (AV × Bool) :=
  match aggSegs x, i with
  | some b, .c (.int _ n) => some ((pickAt agg sz b 0 (n.toNat * sz)).1, (pickAt agg sz b 0 (n.toNat * sz)).2 && decide (0 ≤ n) && decide (n < len))
  | _, _ => none

theorem does_ix {o : Oper} {t e : TypeId} {x i : Operand} {len : Nat} {agg : Bool} {sz : Nat} {y : AV} (ho : o.op = .index t x i) (ht : arrOf P t = some (len, e)) (ha : tyAgg P e = some agg) (hn : tySize P e = some sz)
    (h : ixAV agg len sz ((Opd.of x).ev s) ((Opd.of i).ev s) = some (y, true)) : Does P G o s rows y rows := by
  refine Does.quiet fun w R L a hs hr hg => ?_
  have hx := hs.ev x
  have hi := hs.ev i
  unfold ixAV at h
  split at h
  · rename_i b k n hb hiv
    rw [hiv] at hi
    have hi' := hi.of_c
    simp only [Option.some.injEq, Prod.mk.injEq, Bool.and_eq_true, decide_eq_true_eq] at h
    obtain ⟨rfl, ⟨h1, h2⟩, h3⟩ := h
    obtain ⟨cs, hv, hsz, hcell⟩ := aggSegs_spec hb hx
    obtain ⟨u, hu, hvr⟩ := part_run ha hn h1 hsz hcell
    rw [Nat.zero_add] at hu
    exact ⟨u, by simp [execOp, ho, Instr.index, hi', asIntOf, run_underlying (arrOf_u ht), hv, h2, h3, run_sizeOf' hn, hu], hvr⟩
  · cases h

theorem run_slice {t e : TypeId} {sz : Nat} (ht : sliOf P t = some e) (hn : tySize P e = some sz) (w : World) (a : Option Addr) (len cap : Nat) (lo hi : Option Value) (l h : Int) (hl : lo = none ∧ l = 0 ∨ ∃ k, lo = some (.int k l))
    (hh : hi = none ∧ h = len ∨ ∃ k, hi = some (.int k h)) (h0 : 0 ≤ l) (h1 : l ≤ h) (h2 : h ≤ len) (h3 : len ≤ cap) :
    (Instr.sliceAt t (.slice a len cap) lo hi none).run P w = .ok (.slice (if cap = l.toNat then a else a.map (·.add (l.toNat * sz))) (h.toNat - l.toNat) (cap - l.toNat)) w := by
  have hu := sliOf_u ht
  have h4 : h ≤ cap := by omega
  have e1 : ∀ k, (Instr.sliceBound (.int k h) cap .sliceAcap).run P w = .ok h.toNat w := fun k => by simp [Instr.sliceBound, asIntOf, show 0 ≤ h by omega, h4]
  have e2 : ∀ k, (Instr.sliceBound (.int k l) h.toNat .sliceB).run P w = .ok l.toNat w := fun k => by
    have : l ≤ max h 0 := by omega
    simp [Instr.sliceBound, asIntOf, h0, this]
  have key : (Instr.sliceBounds true len cap lo hi none).run P w = .ok (l.toNat, h.toNat, cap) w := by
    rcases hl with ⟨rfl, rfl⟩ | ⟨k, rfl⟩ <;> rcases hh with ⟨rfl, rfl⟩ | ⟨k', rfl⟩ <;> simp [Instr.sliceBounds, e1]
    · have := e2 k
      simp only [Int.toNat_natCast] at this
      simp [this]
    · simp [e2]
  simp [Instr.sliceAt, Instr.slice, run_underlying hu, key, run_sizeOf' hn]

theorem bnd_spec {a : Act} {w : World} {R : Nat → Prop} {L : Nat → Place} (hs : SlotsOK w R L s a.tmps) {x : Option Operand} {d n : Int} (h : bnd (x.map fun z => (Opd.of z).ev s) d = some n) :
    (x.map a.eval = none ∧ n = d) ∨ ∃ k, x.map a.eval = some (.int k n) := by
  cases x with
  | none => simp [bnd] at h; exact .inl ⟨rfl, h.symm⟩
  | some z =>
    have hz := hs.ev z
    simp only [Option.map_some] at h ⊢
    generalize (Opd.of z).ev s = y at h hz
    unfold bnd at h
    split at h
    · rename_i q; cases q
    · rename_i k m q
      injection q with q
      injection h with h
      subst q h
      exact .inr ⟨k, by rw [hz.of_c]⟩
    · cases h

theorem does_slc {o : Oper} {t e : TypeId} {x : Operand} {lo hi : Option Operand} {sz : Nat} {y : AV} (ho : o.op = .slice t x lo hi none) (ht : sliOf P t = some e) (hn : tySize P e = some sz)
    (h : slcAV rows sz ((Opd.of x).ev s) (lo.map fun z => (Opd.of z).ev s) (hi.map fun z => (Opd.of z).ev s) = some (y, true)) : Does P G o s rows y rows := by
  refine Does.quiet fun w R L a hs hr hg => ?_
  have hx := hs.ev x
  have hrun : ∀ v r, (Instr.sliceAt t v (lo.map a.eval) (hi.map a.eval) none).run P w = .ok r w → a.eval x = v → (execOp a.eval o).run P w = .ok (.value r) w := by
    intro v r h1 h2
    subst h2
    simp [execOp, ho, h1]
  unfold slcAV at h
  split at h
  · rename_i k q len sz' hxe
    rw [hxe] at hx
    split at h
    · rename_i l hh hbl hbh
      simp only [Option.some.injEq, Prod.mk.injEq, Bool.and_eq_true, decide_eq_true_eq] at h
      obtain ⟨rfl, ⟨⟨⟨hlv, rfl⟩, h0⟩, h1⟩, h2⟩ := h
      obtain ⟨te, b, hk⟩ := live_ex hlv
      have hrow := hr.row k _ hk
      have hlo := bnd_spec hs hbl
      have hhi := bnd_spec hs hbh
      cases hx' : a.eval x <;> rw [hx'] at hx <;> (try (cases hx; done)) <;> (try (cases hx with | fr _ _ h' => cases h'))
      rename_i a' n cap
      cases hx with
      | fr _ _ h' => cases h'
      | slGone _ _ _ _ _ _ _ hL => rw [hL] at hrow; exact hrow.elim
      | slNil _ _ hL =>
        have hl0 : l = 0 := by simp at h2; omega
        have hh0 : hh = 0 := by simp at h2; omega
        subst hl0 hh0
        refine ⟨_, hrun _ _ (run_slice ht hn w none 0 0 _ _ 0 0 (hlo.imp id id) (hhi.imp id id) (by omega) (by omega) (by simp) (by simp)) hx', ?_⟩
        simp
        exact .slNil k sz hL
      | sl _ _ _ _ g cap' cs t' fr hL hb hl hcap hm =>
        have hlt : l.toNat ≤ len := by omega
        refine ⟨_, hrun _ _ (run_slice ht hn w _ len cap _ _ l hh (hlo.imp id id) (hhi.imp id id) h0 h1 h2 hl) hx', ?_⟩
        by_cases c1 : l < (len : Int)
        · rw [if_pos c1, if_neg (show ¬ cap = l.toNat by omega)]
          simp only [Option.map_some, addr_add]
          refine .sl k _ _ sz g _ cs t' fr hL hb (by omega) ?_ (by omega)
          have : l.toNat * sz + (cap - l.toNat) * sz = cap * sz := by rw [← Nat.add_mul]; congr 1; omega
          omega
        · rw [if_neg c1]
          by_cases c2 : l = 0
          · subst c2
            rw [if_pos rfl]
            have hn0 : len = 0 := by omega
            have hh0 : hh.toNat - (0 : Int).toNat = 0 := by omega
            rw [hh0]
            have : (if cap = (0 : Int).toNat then some (⟨g, q, none⟩ : Addr) else (some (⟨g, q, none⟩ : Addr)).map fun z => z.add ((0 : Int).toNat * sz)) = some ⟨g, q, none⟩ := by
              split
              · rfl
              · simp [addr_add]
            rw [this]
            refine .sl k _ 0 sz g _ cs t' fr hL hb (by omega) (by simpa using hcap) (by simpa using hm)
          · rw [if_neg c2]
            have hh0 : hh.toNat - l.toNat = 0 := by omega
            rw [hh0]
            exact .fr _ _ (.fslNil sz [] _ _ rfl)
    · cases h
  · rename_i len sz' b hxe
    rw [hxe] at hx
    split at h
    · rename_i l hh hbl hbh
      simp only [Option.some.injEq, Prod.mk.injEq, Bool.and_eq_true, decide_eq_true_eq] at h
      obtain ⟨rfl, ⟨⟨⟨hok, rfl⟩, h0⟩, h1⟩, h2⟩ := h
      have hlo := bnd_spec hs hbl
      have hhi := bnd_spec hs hbh
      cases hx' : a.eval x <;> rw [hx'] at hx <;> (try (cases hx with | fr _ _ h' => cases h'; done))
      rename_i a' n cap
      cases hx with
      | fr _ _ h' =>
        cases h' with
        | fslNil _ _ _ _ hs0 =>
          have hl0 : l = 0 := by simp at h2; omega
          have hh0 : hh = 0 := by simp at h2; omega
          subst hl0 hh0
          refine ⟨_, hrun _ _ (run_slice ht hn w _ 0 cap _ _ 0 0 (hlo.imp id id) (hhi.imp id id) (by omega) (by omega) (by simp) (by simp)) hx', ?_⟩
          rw [if_neg (by simp)]
          exact .fr _ _ (.fslNil sz [] _ _ rfl)
        | fsl _ _ _ g q _ cs t' fr hb hR f hsz hcl hc h1' hv =>
          refine ⟨_, hrun _ _ (run_slice ht hn w _ len cap _ _ l hh (hlo.imp id id) (hhi.imp id id) h0 h1 h2 hcl) hx', ?_⟩
          by_cases c1 : l < hh
          · rw [if_pos c1] at hok ⊢
            rw [if_neg (show ¬ cap = l.toNat by omega)]
            obtain ⟨h3, h4, h5⟩ := subAt_spec hok
            simp only [Option.map_some, addr_add]
            refine .fr _ _ (.fsl _ _ _ g _ _ cs t' fr hb hR (fun j => f (l.toNat * sz + j)) h3 (by omega) (fun j y hy => ?_) (fun j y hy => ?_) fun j y hy => ?_)
            · obtain ⟨x', hx1, hm⟩ := h5 j y hy
              rw [Nat.zero_add] at hx1
              rw [Nat.add_assoc]
              exact hc _ x' hx1
            · obtain ⟨x', hx1, hm⟩ := h5 j y hy
              exact may_one hm (h1' _ x' hx1)
            · obtain ⟨x', hx1, hm⟩ := h5 j y hy
              rw [Nat.zero_add] at hx1
              have := hv _ x' hx1
              rcases hm with rfl | rfl
              · exact this
              · cases this with | fz _ _ h _ => exact h
          · rw [if_neg c1]
            have hh0 : hh.toNat - l.toNat = 0 := by omega
            rw [hh0]
            exact .fr _ _ (.fslNil sz [] _ _ rfl)
    · cases h
  · rename_i hxe
    rw [hxe] at hx
    split at h
    · rename_i hbl hbh
      simp only [Option.some.injEq, Prod.mk.injEq, and_true] at h
      subst h
      have hlo := bnd_spec hs hbl
      have hhi := bnd_spec hs hbh
      refine ⟨_, hrun _ _ (run_slice ht hn w none 0 0 _ _ 0 0 (hlo.imp id id) (hhi.imp id id) (by omega) (by omega) (by simp) (by simp)) hx.of_c, ?_⟩
      simp
      exact .fr _ _ (.c _)
    · cases h
  · cases h

def tasAV (t : TypeId) (z : Value) (ok : Bool) (x : AV) : Option AV :=
  match x with
  | .ifc t' y => if t' = t then some (if ok then .tup [y, .c (.bool true)] else y) else if ok then some (.tup [.c z, .c (.bool false)]) else none
  | .c .nilIface => if ok then some (.tup [.c z, .c (.bool false)]) else none
  | _ => none

theorem run_tas {t st : TypeId} {ok : Bool} {z : Value} (hz : zeroOf P t = some z) (ht : (match P.underlying t with | some (.interface _) | none => false | _ => true) = true) (w : World) :
    (∀ v, (Instr.typeAssert (.iface t v) st t ok).run P w = .ok (if ok then .tuple #[v, .bool true] else v) w) ∧ (∀ t' v, t' ≠ t → (Instr.typeAssert (.iface t' v) st t true).run P w = .ok (.tuple #[z, .bool false]) w) ∧
    ((Instr.typeAssert .nilIface st t true).run P w = .ok (.tuple #[z, .bool false]) w) := by
  have hz' := run_zeroValue' hz
  cases hu : P.underlying t with
  | none => rw [hu] at ht; cases ht
  | some d =>
    rw [hu] at ht
    refine ⟨fun v => ?_, fun t' v hne => ?_, ?_⟩ <;> cases d <;> first | cases ht | skip
    all_goals first
      | (cases ok <;> simp [Instr.typeAssert, run_underlying hu]; done)
      | simp [Instr.typeAssert, run_underlying hu, hne, hz']
      | simp [Instr.typeAssert, run_underlying hu, hz']

theorem does_tas {o : Oper} {t st : TypeId} {x : Operand} {ok : Bool} {z : Value} {y : AV} (ho : o.op = .typeAssert x st t ok) (hz : zeroOf P t = some z) (ht : (match P.underlying t with | some (.interface _) | none => false | _ => true) = true)
    (h : tasAV t z ok ((Opd.of x).ev s) = some y) : Does P G o s rows y rows := by
  refine Does.quiet fun w R L a hs hr hg => ?_
  have hx := hs.ev x
  obtain ⟨r1, r2, r3⟩ := run_tas (st := st) (ok := ok) hz ht w
  have fl : VR w R L (.tup [.c z, .c (.bool false)]) (.tuple #[z, .bool false]) := .tup _ _ rfl fun j y v hy hv => by
    match j with
    | 0 => simp at hy hv; subst hy hv; exact .fr _ _ (.c _)
    | 1 => simp at hy hv; subst hy hv; exact .fr _ _ (.c _)
    | j + 2 => simp at hy
  unfold tasAV at h
  split at h
  · rename_i t' u hxe
    rw [hxe] at hx
    obtain ⟨v, hv, hu⟩ : ∃ v, a.eval x = .iface t' v ∧ VR w R L u v := by
      cases hq : a.eval x <;> rw [hq] at hx <;> cases hx <;> first | (rename_i h'; cases h'; done) | skip
      · rename_i h'; cases h' with | ifc _ _ _ h => exact ⟨_, rfl, .fr _ _ h⟩
      · exact ⟨_, rfl, ‹_›⟩
    split at h
    · rename_i heq
      subst heq
      injection h with h
      subst h
      refine ⟨if ok = true then .tuple #[v, .bool true] else v, by simp [execOp, ho, hv, r1 v], ?_⟩
      cases ok
      · exact hu
      · refine .tup _ _ rfl fun j y v hy hv => ?_
        match j with
        | 0 => simp at hy hv; subst hy hv; exact hu
        | 1 => simp at hy hv; subst hy hv; exact .fr _ _ (.c _)
        | j + 2 => simp at hy
    · rename_i hne
      split at h
      · rename_i hok
        subst hok
        injection h with h
        subst h
        exact ⟨_, by simp [execOp, ho, hv, r2 t' v hne], fl⟩
      · cases h
  · rename_i hxe
    rw [hxe] at hx
    have hv := hx.of_c
    split at h
    · rename_i hok
      subst hok
      injection h with h
      subst h
      exact ⟨_, by simp [execOp, ho, hv, r3], fl⟩
    · cases h
  · cases h

theorem does_bsl0 {o : Oper} {t e : TypeId} {sz : Nat} (ho : o.op = .buildSlice t 0 #[]) (ht : sliOf P t = some e) (hn : tySize P e = some sz) : Does P G o s rows (.sl rows.length 0 0 sz) (rows ++ [.blob e []]) := by
  intro w R L a hs hr hg
  have hrun : (Instr.buildSlice t 0 #[]).run P w = .ok (.slice (some ⟨w.heap.size, 0, none⟩) 0 0) (w.alloc (.cells #[] e)) := by
    simp [Instr.buildSlice, run_underlying (sliOf_u ht), run_sizeOf' hn, Instr.fill, newRow, show Array.range 0 = #[] from rfl]
  obtain ⟨h3, h4⟩ := new_row hr e [] #[] (by simp [segsSize]) (fun j y u hy hu => by simp [segsCell] at hy)
  refine ⟨.slice (some ⟨w.heap.size, 0, none⟩) 0 0, _, _, _, .inl (by simp [execOp, ho, hrun]), ?_, h4, h3⟩
  exact .sl _ 0 _ _ w.heap.size 0 _ e (0, 0) (by simp) (heap_alloc_new w _) (Nat.le_refl _) (by simp) (by simp)

/-- x == nil, of slices, functions, maps, interfaces. -/
def liveM (rows : List Row) (k : Nat) : Bool :=
  match rows[k]? with
  | some (.map _) => true
  | _ => false

def nilEq2 (rows : List Row) (z : Value) (x : AV) : Option Bool :=
  match z, x with
  | .slice none 0 0, .sl k _ n _ => if live rows k && decide (0 < n) then some false else none
  | .slice none 0 0, .fsl n _ _ => if 0 < n then some false else none
  | .slice none 0 0, .c (.slice none _ _) => some true
  | .slice none 0 0, .c (.slice (some _) _ _) => some false
  | .nilFunc, .fn .. => some false
  | .nilFunc, .c .nilFunc => some true
  | .nilFunc, .c (.func ..) => some false
  | .map none, .mp k => if liveM rows k then some false else none
  | .map none, .c (.map none) => some true
  | .nilIface, .ifc .. => some false
  | .nilIface, .c .nilIface => some true
  | _, _ => none

def nilKind (P : Program) (t : TypeId) (z : Value) : Bool :=
  match P.underlying t, z with
  | some (.slice _), .slice none 0 0 | some (.func ..), .nilFunc | some (.map ..), .map none => true
  | some (.interface _), .nilIface => true
  | _, _ => false

def NilVal (z v : Value) (b : Bool) : Prop :=
  (z = .slice none 0 0 ∧ ∃ a n c, v = .slice a n c ∧ b = a.isNone) ∨ (z = .nilFunc ∧ ((v = .nilFunc ∧ b = true) ∨ ∃ f p q, v = .func f p q ∧ b = false)) ∨
  (z = .map none ∧ ∃ m, v = .map m ∧ b = m.isNone) ∨ (z = .nilIface ∧ ((v = .nilIface ∧ b = true) ∨ ∃ t u, v = .iface t u ∧ b = false))

theorem nilEq2_val {w : World} {R : Nat → Prop} {L : Nat → Place} {z : Value} {x : AV} {v : Value} {b : Bool} (hr : RowsOK w R L rows) (hx : VR w R L x v) (h : nilEq2 rows z x = some b) : NilVal z v b := by
  unfold nilEq2 at h
  split at h
  · rename_i k _ n _
    split at h
    · rename_i hc
      simp only [Bool.and_eq_true, decide_eq_true_eq] at hc
      obtain ⟨e, bb, hk⟩ := live_ex hc.1
      have hrow := hr.row k _ hk
      injection h with h
      subst h
      refine .inl ⟨rfl, ?_⟩
      cases hx with
      | fr _ _ h' => cases h'
      | slGone _ _ _ _ _ _ _ hL => rw [hL] at hrow; exact hrow.elim
      | slNil => omega
      | sl => exact ⟨_, _, _, rfl, rfl⟩
    · cases h
  · split at h
    · rename_i hn
      injection h with h
      subst h
      refine .inl ⟨rfl, ?_⟩
      cases hx with
      | fr _ _ h' => cases h' with
        | fsl => exact ⟨_, _, _, rfl, rfl⟩
        | fslNil => omega
    · cases h
  · injection h with h; subst h; rw [hx.of_c]; exact .inl ⟨rfl, _, _, _, rfl, rfl⟩
  · injection h with h; subst h; rw [hx.of_c]; exact .inl ⟨rfl, _, _, _, rfl, rfl⟩
  · injection h with h; subst h
    refine .inr (.inl ⟨rfl, .inr ?_⟩)
    cases hx with
    | fr _ _ h' => cases h'; exact ⟨_, _, _, rfl, rfl⟩
    | fn => exact ⟨_, _, _, rfl, rfl⟩
  · injection h with h; subst h; rw [hx.of_c]; exact .inr (.inl ⟨rfl, .inl ⟨rfl, rfl⟩⟩)
  · injection h with h; subst h; rw [hx.of_c]; exact .inr (.inl ⟨rfl, .inr ⟨_, _, _, rfl, rfl⟩⟩)
  · rename_i k
    split at h
    · rename_i hc
      injection h with h
      subst h
      refine .inr (.inr (.inl ⟨rfl, ?_⟩))
      unfold liveM at hc
      split at hc
      · rename_i es hk
        have hrow := hr.row k _ hk
        cases hx with
        | fr _ _ h' => cases h'
        | mpGone _ _ hL => rw [hL] at hrow; exact hrow.elim
        | mp => exact ⟨_, rfl, rfl⟩
      · cases hc
    · cases h
  · injection h with h; subst h; rw [hx.of_c]; exact .inr (.inr (.inl ⟨rfl, _, rfl, rfl⟩))
  · injection h with h; subst h
    refine .inr (.inr (.inr ⟨rfl, .inr ?_⟩))
    cases hx with
    | fr _ _ h' => cases h'; exact ⟨_, _, rfl, rfl⟩
    | ifc => exact ⟨_, _, rfl, rfl⟩
  · injection h with h; subst h; rw [hx.of_c]; exact .inr (.inr (.inr ⟨rfl, .inl ⟨rfl, rfl⟩⟩))
  · cases h

theorem run_eqNil2 (d : Nat) {t : TypeId} {z v : Value} {b : Bool} (ht : nilKind P t z = true) (h : NilVal z v b) (w : World) : (Op.equalIn (d + 1) t v z).run P w = .ok b w := by
  unfold nilKind at ht
  cases hu : P.underlying t with
  | none => rw [hu] at ht; cases z <;> simp at ht
  | some de =>
    rw [hu] at ht
    rcases h with ⟨rfl, a, n, c, rfl, rfl⟩ | ⟨rfl, ⟨rfl, rfl⟩ | ⟨f, p, q, rfl, rfl⟩⟩ | ⟨rfl, m, rfl, rfl⟩ | ⟨rfl, ⟨rfl, rfl⟩ | ⟨t', u, rfl, rfl⟩⟩ <;> cases de <;> first | cases ht | skip
    · cases a <;> simp [Op.equalIn, run_underlying hu]
    · simp [Op.equalIn, run_underlying hu]
    · simp [Op.equalIn, run_underlying hu]
    · cases m <;> simp [Op.equalIn, run_underlying hu]
    · simp [Op.equalIn, run_underlying hu]
    · simp [Op.equalIn, run_underlying hu]

theorem does_nilEq2 {o : Oper} {op : BinOp} {t t' : TypeId} {x : Operand} {z : Value} {b : Bool} (hop : op = .eql ∨ op = .neq) (ho : o.op = .binOp op t x (.const z) t') (ht : nilKind P t z = true)
    (h : nilEq2 rows z ((Opd.of x).ev s) = some b) : Does P G o s rows (.c (.bool (if op matches .eql then b else !b))) rows := by
  refine Does.quiet fun w R L a hs hr hg => ?_
  have hnv := nilEq2_val hr (hs.ev x) h
  have heq : (Op.equal t (a.eval x) z).run P w = .ok b w := run_eqNil2 9999 ht hnv w
  have hne : a.eval (.const z) = z := rfl
  have hgd : ∀ op, (eqGuard op t x (.const z) (a.eval x) z).run P w = .ok () w := by
    intro op
    rcases hnv with ⟨rfl, _, _, _, hv, _⟩ | ⟨rfl, ⟨hv, _⟩ | ⟨_, _, _, hv, _⟩⟩ | ⟨rfl, _, hv, _⟩ | ⟨rfl, ⟨hv, _⟩ | ⟨_, _, hv, _⟩⟩ <;> rw [hv] <;> cases op <;> simp [eqGuard]
  have hb1 : (binOp .eql t (a.eval x) z).run P w = .ok (.bool b) w := by
    rcases hnv with ⟨rfl, _, _, _, hv, _⟩ | ⟨rfl, ⟨hv, _⟩ | ⟨_, _, _, hv, _⟩⟩ | ⟨rfl, _, hv, _⟩ | ⟨rfl, ⟨hv, _⟩ | ⟨_, _, hv, _⟩⟩ <;> rw [hv] at heq ⊢ <;> simp [binOp, heq]
  have hb2 : (binOp .neq t (a.eval x) z).run P w = .ok (.bool !b) w := by
    rcases hnv with ⟨rfl, _, _, _, hv, _⟩ | ⟨rfl, ⟨hv, _⟩ | ⟨_, _, _, hv, _⟩⟩ | ⟨rfl, _, hv, _⟩ | ⟨rfl, ⟨hv, _⟩ | ⟨_, _, hv, _⟩⟩ <;> rw [hv] at heq ⊢ <;> simp [binOp, heq]
  rcases hop with rfl | rfl
  · exact ⟨_, by simp [execOp, ho, hne, hgd, hb1], .fr _ _ (.c _)⟩
  · exact ⟨_, by simp [execOp, ho, hne, hgd, hb2], .fr _ _ (.c _)⟩

end
end
end Go.Proofs.Ytfcfdedbbhdioaa.AI
