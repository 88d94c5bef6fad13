/- AI 4: operands; what loads, stores, new variables do. -/
import Derived.Test.YtfcfdedbbhdioaaAi3
import Derived.Laws.AppendOwn
namespace Go.Proofs.Ytfcfdedbbhdioaa.AI
noncomputable section
open Go
set_option linter.unusedVariables false
set_option linter.unusedSimpArgs false

inductive Opd where
  | tm (i : Nat)
  | cst (v : Value)
  deriving Inhabited

def Opd.of : Operand → Opd
  | .tmp i => .tm i
  | .const v => .cst v
  | .global g => .cst (.pointer (some ⟨g, 0, none⟩))
  | .func f => .cst (.func (.func f) #[] #[])

/-- The n-th one, by the recursors alone: the kernel is quick at it. -/
noncomputable def lget (l : List AV) (n : Nat) : AV :=
  Nat.rec (motive := fun _ => List AV → AV) (fun l => List.rec (motive := fun _ => AV) .junk (fun x _ _ => x) l) (fun _ ih l => ih (List.rec (motive := fun _ => List AV) [] (fun _ t _ => t) l)) n l

def lgetC (l : List AV) (n : Nat) : AV := l.getD n .junk

theorem lget_eq : @lget = @lgetC := by
  funext l n
  induction n generalizing l with
  | zero => cases l <;> rfl
  | succ n ih =>
    cases l with
    | nil => exact (ih []).trans (by simp [lgetC])
    | cons x l => exact (ih l).trans (by simp [lgetC])

theorem lget_getD (l : List AV) (n : Nat) : lget l n = l.getD n .junk := by rw [lget_eq]; rfl

noncomputable def lset (l : List AV) (n : Nat) (x : AV) : List AV :=
  Nat.rec (motive := fun _ => List AV → List AV) (fun l => List.rec (motive := fun _ => List AV) [] (fun _ t _ => x :: t) l) (fun _ ih l => List.rec (motive := fun _ => List AV) [] (fun y t _ => y :: ih t) l) n l

def lsetC (l : List AV) (n : Nat) (x : AV) : List AV := l.set n x

theorem lset_eq : @lset = @lsetC := by
  funext l n x
  induction n generalizing l with
  | zero => cases l <;> rfl
  | succ n ih =>
    cases l with
    | nil => rfl
    | cons y l => exact congrArg (y :: ·) (ih l)

theorem lset_set (l : List AV) (n : Nat) (x : AV) : lset l n x = l.set n x := by rw [lset_eq]; rfl

def Opd.ev (s : List AV) : Opd → AV
  | .tm i => lget s i
  | .cst v => .c v

def SlotsOK (w : World) (R : Nat → Prop) (L : Nat → Place) (s : List AV) (tmps : Array Value) : Prop :=
  tmps.size = s.length ∧ ∀ (i : Nat) (x : AV) (v : Value), s[i]? = some x → tmps[i]? = some v → VR w R L x v

theorem SlotsOK.ev {w : World} {R : Nat → Prop} {L : Nat → Place} {s : List AV} {a : Act} (h : SlotsOK w R L s a.tmps) (x : Operand) : VR w R L ((Opd.of x).ev s) (a.eval x) := by
  cases x with
  | tmp t =>
    simp only [Opd.of, Opd.ev, Act.eval, lget_getD]
    by_cases ht : t < s.length
    · have h2 : t < a.tmps.size := by rw [h.1]; exact ht
      have := h.2 t s[t] a.tmps[t] (by simp [ht]) (by simp [h2])
      simpa [List.getD, Array.getD, ht, h2] using this
    · have : s.getD t .junk = .junk := by simp [List.getD, Nat.le_of_not_lt ht]
      rw [this]
      exact .junk _
  | const v => exact .fr _ _ (.c v)
  | global g => exact .fr _ _ (.c _)
  | func f => exact .fr _ _ (.c _)

theorem SlotsOK.put {w : World} {R : Nat → Prop} {L : Nat → Place} {s : List AV} {a : Act} (h : SlotsOK w R L s a.tmps) (d : Nat) {x : AV} {v : Value} (hx : VR w R L x v) :
    SlotsOK w R L (s.set d x) (a.put (some d) v).tmps := by
  refine ⟨by simp [Act.put, h.1], fun i y u hy hu => ?_⟩
  simp only [Act.put] at hu
  by_cases e : d = i
  · subst e
    by_cases hd : d < s.length
    · have h2 : d < a.tmps.size := by rw [h.1]; exact hd
      simp [hd] at hy
      simp [h2] at hu
      exact hy ▸ hu ▸ hx
    · rw [List.getElem?_eq_none (by simp; omega)] at hy; cases hy
  · rw [List.getElem?_set_ne e] at hy
    rw [Array.getElem?_setIfInBounds_ne e] at hu
    exact h.2 i y u hy hu

theorem SlotsOK.mono {w w' : World} {R R' : Nat → Prop} {L L' : Nat → Place} {s : List AV} {tmps : Array Value} (h : SlotsOK w R L s tmps) (hv : ∀ x v, VR w R L x v → VR w' R' L' x v) :
    SlotsOK w' R' L' s tmps := ⟨h.1, fun i x v hx hv' => hv _ _ (h.2 i x v hx hv')⟩

/-- Package-level variables that are known. -/
def GlobOK (G : List (Nat × Obj)) (w : World) (R : Nat → Prop) : Prop := ∀ p ∈ G, R p.1 ∧ w.heap[p.1]? = some p.2

theorem GlobOK.step {G : List (Nat × Obj)} {w w' : World} {R R' : Nat → Prop} {L L' : Nat → Place} {rows : List Row} (h : GlobOK G w R) (hr : RowsOK w R L rows) (hs : Step w R L w' R' L') : GlobOK G w' R' :=
  fun p hp => ⟨hs.frm.ro _ (h p hp).1, (hs.frm.block _ (hr.ro _ (h p hp).1) (hr.quiet (h p hp).1)).trans (h p hp).2⟩

/-- What an operation does, abstractly: from slots and rows to a value and rows. -/
def Does (P : Program) (G : List (Nat × Obj)) (o : Oper) (s : List AV) (rows : List Row) (x : AV) (rows' : List Row) : Prop :=
  ∀ (w : World) (R : Nat → Prop) (L : Nat → Place) (a : Act), SlotsOK w R L s a.tmps → RowsOK w R L rows → GlobOK G w R →
    ∃ v w' R' L', ((execOp a.eval o).run P w = .ok (.value v) w' ∨ ((execOp a.eval o).run P w = .ok .skip w' ∧ v = undef)) ∧ VR w' R' L' x v ∧ RowsOK w' R' L' rows' ∧ Step w R L w' R' L'

/-- One that leaves memory alone. -/
theorem Does.quiet {P : Program} {G : List (Nat × Obj)} {o : Oper} {s : List AV} {rows : List Row} {x : AV}
    (h : ∀ (w : World) (R : Nat → Prop) (L : Nat → Place) (a : Act), SlotsOK w R L s a.tmps → RowsOK w R L rows → GlobOK G w R → ∃ v, (execOp a.eval o).run P w = .ok (.value v) w ∧ VR w R L x v) : Does P G o s rows x rows :=
  fun w R L a hs hr hg => let ⟨v, h1, h2⟩ := h w R L a hs hr hg; ⟨v, w, R, L, .inl h1, h2, hr, Step.refl w R L⟩

def tyAgg (P : Program) (t : TypeId) : Option Bool := (P.underlying t).map fun d => match d with | .struct _ | .array _ _ => true | _ => false
def tySize (P : Program) (t : TypeId) : Option Nat := (P.info? t).map (·.size)

section
variable {P : Program} {G : List (Nat × Obj)} {s : List AV} {rows : List Row}

theorem run_isAgg {t : TypeId} {b : Bool} (h : tyAgg P t = some b) (w : World) : (isAgg t).run P w = .ok b w := by
  unfold tyAgg at h
  cases hu : P.underlying t with
  | none => simp [hu] at h
  | some d =>
    simp only [hu, Option.map_some, Option.some.injEq] at h
    unfold isAgg
    rw [Sem.run_bind, run_underlying hu w]
    subst h
    cases d <;> rfl

theorem run_sizeOf' {t : TypeId} {n : Nat} (h : tySize P t = some n) (w : World) : (sizeOf t).run P w = .ok n w := by
  unfold tySize at h
  cases hu : P.info? t with
  | none => simp [hu] at h
  | some i => simp [hu] at h; simp [sizeOf, typeInfo, hu, h]

theorem addr_add (b o n : Nat) : (⟨b, o, none⟩ : Addr).add n = ⟨b, o + n, none⟩ := by unfold Addr.add; split <;> simp_all

theorem run_loadAgg {t : TypeId} {n : Nat} (ha : tyAgg P t = some true) (hn : tySize P t = some n) (w : World) {b o : Nat} {cs : Array Value} {e : TypeId} {fr : Nat × Nat}
    (hb : w.heap[b]? = some (.cells cs e fr)) (hl : o + n ≤ cs.size) : (loadVar t ⟨b, o, none⟩).run P w = .ok (.agg (cs.extract o (o + n))) w := by
  have h1 : (loadCells ⟨b, o, none⟩ (cs.extract o (o + n)).toList.length).run P w = .ok (cs.extract o (o + n)).toList.toArray w :=
    run_loadCells_list (P := P) w ⟨b, o, none⟩ (cs.extract o (o + n)).toList fun j v hv => by
      rw [addr_add, cell_of_row w b (o + j) cs e fr hb]
      have hv' : (cs.extract o (o + n))[j]? = some v := by rw [← Array.getElem?_toList]; exact hv
      rw [Array.getElem?_extract] at hv'
      split at hv'
      · exact hv'
      · cases hv'
  have h2 : (cs.extract o (o + n)).toList.length = n := by simp; omega
  rw [h2] at h1
  simp only [loadVar, Sem.run_bind, run_isAgg ha, run_sizeOf' hn, Result.andThen_ok, if_true, h1, Array.toArray_toList, Sem.run_pure]

theorem run_loadOne {t : TypeId} (ha : tyAgg P t = some false) (w : World) {b o : Nat} {cs : Array Value} {e : TypeId} {fr : Nat × Nat} {v : Value}
    (hb : w.heap[b]? = some (.cells cs e fr)) (hl : cs[o]? = some v) : (loadVar t ⟨b, o, none⟩).run P w = .ok v w := by
  have hc : w.cell? ⟨b, o, none⟩ = some v := (cell_of_row w b o cs e fr hb).trans hl
  simp [loadVar, Sem.run_bind, run_isAgg ha, load, Sem.run, hc]

/-- The value that is read at a place of some cells. -/
def pickAt (agg : Bool) (n : Nat) (b : List Seg) (o i : Nat) : AV × Bool :=
  if agg then (.agg (subAt b o i n).1, (subAt b o i n).2 && decide (0 < n)) else ((cellAt b o i).1.unfz, (cellAt b o i).2)

theorem may_vr {w : World} {R : Nat → Prop} {L : Nat → Place} {x y : AV} {v : Value} (h : x.may y) (hx : VR w R L x v) : VR w R L y v := by
  rcases h with rfl | rfl
  · exact hx
  · exact hx.unfz

theorem may_one {x y : AV} (h : x.may y) (hx : x.one = true) : y.one = true := by
  rcases h with rfl | rfl
  · exact hx
  · exact hx

theorem pickAt_load {w : World} {R : Nat → Prop} {L : Nat → Place} {agg : Bool} {n : Nat} {b : List Seg} {o i : Nat} {t : TypeId} (ha : tyAgg P t = some agg) (hn : tySize P t = some n) (h : (pickAt agg n b o i).2 = true)
    {g o' : Nat} {cs : Array Value} {e : TypeId} {fr : Nat × Nat} (hb : w.heap[g]? = some (.cells cs e fr)) (hz : o' + segsSize b ≤ cs.size)
    (hv : ∀ (j : Nat) (y : AV) (v : Value), segsCell b j = some y → cs[o' + j]? = some v → VR w R L y v ∧ y.one = true) :
    ∃ v, (loadVar t ⟨g, o' + (o + i), none⟩).run P w = .ok v w ∧ VR w R L (pickAt agg n b o i).1 v := by
  unfold pickAt at h ⊢
  cases agg with
  | true =>
    simp only [if_true, Bool.and_eq_true, decide_eq_true_eq] at h ⊢
    obtain ⟨h1, h2, h3⟩ := subAt_spec h.1
    refine ⟨_, run_loadAgg ha hn w hb (by omega), .agg _ _ (by simp [h1]; omega) (fun j y hy => ?_) fun j y v hy hv' => ?_⟩
    · obtain ⟨x, hx, hm⟩ := h3 j y hy
      have hj := segsCell_lt hx
      have hl : o' + (o + i + j) < cs.size := by omega
      exact may_one hm (hv _ x cs[o' + (o + i + j)] hx (by simp [hl])).2
    · obtain ⟨x, hx, hm⟩ := h3 j y hy
      rw [Array.getElem?_extract] at hv'
      split at hv'
      · refine may_vr hm (hv _ x v hx ?_).1
        rw [← hv']; congr 1; omega
      · cases hv'
  | false =>
    simp only [Bool.false_eq_true, if_false] at h ⊢
    have h1 := cellAt_spec h
    have hj := segsCell_lt h1
    have hl : o' + (o + i) < cs.size := by omega
    have h2 : cs[o' + (o + i)]? = some cs[o' + (o + i)] := by simp [hl]
    exact ⟨_, run_loadOne ha w hb h2, (hv _ _ _ h1 h2).1.unfz⟩

/-- What is read at a pointer. -/
def loadAV (agg : Bool) (n : Nat) (rows : List Row) : AV → Option (AV × Bool)
  | .ptr k off ix =>
    match rows[k]? with
    | some (.blob _ b) => some (pickAt agg n b off ix)
    | _ => none
  | .fptr x off ix =>
    match x.segs with
    | some b => some (pickAt agg n b off ix)
    | none => none
  | _ => none

theorem AV.segs_size {x : AV} {b : List Seg} (h : x.segs = some b) : x.size = some (segsSize b) := (AV.segs_spec h).1

theorem load_run {w : World} {R : Nat → Prop} {L : Nat → Place} {t : TypeId} {agg : Bool} {n : Nat} {p y : AV} {vx : Value} (ha : tyAgg P t = some agg) (hn : tySize P t = some n) (hr : RowsOK w R L rows) (hx : VR w R L p vx)
    (h : loadAV agg n rows p = some (y, true)) : ∃ ad u, vx = .pointer (some ad) ∧ (loadVar t ad).run P w = .ok u w ∧ VR w R L y u := by
  unfold loadAV at h
  split at h
  · rename_i k off ix
    split at h
    · rename_i e b hk
      injection h with h
      cases hx with
      | fr _ _ h' => cases h'
      | ptrGone _ _ _ q hL =>
        have := hr.row k _ hk
        rw [hL] at this
        exact this.elim
      | ptr _ _ _ g hL =>
        have hrow := hr.row k _ hk
        rw [hL] at hrow
        obtain ⟨_, cs, hb, hz, hc⟩ := hrow
        have h2 : (pickAt agg n b off ix).2 = true := by rw [h]
        obtain ⟨u, h3, h4⟩ := pickAt_load (L := L) (o' := 0) ha hn h2 hb (by omega) (fun j y v hy hv => hc j y v hy (by simpa using hv))
        refine ⟨_, u, rfl, by simpa using h3, ?_⟩
        rw [h] at h4
        exact h4
    · cases h
  · rename_i z off ix
    split at h
    · rename_i b hz
      injection h with h
      cases hx with
      | fr _ _ h' =>
        cases h' with
        | fptr _ _ _ g o' cs e fr hb hR f hc h1 hv =>
          have h2 : (pickAt agg n b off ix).2 = true := by rw [h]
          obtain ⟨hsz, hcell⟩ := AV.segs_spec hz
          have hle : o' + segsSize b ≤ cs.size := by
            rcases Nat.eq_zero_or_pos (segsSize b) with q | q
            · -- nothing is read
              exfalso
              unfold pickAt at h2
              cases agg with
              | true =>
                simp only [if_true, Bool.and_eq_true, decide_eq_true_eq] at h2
                obtain ⟨e1, e2, _⟩ := subAt_spec h2.1
                omega
              | false =>
                simp only [Bool.false_eq_true, if_false] at h2
                have := segsCell_lt (cellAt_spec h2)
                omega
            · obtain ⟨y', hy'⟩ := segsCell_ex (b := b) (j := segsSize b - 1) (by omega)
              have := (Array.getElem?_eq_some_iff.1 (hc _ _ ((hcell _).trans hy'))).1
              omega
          obtain ⟨u, h3, h4⟩ := pickAt_load (L := L) (o' := o') ha hn h2 hb hle (fun j y v hy hv' => by
            have hy' : z.cell j = some y := (hcell j).trans hy
            have e2 := hc j y hy'
            rw [hv'] at e2
            injection e2 with e2
            subst e2
            exact ⟨.fr _ _ (hv j y hy'), h1 j y hy'⟩)
          refine ⟨_, u, rfl, h3, ?_⟩
          rw [h] at h4
          exact h4
    · cases h
  · cases h

theorem does_load {o : Oper} {t : TypeId} {x : Operand} {agg : Bool} {n : Nat} {y : AV} (ho : o.op = .load t x) (ha : tyAgg P t = some agg) (hn : tySize P t = some n)
    (h : loadAV agg n rows ((Opd.of x).ev s) = some (y, true)) : Does P G o s rows y rows := by
  refine Does.quiet fun w R L a hs hr hg => ?_
  obtain ⟨ad, u, h1, h2, h3⟩ := load_run ha hn hr (hs.ev x) h
  exact ⟨u, by simp [execOp, ho, h1, Instr.loadAt, Instr.sureAddr, h2], h3⟩

end
end
end Go.Proofs.Ytfcfdedbbhdioaa.AI
