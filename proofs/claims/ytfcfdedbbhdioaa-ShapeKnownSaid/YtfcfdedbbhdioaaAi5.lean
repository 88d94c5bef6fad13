/- AI 5: new variables, stores, addresses, slices made. -/
import Derived.Test.YtfcfdedbbhdioaaAi4
namespace Go.Proofs.Ytfcfdedbbhdioaa.AI
noncomputable section
open Go
set_option linter.unusedVariables false
set_option linter.unusedSimpArgs false

section
variable {P : Program} {G : List (Nat × Obj)} {s : List AV} {rows : List Row}

/-- The cells of a value that has cells. -/
theorem segs_cells {w : World} {R : Nat → Prop} {L : Nat → Place} {x : AV} {b : List Seg} {v : Value} (h : x.segs = some b) (hv : VR w R L x v) :
    v.cells.size = segsSize b ∧ ∀ (j : Nat) (y : AV) (u : Value), segsCell b j = some y → v.cells[j]? = some u → VR w R L y u ∧ y.one = true := by
  obtain ⟨h1, h2⟩ := AV.segs_spec h
  refine ⟨hv.size h1, fun j y u hy hu => ⟨hv.cell ((h2 j).trans hy) hu, ?_⟩⟩
  cases x with
  | agg b' =>
    simp only [AV.segs, Option.some.injEq] at h
    subst h
    cases hv with
    | fr _ _ h => cases h with | agg _ _ _ h1 _ => exact h1 j y hy
    | agg _ _ _ h1 _ => exact h1 j y hy
  | c v' =>
    have hc := (h2 j).trans hy
    cases v'
    case agg cs =>
      simp only [AV.segs] at h
      split at h
      · rename_i hall
        simp only [AV.cell] at hc
        cases hq : cs.toList[j]? with
        | none => simp [hq] at hc
        | some u' =>
          simp only [hq, Option.map_some, Option.some.injEq] at hc
          subst hc
          have hj : cs[j]? = some u' := by rw [← Array.getElem?_toList]; exact hq
          obtain ⟨hl, he⟩ := Array.getElem?_eq_some_iff.1 hj
          rw [Array.all_eq_true] at hall
          have := hall j hl
          rw [he] at this
          exact this
      · cases h
    case tuple vs => simp [AV.segs, Value.oneCell'] at h
    all_goals
      cases j with
      | zero => simp only [AV.cell, Option.some.injEq] at hc; subst hc; rfl
      | succ j => simp [AV.cell] at hc
  | junk => simp [AV.segs] at h
  | tup l => simp [AV.segs] at h
  | fz x => simp [AV.segs] at h
  | _ =>
    have hc := (h2 j).trans hy
    cases j with
    | zero => simp only [AV.cell, Option.some.injEq] at hc; subst hc; rfl
    | succ j => simp [AV.cell] at hc

theorem run_newVar (t : TypeId) (v : Value) (w : World) : (newVar t v).run P w = .ok ⟨w.heap.size, 0, none⟩ (w.alloc (.cells v.cells t)) := by
  simp [newVar, newRow, newObj, Sem.run]

/-- A new row of given cells. -/
theorem new_row {w : World} {R : Nat → Prop} {L : Nat → Place} (hr : RowsOK w R L rows) (t : TypeId) (b : List Seg) (cs : Array Value) (hz : segsSize b ≤ cs.size)
    (hc : ∀ (j : Nat) (y : AV) (u : Value), segsCell b j = some y → cs[j]? = some u → VR w R L y u ∧ y.one = true) :
    Step w R L (w.alloc (.cells cs t)) R (fun k => if k = rows.length then .at_ w.heap.size else L k) ∧
    RowsOK (w.alloc (.cells cs t)) R (fun k => if k = rows.length then .at_ w.heap.size else L k) (rows ++ [.blob t b]) := by
  obtain ⟨h1, h2⟩ := step_new hr (w1 := w.alloc (.cells cs t)) (o := .cells cs t) rfl rfl rfl rfl
  refine ⟨h1, h2 _ ⟨fun q => ?_, cs, heap_alloc_new w _, hz, fun j y u hy hu => ⟨h1.vr hr (hc j y u hy hu).1, (hc j y u hy hu).2⟩⟩⟩
  have := hr.ro _ q
  omega

theorem does_box {o : Oper} {t : TypeId} {x : Operand} {b : List Seg} (ho : o.op = .box t x) (h : ((Opd.of x).ev s).segs = some b) :
    Does P G o s rows (.ptr rows.length 0 0) (rows ++ [.blob t b]) := by
  intro w R L a hs hr hg
  obtain ⟨h1, h2⟩ := segs_cells h (hs.ev x)
  obtain ⟨h3, h4⟩ := new_row hr t b (a.eval x).cells (by omega) h2
  refine ⟨_, _, _, _, .inl ?_, .ptr rows.length 0 0 w.heap.size (by simp), h4, h3⟩
  simp [execOp, ho, Instr.box, run_newVar]

/-- A value without rows. -/
def AV.pur : Nat → AV → Bool
  | 0, _ => false
  | n + 1, x =>
    match x with
    | .c _ | .fptr .. | .fsl .. | .fz _ => true
    | .agg b => b.all fun s => match s with | .avs l => l.all (AV.pur n) | .recs .. => true | _ => true
    | .tup l => l.all (AV.pur n)
    | .fn _ caps => caps.all (AV.pur n)
    | .ifc _ x => AV.pur n x
    | _ => false

theorem pur_cell {n : Nat} {b : List Seg} (h : (b.all fun s => match s with | .avs l => l.all (AV.pur n) | .recs .. => true | _ => true) = true) :
    ∀ j y, segsCell b j = some y → (∃ v, y = .c v) ∨ (∃ x, y = .fz x) ∨ AV.pur n y = true := by
  induction b with
  | nil => intro j y hy; simp [segsCell] at hy
  | cons s b ih =>
    intro j y hy
    simp only [List.all_cons, Bool.and_eq_true] at h
    simp only [segsCell] at hy
    split at hy
    · cases s with
      | ints k n l => simp only [Seg.cell] at hy; split at hy <;> simp at hy; exact .inl ⟨_, hy.symm⟩
      | bools n l => simp only [Seg.cell] at hy; split at hy <;> simp at hy; exact .inl ⟨_, hy.symm⟩
      | avs l =>
        simp only [Seg.cell] at hy
        exact .inr (.inr (List.all_eq_true.1 h.1 y (List.mem_of_getElem? hy)))
      | recs sz n f => simp only [Seg.cell] at hy; split at hy <;> simp at hy; exact .inr (.inl ⟨_, hy.symm⟩)
    · exact ih h.2 _ _ hy

theorem pur_fr {w : World} {R : Nat → Prop} {L : Nat → Place} : ∀ (n : Nat) {x : AV} {v : Value}, VR w R L x v → x.pur n = true → FR w R x v
  | 0, x, v, _, h => by simp [AV.pur] at h
  | n + 1, x, v, hv, h => by
    have cell : ∀ y u, VR w R L y u → ((∃ v, y = .c v) ∨ (∃ x, y = .fz x) ∨ AV.pur n y = true) → FR w R y u := by
      intro y u hy hc
      rcases hc with ⟨v', rfl⟩ | ⟨x', rfl⟩ | hp
      · cases hy with | fr _ _ h => exact h
      · cases hy with | fr _ _ h => exact h
      · exact pur_fr n hy hp
    cases hv with
    | fr _ _ h => exact h
    | agg b cs hsz h1 hv => simp only [AV.pur] at h; exact .agg b cs hsz h1 fun j y u hy hu => cell y u (hv j y u hy hu) (pur_cell h j y hy)
    | tup l vs hsz hv => simp only [AV.pur] at h; exact .tup l vs hsz fun j y u hy hu => cell y u (hv j y u hy hu) (.inr (.inr (List.all_eq_true.1 h y (List.mem_of_getElem? hy))))
    | fn f caps vs hsz hv => simp only [AV.pur] at h; exact .fn f caps vs hsz fun j y u hy hu => cell y u (hv j y u hy hu) (.inr (.inr (List.all_eq_true.1 h y (List.mem_of_getElem? hy))))
    | ifc t x v hx => simp only [AV.pur] at h; exact .ifc t x v (pur_fr n hx h)
    | _ => simp [AV.pur] at h

/-- A new block that nobody will write. -/
theorem new_quiet {w : World} {R : Nat → Prop} {L : Nat → Place} (hr : RowsOK w R L rows) (o : Obj) :
    Step w R L (w.alloc o) (fun b => R b ∨ b = w.heap.size) L ∧ RowsOK (w.alloc o) (fun b => R b ∨ b = w.heap.size) L rows := by
  have hs : Step w R L (w.alloc o) (fun b => R b ∨ b = w.heap.size) L := by
    refine ⟨⟨rfl, rfl, rfl, by simp, fun b hb _ => heap_alloc_old w o b hb, fun b hb => .inl hb, fun b hb => hb.imp id fun e => .inl (by omega), fun k b hk => .inr ⟨k, hk⟩⟩,
      fun k _ => .inr ⟨rfl, fun b cs t fr hL hb => ⟨cs, t, fr, ?_, rfl⟩⟩⟩
    rw [heap_alloc_old w o b (Array.getElem?_eq_some_iff.1 hb).1]; exact hb
  refine ⟨hs, ⟨fun k r hk => Row.holds_mono (hr.row k r hk) (fun _ _ => hs.vr hr) fun b hb => ⟨heap_alloc_old w o b (hr.block_lt hb), fun q => q.elim (hr.notR hb) fun e => ?_⟩, hr.none, fun b hb => ?_, hr.inj⟩⟩
  · have := hr.block_lt hb; omega
  · rcases hb with hb | hb
    · have := hr.ro b hb; simp; omega
    · simp; omega

theorem does_fbox {o : Oper} {t : TypeId} {x : Operand} {b : List Seg} (ho : o.op = .box t x) (h : ((Opd.of x).ev s).segs = some b) (hp : ((Opd.of x).ev s).pur 4 = true) :
    Does P G o s rows (.fptr ((Opd.of x).ev s) 0 0) rows := by
  intro w R L a hs hr hg
  have hx := hs.ev x
  obtain ⟨h1, h2⟩ := segs_cells h hx
  obtain ⟨h3, h4⟩ := new_quiet hr (.cells (a.eval x).cells t)
  obtain ⟨hsz, hcell⟩ := AV.segs_spec h
  refine ⟨_, _, _, _, .inl ?_, .fr _ _ (.fptr _ 0 0 w.heap.size 0 (a.eval x).cells t (0, 0) (heap_alloc_new w _) (.inr rfl) (fun j => ((a.eval x).cells[j]?).getD undef) (fun j y hy => ?_) (fun j y hy => ?_) fun j y hy => ?_), h4, h3⟩
  · simp [execOp, ho, Instr.box, run_newVar]
  all_goals
    have hy' : segsCell b j = some y := (hcell j).symm.trans hy
    have hj : j < (a.eval x).cells.size := by have := segsCell_lt hy'; omega
    have hu : (a.eval x).cells[j]? = some (a.eval x).cells[j] := by simp [hj]
  · simp [hj]
  · exact (h2 j y _ hy' hu).2
  · rw [hu]
    have hfr := pur_fr 4 hx hp
    have hone := (h2 j y _ hy' hu).1
    -- the cell of a pure value is pure
    have : FR w R y (a.eval x).cells[j] := by
      generalize (Opd.of x).ev s = p at *
      generalize a.eval x = q at *
      cases hfr with
      | agg b' cs hsz' h1' hv => simp only [AV.cell] at hy; exact hv j y _ hy hu
      | c =>
        cases q
        case agg cs =>
          simp only [AV.cell] at hy
          cases hq : cs.toList[j]? with
          | none => simp [hq] at hy
          | some u' =>
            simp only [hq, Option.map_some, Option.some.injEq] at hy
            subst hy
            have : cs[j]? = some u' := by rw [← Array.getElem?_toList]; exact hq
            simp only [Value.cells] at hu ⊢
            rw [this] at hu
            injection hu with hu
            rw [← hu]; exact .c u'
        all_goals
          cases j with
          | zero => simp only [AV.cell, Option.some.injEq] at hy; subst hy; exact .c _
          | succ j => simp [AV.cell] at hy
      | fz x' v' hv h1' => simp [AV.segs] at h
      | tup => simp [AV.cell] at hy
      | fptr _ _ _ _ _ _ _ _ hb' hr' g' hc' h1' hv' =>
        cases j with
        | zero => simp only [AV.cell, Option.some.injEq] at hy; subst hy; exact .fptr _ _ _ _ _ _ _ _ hb' hr' g' hc' h1' hv'
        | succ j => simp [AV.cell] at hy
      | fsl _ _ _ _ _ _ _ _ _ hb' hr' g' hs' hn' hc' h1' hv' =>
        cases j with
        | zero => simp only [AV.cell, Option.some.injEq] at hy; subst hy; exact .fsl _ _ _ _ _ _ _ _ _ hb' hr' g' hs' hn' hc' h1' hv'
        | succ j => simp [AV.cell] at hy
      | fslNil sz b' a' cap' hs' =>
        cases j with
        | zero => simp only [AV.cell, Option.some.injEq] at hy; subst hy; exact .fslNil sz b' a' cap' hs'
        | succ j => simp [AV.cell] at hy
      | fn f caps vs hsz' hv' =>
        cases j with
        | zero => simp only [AV.cell, Option.some.injEq] at hy; subst hy; exact .fn f caps vs hsz' hv'
        | succ j => simp [AV.cell] at hy
      | ifc t x v hv' =>
        cases j with
        | zero => simp only [AV.cell, Option.some.injEq] at hy; subst hy; exact .ifc t x v hv'
        | succ j => simp [AV.cell] at hy
    exact this.mono (fun b hb => .inl hb) fun b hb => heap_alloc_old w _ b (hr.ro b hb)

theorem run_zeroValue' {t : TypeId} {v : Value} (h : (P.info? t).bind (·.zero) = some v) (w : World) : (zeroValue t).run P w = .ok v w := by
  cases hu : P.info? t with
  | none => simp [hu] at h
  | some i => simp [hu] at h; simp [zeroValue, typeInfo, hu, h]

theorem c_segs {w : World} {R : Nat → Prop} {L : Nat → Place} {v : Value} {b : List Seg} (h : (AV.c v).segs = some b) :
    v.cells.size = segsSize b ∧ ∀ (j : Nat) (y : AV) (u : Value), segsCell b j = some y → v.cells[j]? = some u → VR w R L y u ∧ y.one = true := segs_cells h (.fr _ _ (.c v))

theorem does_alloc {o : Oper} {t : TypeId} {v : Value} {b : List Seg} (ho : o.op = .alloc t) (hz : (P.info? t).bind (·.zero) = some v) (h : (AV.c v).segs = some b) :
    Does P G o s rows (.ptr rows.length 0 0) (rows ++ [.blob t b]) := by
  intro w R L a hs hr hg
  obtain ⟨h1, h2⟩ := c_segs (w := w) (R := R) (L := L) h
  obtain ⟨h3, h4⟩ := new_row hr t b v.cells (by omega) h2
  refine ⟨_, _, _, _, .inl ?_, .ptr rows.length 0 0 w.heap.size (by simp), h4, h3⟩
  simp [execOp, ho, Instr.alloc, run_zeroValue' hz, run_newVar]

end
end
end Go.Proofs.Ytfcfdedbbhdioaa.AI
