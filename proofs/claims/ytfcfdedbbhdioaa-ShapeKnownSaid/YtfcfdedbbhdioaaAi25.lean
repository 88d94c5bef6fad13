/- AI 25: results that are known beforehand; from a law's call to what its row asks. -/
import Derived.Test.YtfcfdedbbhdioaaAi24
import Derived.ReadAgain
import Derived.ChangeSame
import Derived.ChangeReads
import Derived.ChangeOld
namespace Go.Proofs.Ytfcfdedbbhdioaa.AI
noncomputable section
open Go
set_option linter.unusedVariables false
set_option linter.unusedSimpArgs false

section
variable {P : Program} {G : List (Nat × Obj)}

/-- A call that is of quiet memory alone, beside whatever rows. -/
theorem call_beside {f : FuncId} {args : List AV} {r : AV} (h : CallOK P G f args [] (.ret r [])) (ha : args.all (AV.pur 6) = true) (hp : r.pur 6 = true) (rows : List Row) : CallOK P G f args rows (.ret r rows) := by
  intro w R L vs hvs hr hg
  have hl : args.mapM (lend false rows) = some args := by
    have : ∀ l : List AV, l.all (AV.pur 6) = true → l.mapM (lend false rows) = some l := by
      intro l
      induction l with
      | nil => intro _; rfl
      | cons x l ih =>
        intro h
        simp only [List.all_cons, Bool.and_eq_true] at h
        have h1 : lend false rows x = some x := by unfold lend; rw [if_neg (by simp), if_pos h.1]
        rw [List.mapM_cons, h1, ih h.2]
        rfl
    exact this args ha
  have hvs' := VRs.lend hr hvs hl
  refine (h w _ unbornL vs hvs' (unborn_rows hr false) (hg.lent false)).mono fun en w1 hpost => ?_
  obtain ⟨R1, L1, hst1, hgl1, v, rfl, hv, hr1⟩ := hpost
  obtain ⟨R2, hstep, hrows, hv2, hR2⟩ := lent_back (lent := false) hr hst1 hr1 hv hp
  exact ⟨R2, L, hstep, hg.step hr hstep, v, rfl, hv2, hrows⟩

theorem VRs.consts {w : World} {R : Nat → Prop} {L : Nat → Place} {l : List Value} {vs : Array Value} (h : VRs w R L (l.map AV.c) vs) : vs = l.toArray := by
  obtain ⟨h1, h2⟩ := h
  apply Array.ext'
  apply List.ext_getElem?
  intro j
  by_cases hj : j < l.length
  · have hv : j < vs.size := by simpa using h1 ▸ (by simpa using hj)
    have := h2 j (.c l[j]) vs[j] (by simp [hj]) (by simp [hv])
    have e : ∀ x y : Value, VR w R L (.c x) y → y = x := by
      intro x y hxy
      cases hxy with | fr _ _ hf => cases hf; rfl
    have := e _ _ this
    simp [hj, hv, this]
  · rw [List.getElem?_eq_none (by simp only [List.length_map] at h1; simp; omega), List.getElem?_eq_none (by simpa using hj)]

/-- One that leaves memory as it is. -/
theorem call_still {f : FuncId} {l : List Value} {v : Value} (h : ∀ w : World, GlobOK G w (fun b => b < w.heap.size) → Calls P f l.toArray w fun e w' => e = .returned v ∧ w' = w) (rows : List Row) : CallOK P G f (l.map AV.c) rows (.ret (.c v) rows) := by
  intro w R L vs hvs hr hg
  rw [hvs.consts]
  refine (h w fun p hp => ⟨hr.ro _ (hg p hp).1, (hg p hp).2⟩).mono fun e w' ⟨he, hw⟩ => ?_
  subst he hw
  exact ⟨R, L, Step.refl _ R L, hg, v, rfl, .fr _ _ (.c v), hr⟩

/-- Functions by their numbers. -/
def goodFn (P : Program) (f : FuncId) (afn : AFn) : Bool :=
  (match P.funcs[f]? with | some fn => !(fn.name == "runtime.NumGoroutine") && !fn.body.isNone | none => false) && codeOKB afn.code

theorem goodFn_spec {f : FuncId} {afn : AFn} (h : goodFn P f afn = true) : calleeOK P f ∧ codeOKB afn.code = true := by
  unfold goodFn at h
  simp only [Bool.and_eq_true] at h
  refine ⟨?_, h.2⟩
  cases hf : P.funcs[f]? with
  | none => rw [hf] at h; simp at h
  | some fn =>
    rw [hf] at h
    simp only [Bool.and_eq_true, Bool.not_eq_true'] at h
    exact ⟨fn, hf, h.1.1, h.1.2⟩

def cgTab (P : Program) (h : Nat → Hint) (lo hi : Nat) (bad : List Nat) (f : FuncId) : Option AFn := if Nat.ble lo f && Nat.ble f hi && !bad.contains f then cgFn P (h f) f else none

theorem cgTab_ok {h : Nat → Hint} {lo n : Nat} {bad : List Nat} (hall : ((List.range n).all fun i => bad.contains (lo + i) || match cgFn P (h (lo + i)) (lo + i) with | some a => goodFn P (lo + i) a | none => true) = true) (f : FuncId) (afn : AFn) (hf : cgTab P h lo (lo + n - 1) bad f = some afn) (hn : 0 < n) :
    FnOK P f afn ∧ calleeOK P f ∧ codeOKB afn.code = true := by
  unfold cgTab at hf
  split at hf
  · rename_i hc
    simp only [Bool.and_eq_true, Nat.ble_eq, Bool.not_eq_true'] at hc
    have := List.all_eq_true.1 hall (f - lo) (List.mem_range.2 (by omega))
    rw [show lo + (f - lo) = f by omega, hf, hc.2] at this
    simp only [Bool.false_or] at this
    exact ⟨cgFn_ok hf, goodFn_spec this⟩
  · cases hf

/-- What is behind a law's call: what was there is as it was. -/
structure Still (W W' : World) : Prop where
  os : W'.os = W.os
  output : W'.output = W.output
  size : W.heap.size ≤ W'.heap.size
  block : ∀ b, b < W.heap.size → W'.heap[b]? = W.heap[b]?

def oldR (W : World) (b : Nat) : Prop := b < W.heap.size

theorem oldRows (W : World) : RowsOK W (oldR W) unbornL [] := ⟨fun k r h => by simp at h, fun _ _ => rfl, fun b hb => hb, fun k k' b h => by cases h⟩

/-- A law's call. -/
theorem law_call {f : FuncId} {args : List AV} {b : Bool} {rows' : List Row} (h : CallOK P G f args [] (.ret (.c (.bool b)) rows')) {W : World} {vs : Array Value} (hvs : VRs W (oldR W) unbornL args vs) (hg : ∀ p ∈ G, W.heap[p.1]? = some p.2) :
    Calls P f vs W fun e W' => e = .returned (.bool b) ∧ Still W W' := by
  refine (h W (oldR W) unbornL vs hvs (oldRows W) fun p hp => ⟨(Array.getElem?_eq_some_iff.1 (hg p hp)).1, hg p hp⟩).mono fun e W' hpost => ?_
  obtain ⟨R1, L1, hst, _, v, rfl, hv, _⟩ := hpost
  have : v = .bool b := by cases hv with | fr _ _ hf => cases hf; rfl
  subst this
  exact ⟨rfl, hst.frm.os, hst.frm.output, hst.frm.size, fun b hb => hst.frm.block b hb fun q => q.elim (fun q => by omega) fun ⟨k, hk⟩ => by cases hk⟩

end

section
variable {P : Program} {H : Type} {enc : TypeId × Value → H}

theorem Still.sameAt {W W' : World} (h : Still W W') {p : MemPlace} (hp : p.block < W.heap.size) : W.sameAt W' p := by
  cases p with
  | cell b off =>
    have := h.block b hp
    simp only [World.sameAt, World.cell?, this]
  | map b => exact h.block b hp

theorem Still.keptBut {W W' : World} (h : Still W W') (may : MemPlace → Prop) : W.keptBut W' may := by
  refine ⟨h.os, h.output, fun i hi => ?_⟩
  rw [h.block i hi]
  cases hi' : W.heap[i]? with
  | none => rfl
  | some o =>
    cases o <;> first | exact ⟨rfl, rfl, rfl, fun _ _ => rfl⟩ | exact .inr ⟨rfl, rfl⟩ | rfl

theorem trodAll_still {W W' : World} (h : Still W W') {base : Nat} {spare : Nat → Bool} {held : Bool} : ∀ {ts : List TypeId} {vs : List Value} {ds : List (DataW H)} {ps : List MemPlace},
    DataW.TrodAll enc P W base spare held ts vs ds ps → (∀ p ∈ ps, p.block < W.heap.size) → DataW.TrodAll enc P W' base spare held ts vs ds ps
  | [], [], [], _, h1, _ => h1
  | _ :: _, _ :: _, _ :: _, _, ⟨p, q, ⟨n, h1⟩, h2, e⟩, hs =>
    ⟨p, q, ⟨n, DataW.trod_carry n _ _ _ h1 fun x hx => h.sameAt (hs x (by rw [e]; exact List.mem_append_left _ hx))⟩, trodAll_still h h2 (fun x hx => hs x (by rw [e]; exact List.mem_append_right _ hx)), e⟩

/-- What a law's row asks. -/
theorem law_post {f : Func} {s : ChangeSpec} {apart fresh handsOn again : Bool} {W W' : World} {args : Array Value} {ds gs : List (DataW H)} {before : List MemPlace} {t : TypeId}
    (hk : Kids P (· < P.types.size)) (hz : ∀ t e, t < P.types.size → P.underlying t = some (.slice e) → 0 < P.cellsOf e) (hts : ∀ t ∈ f.params.toList, t < P.types.size)
    (hv : s.vars = []) (hW : DataW.Whole enc P f.params.toList s.vars apart W args.toList ds gs before) (hs : s.fn H (ds ++ gs) = { results := [.lit (.bool true)], args := ds })
    (hres : f.resultTypes = #[t]) (ht : P.underlying t = some .bool) (hb : Still W W') : s.post enc P f apart fresh handsOn again W args (.bool true) W' := by
  have hlt := hW.lt
  have hW0 := hW
  obtain ⟨p, q, hA, hV, hpq, hfz, hnd⟩ := hW
  rw [hv] at hV
  obtain ⟨rfl, rfl⟩ : gs = [] ∧ q = [] := by
    cases gs with
    | nil => exact ⟨rfl, hV⟩
    | cons g gs => cases hV
  rw [List.append_nil] at hpq
  subst hpq
  have hA' := trodAll_still hb hA hlt
  have hold : ∀ x ∈ before, (fun b => decide (b < W.heap.size)) x.block = true := fun x hx => by simpa using hlt x hx
  have hargs : ∀ sp : Nat → Bool, (∀ p ∈ before, sp p.block = true) → DataW.TrodAll enc P W' 0 sp true f.params.toList args.toList (s.fn H (ds ++ [])).args before := by
    intro sp hsp
    rw [hs]
    exact DataW.TrodAll.respare hk hz hts hA' hsp
  have hvars : ∀ sp : Nat → Bool, DataW.TrodVars enc P W' sp s.vars (s.fn H (ds ++ [])).vars [] := by
    intro sp
    rw [hs, hv]
    rfl
  have hr : ∀ (b : Nat) (sp : Nat → Bool) (hd : Bool), DataW.TrodAll enc P W' b sp hd f.resultTypes.toList ((Value.bool true).resultList f.resultTypes.size) (s.fn H (ds ++ [])).results [] := by
    intro b sp hd
    rw [hs, hres]
    exact ⟨[], [], ⟨1, by simp [DataW.trod, ht, Value.cells]⟩, rfl, rfl⟩
  refine ⟨ds, [], before, [], before, [], hW0, hr _ _ _, hargs _ hold, hvars _, hb.keptBut _, fun _ => ?_⟩
  refine ⟨?_, _, _, ([] ++ before) ++ [], ⟨[] ++ before, [], ChangeShapes.trodAll_append (hargs _ (fun _ _ => rfl)) (hr _ _ _), hvars _, rfl, ?_, ?_⟩, ?_⟩
  · intro j t' r ht' hr'
    rw [hres] at ht' hr'
    cases j with
    | zero =>
      simp at ht'
      subst ht'
      have : r = .bool true := by simpa [Value.resultList] using hr'.symm
      subst this
      simp [Value.okWide, ht, Cell.okWide, Cell.ok]
    | succ j => simp at ht'
  · intro b off hp
    have hp' : MemPlace.cell b off ∈ before := by simpa using hp
    have := hb.block b (hlt _ hp')
    unfold World.frozen?
    rw [this]
    exact hfz b off hp'
  · intro ha
    have := hnd ha
    simpa using this
  · intro x hx _
    simpa using hx

end
end
end Go.Proofs.Ytfcfdedbbhdioaa.AI
