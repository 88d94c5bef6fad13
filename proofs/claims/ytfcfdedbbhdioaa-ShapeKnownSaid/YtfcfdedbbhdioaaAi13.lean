/- AI 13: what is shown of the abstract code is so of the code. -/
import Derived.Test.YtfcfdedbbhdioaaAi12
import Derived.Recover
namespace Go.Proofs.Ytfcfdedbbhdioaa.AI
noncomputable section
open Go
set_option linter.unusedVariables false
set_option linter.unusedSimpArgs false

section
variable {P : Program} {G : List (Nat × Obj)}

theorem OpsOK.cons {ops : Array Oper} {is : List Nat} {o : AOper} {rest : List AOper} (h : OpsOK P ops is (o :: rest)) :
    ∃ i is' op, is = i :: is' ∧ ops[i]? = some op ∧ o.okOper P ops op ∧ OpsOK P ops is' rest := by
  obtain ⟨h1, h2⟩ := h
  cases is with
  | nil => simp at h1
  | cons i is' =>
    obtain ⟨op, h3, h4, _⟩ := h2 0 i o rfl rfl
    exact ⟨i, is', op, rfl, h3, h4, by simpa using h1, fun j k ao hk hj => h2 (j + 1) k ao (by simpa using hk) (by simpa using hj)⟩

/-- One operation of a region that draws. -/
theorem OpsOK.one {ops : Array Oper} {l : List AOper} (h : OpsOK P ops (List.range ops.size) l) {i : Nat} {o : AOper} (hi : l[i]? = some o) :
    OpsOK P ops [i] [o] ∧ ∃ op, ops[i]? = some op ∧ o.after = afterOf op := by
  have hl := h.1
  have hil : i < l.length := (List.getElem?_eq_some_iff.1 hi).1
  simp only [List.length_range] at hl
  obtain ⟨op, h1, h2, h3⟩ := h.2 i i o (by rw [List.getElem?_range (by omega)]) hi
  refine ⟨⟨rfl, fun j k ao hk hj => ?_⟩, op, h1, h3⟩
  cases j with
  | zero =>
    simp at hk hj
    subst hk hj
    exact ⟨op, h1, h2, h3⟩
  | succ j => simp at hk

theorem Oper.wp_post {o : Oper} {a : Act} {w : World} {K K' : Act → World → Prop} {Q Q' : Exit → Act → World → Prop} (h : ∀ a w, K a w → K' a w) (hq : ∀ e a w, e ≠ .normal → Q e a w → Q' e a w)
    (hl : LetsOut Q → LetsOut Q') (hh : o.wp P a w K Q) : o.wp P a w K' Q' := by
  unfold Oper.wp at *
  generalize (execOp a.eval o).run P w = r at *
  cases r with
  | ok n w' =>
    cases n <;> simp only [Oper.upon] at hh ⊢ <;>
      first
        | exact h _ _ hh
        | exact hq _ _ _ (by simp) hh
        | exact Calls.mono hh (fun e w'' he => by cases e <;> first | exact h _ _ he | exact hq _ _ _ (by simp) he | exact hl he)
        | exact Rows.mono hh (fun _ _ he => h _ _ he)
  | halt x w' => cases x <;> simp only [Oper.upon] at hh ⊢ <;> first | exact hq _ _ _ (by simp) hh | exact hh

theorem wpOp_post {ops : Array Oper} {i : Nat} {a : Act} {w : World} {K K' : Act → World → Prop} {Q Q' : Exit → Act → World → Prop} (h : ∀ a w, K a w → K' a w) (hq : ∀ e a w, e ≠ .normal → Q e a w → Q' e a w)
    (hl : LetsOut Q → LetsOut Q') (hh : wpOp P ops Q i K a w) : wpOp P ops Q' i K' a w := by
  unfold wpOp at *
  split
  · exact h _ _ (by simpa [*] using hh)
  · rename_i o ho
    simp only [ho] at hh
    split
    · rename_i hw; simp only [hw, if_true] at hh; exact hh.imp (Oper.wp_post h hq hl) (fun p => ⟨p.1, hl p.2⟩)
    · rename_i hw; simp only [hw] at hh; exact h _ _ hh

theorem countP_lt {p q : Nat → Bool} : ∀ (l : List Nat) (i : Nat), i ∈ l → p i = true → q i = false → (∀ k, q k = true → p k = true) → l.countP q < l.countP p
  | x :: l, i, hi, hp, hq, hpq => by
    have hle : ∀ l : List Nat, l.countP q ≤ l.countP p := fun l => List.countP_mono_left fun k _ h => hpq k h
    by_cases hx : x = i
    · subst hx
      have := hle l
      simp only [List.countP_cons, hp, hq]
      simp
      omega
    · have hi' : i ∈ l := by simpa [Ne.symm hx] using hi
      have := countP_lt l i hi' hp hq hpq
      simp only [List.countP_cons]
      cases hqx : q x
      · cases p x <;> simp <;> omega
      · rw [hpq x hqx]; simp; exact this

/-- All orders: by one state for each set of operations that are done. -/
theorem any_order {ops : Array Oper} {l : List AOper} (hops : OpsOK P ops (List.range ops.size) l) {Q : Exit → Act → World → Prop} (I : (Nat → Bool) → Act → World → Prop)
    (hdn : ∀ (i : Nat) (o : AOper), l[i]? = some o → ∀ k ∈ o.after, k < i)
    (hend : ∀ S a w, (∀ i, i < l.length → S i = true) → I S a w → Q .normal a w)
    (hstep : ∀ (S : Nat → Bool) (i : Nat) (o : AOper), l[i]? = some o → S i = false → (∀ k ∈ o.after, S k = true) → DownS l S → ∀ a w, I S a w → wpOp P ops Q i (fun a' w' => I (fun k => if k = i then true else S k) a' w') a w) :
    ∀ (fuel : Nat) (listed : Array Bool) (a : Act) (w : World), listed.size = ops.size → (List.range ops.size).countP (fun k => !listed.getD k false) ≤ fuel → DownS l (fun k => listed.getD k false) →
      I (fun k => listed.getD k false) a w → wpAny P .any ops Q fuel listed a w := by
  have hl : l.length = ops.size := by have := hops.1; simpa using this.symm
  have rdy : ∀ (listed : Array Bool) (i : Nat), listed.size = ops.size → (i ∈ Region.ready .any ops listed ↔ ∃ o, l[i]? = some o ∧ listed.getD i false = false ∧ ∀ k ∈ o.after, listed.getD k false = true) := by
    intro listed i hs
    rw [mem_ready]
    constructor
    · rintro ⟨h1, op, h2, h3⟩
      have hi : i < l.length := by have := (Array.getElem?_eq_some_iff.1 h2).1; omega
      obtain ⟨_, op', h4, h5⟩ := hops.one (i := i) (o := l[i]) (by simp [hi])
      rw [h2] at h4
      injection h4 with h4
      subst h4
      refine ⟨l[i], by simp [hi], ?_, fun k hk => ?_⟩
      · have : i < listed.size := by omega
        simpa [this] using h1
      · rw [h5] at hk
        unfold afterOf at hk
        simp only [List.mem_map, List.mem_filter, Array.mem_toList_iff] at hk
        obtain ⟨e, ⟨he, hb⟩, rfl⟩ := hk
        exact h3 e he hb
    · rintro ⟨o, h1, h2, h3⟩
      obtain ⟨_, op, h4, h5⟩ := hops.one h1
      have hi : i < l.length := (List.getElem?_eq_some_iff.1 h1).1
      have hi' : i < listed.size := by omega
      refine ⟨by simpa [hi'] using h2, op, h4, fun e he hb => h3 e.on ?_⟩
      rw [h5]
      unfold afterOf
      simp only [List.mem_map, List.mem_filter, Array.mem_toList_iff]
      exact ⟨e, ⟨he, hb⟩, rfl⟩
  have least : ∀ (listed : Array Bool), listed.size = ops.size → Region.ready .any ops listed = [] → ∀ i, i < l.length → listed.getD i false = true := by
    intro listed hs hr i
    induction i using Nat.strongRecOn with
    | ind i ih =>
      intro hi
      cases hli : listed.getD i false with
      | true => rfl
      | false =>
        have : i ∈ Region.ready .any ops listed := (rdy listed i hs).2 ⟨l[i], by simp [hi], hli, fun k hk => ih k (hdn i l[i] (by simp [hi]) k hk) (by have := hdn i l[i] (by simp [hi]) k hk; omega)⟩
        rw [hr] at this
        cases this
  intro fuel
  induction fuel with
  | zero =>
    intro listed a w hs hc hd hI
    have hall : ∀ i, i < l.length → listed.getD i false = true := by
      intro i hi
      have h0 := List.countP_eq_zero.1 (Nat.le_zero.1 hc) i (by simp; omega)
      simpa using h0
    refine ⟨?_, hend _ a w hall hI⟩
    cases hr : Region.ready .any ops listed with
    | nil => rfl
    | cons i rest =>
      obtain ⟨o, h1, h2, _⟩ := (rdy listed i hs).1 (by rw [hr]; simp)
      rw [hall i (List.getElem?_eq_some_iff.1 h1).1] at h2
      cases h2
  | succ fuel ih =>
    intro listed a w hs hc hd hI
    refine ⟨fun hr => hend _ a w (least listed hs hr) hI, fun i hi => ?_⟩
    obtain ⟨o, h1, h2, h3⟩ := (rdy listed i hs).1 hi
    have hil : i < listed.size := by have := (List.getElem?_eq_some_iff.1 h1).1; omega
    have hset : (fun k => (listed.setIfInBounds i true).getD k false) = fun k => if k = i then true else listed.getD k false := by
      funext k
      by_cases hk : k = i
      · subst hk; simp [hil]
      · rw [getD_set_ne false (Ne.symm hk)]; simp [hk]
    refine wpOp_mono (fun a' w' hI' => ih _ a' w' (by simpa using hs) ?_ ?_ (by rw [hset]; exact hI')) (hstep _ i o h1 h2 h3 hd a w hI)
    · have hlt := countP_lt (p := fun k => !listed.getD k false) (q := fun k => !(listed.setIfInBounds i true).getD k false) (List.range ops.size) i (by simp; omega) (by simp only [h2]; rfl) (by have := congrFun hset i; rw [if_pos rfl] at this; rw [this]; rfl)
        (fun k hk => by
          have := congrFun hset k
          rw [this] at hk
          by_cases hki : k = i
          · rw [if_pos hki] at hk; cases hk
          · rw [if_neg hki] at hk; exact hk)
      omega
    · rw [hset]
      intro j oj hj hjt k hk
      simp only at hjt ⊢
      by_cases hji : j = i
      · subst hji
        rw [h1] at hj
        injection hj with hj
        subst hj
        split
        · rfl
        · exact h3 k hk
      · rw [if_neg hji] at hjt
        split
        · rfl
        · exact hd j oj hj hjt k hk

theorem guard_ok {ops : Array Oper} {op : Oper} {o : AOper} (ho : o.okOper P ops op) {w : World} {R : Nat → Prop} {L : Nat → Place} {s : List AV} {a : Act} (hs : SlotsOK w R L s a.tmps) {b : Bool} (hg : guardSays s o.guard = some b) :
    Region.wanted op (yielded ops a.tmps) = b := by
  obtain ⟨_, _, h⟩ := ho
  unfold guardSays at hg
  unfold Region.wanted
  cases hog : op.guard with
  | none =>
    rw [hog] at h
    cases hag : o.guard with
    | none => rw [hag] at hg; simp at hg; simp [← hg]
    | some q => rw [hag] at h; exact h.elim
  | some q =>
    obtain ⟨j, want⟩ := q
    rw [hog] at h
    cases hag : o.guard with
    | none => rw [hag] at h; exact h.elim
    | some q' =>
      obtain ⟨t, want'⟩ := q'
      rw [hag] at h hg
      obtain ⟨rfl, hj⟩ := h
      simp only at hg ⊢
      unfold yielded
      rw [hj]
      simp only [Option.bind_some]
      have hsl : ∀ u, s.getD t .junk = .c u → a.tmps[t]? = some u := by
        intro u hu
        have ht : t < s.length := by
          rcases Nat.lt_or_ge t s.length with q | q
          · exact q
          · simp [List.getD, List.getElem?_eq_none q] at hu
        have ht2 : t < a.tmps.size := by rw [hs.1]; exact ht
        have h1 : s[t]? = some (.c u) := by simp [List.getD, ht] at hu; simp [ht, hu]
        have := hs.2 t _ a.tmps[t] h1 (by simp [ht2])
        rw [this.of_c.symm]
        simp [ht2]
      split at hg
      · rename_i b' hb'
        rw [hsl _ ((lget_getD s t).symm.trans hb')]
        simp at hg
        subst hg
        cases b' <;> cases want <;> rfl
      · rename_i vs hvs
        rw [hsl _ ((lget_getD s t).symm.trans hvs)]
        simp at hg
        subst hg
        rfl
      · cases hg

theorem SlotsOK.putO {w : World} {R : Nat → Prop} {L : Nat → Place} {s : List AV} {a : Act} (h : SlotsOK w R L s a.tmps) (rows : List Row) (np : Nat) (ds : List (FuncId × List AV)) (d : Option Nat) {x : AV} {v : Value} (hx : VR w R L x v) :
    SlotsOK w R L (({ slots := s, rows, np, defers := ds } : St).put d x).slots (a.put d v).tmps := by
  cases d with
  | none => exact h
  | some d =>
    have := h.put d hx
    rw [← lset_set] at this
    exact this

theorem DefsOK.mono {w w' : World} {R R' : Nat → Prop} {L L' : Nat → Place} {ds : List (FuncId × List AV)} {ads : List Deferred} (h : DefsOK w R L ds ads) (hv : ∀ x v, VR w R L x v → VR w' R' L' x v) : DefsOK w' R' L' ds ads :=
  ⟨h.1, fun i d ad hd had => let ⟨vs, h1, h2, h3⟩ := h.2 i d ad hd had; ⟨vs, h1, h2, fun j y v hy hv' => hv _ _ (h3 j y v hy hv')⟩⟩

@[simp] theorem put_defers (a : Act) (d : Option Nat) (v : Value) : (a.put d v).defers = a.defers := by cases d <;> rfl
@[simp] theorem St.put_rows (st : St) (d : Option Nat) (x : AV) : (st.put d x).rows = st.rows := by cases d <;> rfl
@[simp] theorem St.put_np (st : St) (d : Option Nat) (x : AV) : (st.put d x).np = st.np := by cases d <;> rfl
@[simp] theorem St.put_defs (st : St) (d : Option Nat) (x : AV) : (st.put d x).defers = st.defers := by cases d <;> rfl

/-- A step, and a value put into its slot. -/
theorem Inv.step {w0 : World} {R0 : Nat → Prop} {L0 : Nat → Place} {st : St} {a : Act} {w w' : World} {R R' : Nat → Prop} {L L' : Nat → Place}
    (hs : SlotsOK w R L st.slots a.tmps) (hr : RowsOK w R L st.rows) (hg : GlobOK G w R) (h0 : Step w0 R0 L0 w R L) (hd : DefsOK w R L st.defers a.defers) (hn : ∀ k, st.np ≤ k → L0 k = .unborn)
    {rows' : List Row} (hst : Step w R L w' R' L') (hr' : RowsOK w' R' L' rows') {x : AV} {v : Value} (hx : VR w' R' L' x v) (d : Option Nat) :
    Inv G w0 R0 L0 ({ st with rows := rows' }.put d x) (a.put d v) w' [] := by
  refine ⟨R', L', ?_, by simpa using hr', hg.step hr hst, h0.trans hst, ?_, by simpa using hn, fun p hp => by cases hp⟩
  · exact SlotsOK.putO (a := a) (hs.mono fun _ _ => hst.vr hr) rows' st.np st.defers d hx
  · simpa using hd.mono fun _ _ => hst.vr hr

theorem Inv.drawn {w0 : World} {R0 : Nat → Prop} {L0 : Nat → Place} {st : St} {a : Act} {w : World} {xs : List (AV × Value)} (n : Nat) (h : Inv G w0 R0 L0 st a w xs) : Inv G w0 R0 L0 st a { w with drawn := n } xs := by
  obtain ⟨R, L, hs, hr, hg, h0, hd, hn, hx⟩ := h
  obtain ⟨hr', hst⟩ := step_same hr (w1 := { w with drawn := n }) rfl rfl rfl rfl
  exact ⟨R, L, hs.mono fun _ _ => hst.vr hr, hr', hg.step hr hst, h0.trans hst, hd.mono fun _ _ => hst.vr hr, hn, fun p hp => hst.vr hr (hx p hp)⟩

theorem run_callFunc {f : FuncId} (hf : calleeOK P f) (args : Array Value) (w : World) : (callFunc f args).run P w = .ok (.enter f args) w := by
  obtain ⟨fn, h1, h2, h3⟩ := hf
  have h2' : ¬ fn.name = "runtime.NumGoroutine" := by simpa using h2
  have h3' : ¬ fn.body = none := fun e => by rw [e] at h3; cases h3
  simp [callFunc, h1, h2', h3']

theorem run_call {o : Oper} {f : FuncId} {args : Array Operand} {tys : Array TypeId} (ho : o.op = .call { callee := .value (.func f), args := args, argTypes := tys }) (hf : calleeOK P f) (a : Act) (w : World) :
    (execOp a.eval o).run P w = .ok (.enter f (args.map a.eval)) w := by
  have he : a.eval (.func f) = .func (.func f) #[] #[] := rfl
  simp [execOp, ho, resolve, he, Deferred.ofValue, invoke, run_callFunc hf]

theorem run_callv {o : Oper} {fx : Operand} {f : FuncId} {cs : Array Value} {args : Array Operand} {tys : Array TypeId} (ho : o.op = .call { callee := .value fx, args := args, argTypes := tys }) (hf : calleeOK P f) (a : Act) (w : World)
    (hv : a.eval fx = .func (.func f) #[] cs) : (execOp a.eval o).run P w = .ok (.enter f (args.map a.eval ++ cs)) w := by
  simp [execOp, ho, resolve, hv, Deferred.ofValue, invoke, run_callFunc hf]

theorem fnOf_vr {w : World} {R : Nat → Prop} {L : Nat → Place} {x : AV} {v : Value} {f : FuncId} {caps : List AV} (h : fnOf x = some (f, caps)) (hx : VR w R L x v) :
    ∃ cs, v = .func (.func f) #[] cs ∧ VRs w R L caps cs := by
  unfold fnOf at h
  split at h
  · simp only [Option.some.injEq, Prod.mk.injEq] at h
    obtain ⟨rfl, rfl⟩ := h
    obtain ⟨cs, h1, h2, h3⟩ := hx.fn_inv
    exact ⟨cs, h1, h2, h3⟩
  · rename_i p q
    split at h
    · rename_i hpq
      have e1 : p = #[] := Array.eq_empty_of_size_eq_zero hpq.1
      have e2 : q = #[] := Array.eq_empty_of_size_eq_zero hpq.2
      subst e1 e2
      simp only [Option.some.injEq, Prod.mk.injEq] at h
      obtain ⟨rfl, rfl⟩ := h
      exact ⟨#[], hx.of_c, rfl, fun j y v hy => by simp at hy⟩
    · cases h
  · cases h

theorem VRs.ren {w : World} {R : Nat → Prop} {L L' : Nat → Place} {l : List AV} {vs : Array Value} (h : VRs w R L l vs) {ρ : Nat → Option Nat} (hρ : RenOK ρ L L') (d : Nat) : VRs w R L' (l.map fun x => x.ren d ρ) vs := by
  refine ⟨by simpa using h.1, fun j y v hy hv => ?_⟩
  simp only [List.getElem?_map, Option.map_eq_some_iff] at hy
  obtain ⟨x, hx, rfl⟩ := hy
  exact ren_vr ρ hρ d (h.2 j x v hx hv)

theorem VRs.of_args {w : World} {R : Nat → Prop} {L : Nat → Place} {s : List AV} {a : Act} (hs : SlotsOK w R L s a.tmps) (args : Array Operand) : VRs w R L ((args.toList.map Opd.of).map (Opd.ev s)) (args.map a.eval) := by
  refine ⟨by simp, fun j y v hy hv => ?_⟩
  simp only [List.map_map, List.getElem?_map, Array.getElem?_toList, Array.getElem?_map, Option.map_eq_some_iff, Function.comp] at hy hv
  obtain ⟨x, hx, rfl⟩ := hy
  obtain ⟨x', hx', rfl⟩ := hv
  rw [hx] at hx'
  injection hx' with hx'
  subst hx'
  exact hs.ev x

theorem VRs.append {w : World} {R : Nat → Prop} {L : Nat → Place} {l l' : List AV} {vs vs' : Array Value} (h : VRs w R L l vs) (h' : VRs w R L l' vs') : VRs w R L (l ++ l') (vs ++ vs') := by
  refine ⟨by simp [h.1, h'.1], fun j y v hy hv => ?_⟩
  by_cases hj : j < l.length
  · rw [List.getElem?_append_left hj] at hy
    rw [Array.getElem?_append_left (by rw [h.1]; exact hj)] at hv
    exact h.2 j y v hy hv
  · rw [List.getElem?_append_right (by omega)] at hy
    rw [Array.getElem?_append_right (by rw [h.1]; omega), h.1] at hv
    exact h'.2 _ y v hy hv

theorem VRs.lend {w : World} {R : Nat → Prop} {L : Nat → Place} {rows : List Row} (hr : RowsOK w R L rows) {lent : Bool} {l l' : List AV} {vs : Array Value} (h : VRs w R L l vs) (hl : l.mapM (lend lent rows) = some l') :
    VRs w (if lent then allR R L else R) unbornL l' vs := by
  obtain ⟨h1, h2⟩ := mapM_get hl
  refine ⟨by rw [h1]; exact h.1, fun j y v hy hv => ?_⟩
  obtain ⟨x, hx, hxy⟩ := h2 j y hy
  exact lend_vr hr (h.2 j x v hx hv) hxy

theorem GlobOK.lent {w : World} {R : Nat → Prop} {L : Nat → Place} (h : GlobOK G w R) (lent : Bool) : GlobOK G w (if lent then allR R L else R) := by
  cases lent
  · exact h
  · exact fun p hp => ⟨.inl (h p hp).1, (h p hp).2⟩

/-- The loop, behind its first step. -/
def InL (P : Program) (c : Code) (Q : Exit → Act → World → Prop) (a : Act) (w : World) : Prop :=
  ∀ (b : Frame) (k : List Item) (cs : List Frame), ∃ e a' w', Q e a' w' ∧ Arrives P (lone (b.at a (.code c :: .inLoop c :: k)) cs w) b k cs e a' w'

theorem inL_wp {c : Code} {Q : Exit → Act → World → Prop} {a : Act} {w : World} (h : InL P c Q a w) : (Code.loop c).wp P Q a w :=
  fun b k cs => let ⟨e, a', w', q, r⟩ := h b k cs; ⟨e, a', w', q, .of_steps (.one step_loop) r⟩

theorem inL_mono {c : Code} {Q Q' : Exit → Act → World → Prop} {a : Act} {w : World} (h : InL P c Q a w) (hq : ∀ e a w, Q e a w → Q' e a w) : InL P c Q' a w :=
  fun b k cs => let ⟨e, a', w', q, r⟩ := h b k cs; ⟨e, a', w', hq _ _ _ q, r⟩

theorem inL_round {c : Code} {Q : Exit → Act → World → Prop} {a : Act} {w : World} (h : c.wp P (Exit.then (InL P c Q) Q) a w) : InL P c Q a w := by
  intro b k cs
  obtain ⟨e, a₁, w₁, hq, harr⟩ := h b (.inLoop c :: k) cs
  cases e with
  | normal =>
    obtain ⟨e₂, a₂, w₂, hq₂, harr₂⟩ := hq b k cs
    exact ⟨e₂, a₂, w₂, hq₂, .of_steps (Steps.trans harr (.one step_inLoop)) harr₂⟩
  | exit id => exact ⟨_, a₁, w₁, hq, .pass (x := .inLoop c) rfl (fun _ _ => .inl (by simp)) harr⟩
  | goto l => exact ⟨_, a₁, w₁, hq, .pass (x := .inLoop c) rfl (fun _ _ => .inl (by simp)) harr⟩
  | ret => exact ⟨_, a₁, w₁, hq, .pass (x := .inLoop c) rfl (fun _ _ => .inl (by simp)) harr⟩
  | panic ch => exact ⟨_, a₁, w₁, hq, .pass (x := .inLoop c) rfl (fun _ _ => .inl (by simp)) harr⟩
  | outgrown => exact ⟨_, a₁, w₁, hq, .pass (x := .inLoop c) rfl (fun _ _ => .inl (by simp)) harr⟩

theorem wpOps_post {ops : Array Oper} {Q Q' : Exit → Act → World → Prop} (hq : ∀ e a w, Q e a w → Q' e a w) : ∀ (l : List Nat) (a : Act) (w : World), wpOps P ops Q l a w → wpOps P ops Q' l a w
  | [], a, w, h => hq _ _ _ h
  | i :: rest, a, w, h => by
    rw [wpOps_cons] at h ⊢
    exact wpOp_post (wpOps_post hq rest) (fun e a w _ => hq e a w) (fun ⟨a, w, h⟩ => ⟨a, w, hq _ _ _ h⟩) h

theorem opsS_of {ops : Array Oper} {Q : Exit → Act → List Frame → World → Prop} {cs : List Frame} (hno : ∀ a w, ¬ Q .outgrown a cs w) : ∀ (l : List Nat) (a : Act) (w : World),
    wpOps P ops (fun e a w => Q e a cs w) l a w → wpOpsS P ops Q l a cs w
  | [], a, w, h => h
  | i :: rest, a, w, h => by
    rw [wpOps_cons] at h
    unfold wpOp at h
    unfold wpOpsS
    cases ho : ops[i]? with
    | none => rw [ho] at h; exact opsS_of hno rest a w h
    | some o =>
      rw [ho] at h
      simp only at h ⊢
      split
      · rename_i hw
        rw [if_pos hw] at h
        rcases h with h | ⟨_, a', w', h⟩
        · have h' := Oper.wp_mono (opsS_of hno rest) h
          unfold Oper.wp at h'
          split
          · rename_i w' hrun
            rw [hrun] at h'
            exact h'.elim
          · exact h'
        · exact absurd h (hno a' w')
      · rename_i hw
        rw [if_neg hw] at h
        exact opsS_of hno rest _ w h

theorem entry_slots {w : World} {R : Nat → Prop} {L : Nat → Place} {args : List AV} {vs : Array Value} (hvs : VRs w R L args vs) (afn : AFn) (rows : List Row) :
    SlotsOK w R L (entry afn args rows).slots (vs ++ Array.replicate (afn.ntmps - vs.size) undef) := by
  refine ⟨?_, fun i x v hx hv => ?_⟩
  · simp [entry, hvs.1]
  · simp only [entry] at hx
    by_cases hi : i < args.length
    · rw [List.getElem?_append_left hi] at hx
      rw [Array.getElem?_append_left (by rw [hvs.1]; exact hi)] at hv
      exact hvs.2 i x v hx hv
    · rw [List.getElem?_append_right (by omega)] at hx
      rw [Array.getElem?_append_right (by rw [hvs.1]; omega)] at hv
      rw [List.getElem?_replicate] at hx
      rw [Array.getElem?_replicate] at hv
      split at hx
      · split at hv
        · injection hx with hx
          injection hv with hv
          subst hx hv
          exact .fr _ _ (.c undef)
        · cases hv
      · cases hx

theorem entry_defs {w : World} {R : Nat → Prop} {L : Nat → Place} (afn : AFn) (args : List AV) (rows : List Row) : DefsOK w R L (entry afn args rows).defers [] := ⟨rfl, fun i d ad hd => by simp [entry] at hd⟩

/-- A call's first state. -/
theorem entry_ok {w : World} {R : Nat → Prop} {L : Nat → Place} {args : List AV} {rows : List Row} {vs : Array Value} (hvs : VRs w R L args vs) (hrows : RowsOK w R L rows) (hgl : GlobOK G w R) (afn : AFn) :
    Inv G w R L (entry afn args rows) { tmps := vs ++ Array.replicate (afn.ntmps - vs.size) undef, defers := [] } w [] :=
  ⟨R, L, entry_slots hvs afn rows, hrows, hgl, Step.refl w R L, entry_defs afn args rows, fun k hk => hrows.none k hk, fun p hp => by cases hp⟩

/-- The results. -/
def rv (tmps : Array Value) : ResultVar → Sem Value
  | .tmp t => pure (tmps.getD t undef)
  | .cell a t => do loadVar t (← asAddr (tmps.getD a undef))

theorem results_eq (fn : Func) (tmps : Array Value) : results fn tmps = (do let vs ← fn.results.mapM (rv tmps); pure (if h : vs.size = 1 then vs[0] else .tuple vs)) := rfl

theorem res_run {w : World} {R : Nat → Prop} {L : Nat → Place} {st : St} {a : Act} (hs : SlotsOK w R L st.slots a.tmps) (hr : RowsOK w R L st.rows) {r : ResultVar} {ar : ARes} (ho : ar.ok P r) {x : AV} (h : resOf st ar = some x) :
    ∃ v, (rv a.tmps r).run P w = .ok v w ∧ VR w R L x v := by
  have hev : ∀ i, VR w R L (lget st.slots i) (a.tmps.getD i undef) := fun i => hs.ev (.tmp i)
  cases ar with
  | tm i =>
    simp only [ARes.ok] at ho
    subst ho
    simp only [resOf, Option.some.injEq] at h
    subst h
    exact ⟨_, rfl, hev i⟩
  | cell i agg n =>
    obtain ⟨t, rfl, ha, hn⟩ := ho
    simp only [resOf] at h
    split at h
    · rename_i y hy
      injection h with h
      subst h
      obtain ⟨ad, u, h1, h2, h3⟩ := load_run ha hn hr (hev i) hy
      exact ⟨u, by simp only [rv, h1, asAddr, Sem.run_bind, Sem.run_pure, Result.andThen_ok, h2], h3⟩
    · cases h

theorem run_mapM {α : Type} (f : α → Sem Value) (w : World) (Q : Nat → Value → Prop) : ∀ (l : List α) (i : Nat), (∀ (j : Nat) (x : α), l[j]? = some x → ∃ v, (f x).run P w = .ok v w ∧ Q (i + j) v) →
    ∃ vs, (l.mapM f).run P w = .ok vs w ∧ vs.length = l.length ∧ ∀ (j : Nat) (v : Value), vs[j]? = some v → Q (i + j) v
  | [], i, _ => ⟨[], by simp, rfl, fun j v h => by simp at h⟩
  | x :: l, i, h => by
    obtain ⟨v, h1, h2⟩ := h 0 x rfl
    obtain ⟨vs, h3, h4, h5⟩ := run_mapM f w Q l (i + 1) (fun j y hy => by
      obtain ⟨v, h6, h7⟩ := h (j + 1) y (by simpa using hy)
      exact ⟨v, h6, by rw [show i + 1 + j = i + (j + 1) by omega]; exact h7⟩)
    refine ⟨v :: vs, by simp [List.mapM_cons, h1, h3], by simp [h4], fun j u hu => ?_⟩
    cases j with
    | zero => simp at hu; subst hu; exact h2
    | succ j => rw [show i + (j + 1) = i + 1 + j by omega]; exact h5 j u (by simpa using hu)

theorem mapM_opt {α β : Type} {f : α → Option β} : ∀ {l : List α} {r : List β}, l.mapM f = some r → r.length = l.length ∧ ∀ (j : Nat) (x : α), l[j]? = some x → ∃ y, r[j]? = some y ∧ f x = some y
  | [], r, h => by simp at h; subst h; exact ⟨rfl, fun j x hj => by simp at hj⟩
  | x :: l, r, h => by
    simp only [List.mapM_cons, Option.bind_eq_bind, Option.pure_def] at h
    cases hx : f x with
    | none => simp [hx] at h
    | some y =>
      cases hl : l.mapM f with
      | none => simp [hx, hl] at h
      | some ys =>
        simp [hx, hl] at h
        subst h
        obtain ⟨h1, h2⟩ := mapM_opt hl
        refine ⟨by simp [h1], fun j z hj => ?_⟩
        cases j with
        | zero => simp at hj; subst hj; exact ⟨y, rfl, hx⟩
        | succ j => simpa using h2 j z (by simpa using hj)

theorem results_run {w : World} {R : Nat → Prop} {L : Nat → Place} {st : St} {a : Act} (hs : SlotsOK w R L st.slots a.tmps) (hr : RowsOK w R L st.rows) {fn : Func} {l : List ARes} (hsz : fn.results.size = l.length)
    (ho : ∀ (j : Nat) (r : ResultVar) (ar : ARes), fn.results[j]? = some r → l[j]? = some ar → ar.ok P r) {x : AV} (h : resAV st l = some x) : ∃ v, (results fn a.tmps).run P w = .ok v w ∧ VR w R L x v := by
  have hres : ∀ vs : List Value, (fn.results.toList.mapM (rv a.tmps)).run P w = .ok vs w → (results fn a.tmps).run P w = .ok (if h : vs.toArray.size = 1 then vs.toArray[0] else .tuple vs.toArray) w := by
    intro vs hvs
    rw [results_eq, Array.mapM_eq_mapM_toList]
    simp only [Sem.run_bind, Sem.run_map, hvs, Result.andThen_ok, Sem.run_pure]
  have many : ∀ xs : List AV, l.mapM (resOf st) = some xs → ∃ vs : List Value, (fn.results.toList.mapM (rv a.tmps)).run P w = .ok vs w ∧ vs.length = l.length ∧ ∀ (j : Nat) (y : AV) (v : Value), xs[j]? = some y → vs[j]? = some v → VR w R L y v := by
    intro xs hxs
    obtain ⟨h1, h2⟩ := mapM_opt hxs
    obtain ⟨vs, h3, h4, h5⟩ := run_mapM (P := P) (rv a.tmps) w (fun j v => ∀ y, xs[j]? = some y → VR w R L y v) fn.results.toList 0 (fun j r hj => by
      have hj' : fn.results[j]? = some r := by rw [← Array.getElem?_toList]; exact hj
      have hjl : j < l.length := by have := (Array.getElem?_eq_some_iff.1 hj').1; omega
      obtain ⟨y, hy, hry⟩ := h2 j l[j] (by simp [hjl])
      obtain ⟨v, h6, h7⟩ := res_run hs hr (ho j r l[j] hj' (by simp [hjl])) hry
      refine ⟨v, h6, fun y' hy' => ?_⟩
      rw [Nat.zero_add, hy] at hy'
      injection hy' with hy'
      exact hy' ▸ h7)
    exact ⟨vs, h3, by rw [h4]; simpa using hsz, fun j y v hy hv => by have := h5 j v hv; rw [Nat.zero_add] at this; exact this y hy⟩
  unfold resAV at h
  split at h
  · rename_i r
    obtain ⟨vs, h1, h2, h3⟩ := many [x] (by simp [h])
    simp only [List.length_singleton] at h2
    refine ⟨_, hres vs h1, ?_⟩
    rw [dif_pos (by simpa using h2)]
    exact h3 0 x _ rfl (by simp [h2])
  · rename_i hne
    simp only [Option.map_eq_some_iff] at h
    obtain ⟨xs, hxs, rfl⟩ := h
    obtain ⟨vs, h1, h2, h3⟩ := many xs hxs
    refine ⟨_, hres vs h1, ?_⟩
    have hl : l.length ≠ 1 := fun e => by
      match l, e with
      | [r], _ => exact hne r rfl
    rw [dif_neg (by simpa [h2] using hl)]
    exact .tup xs vs.toArray (by simp [h2, (mapM_opt hxs).1]) fun j y v hy hv => h3 j y v hy (by simpa using hv)

end
end
end Go.Proofs.Ytfcfdedbbhdioaa.AI
