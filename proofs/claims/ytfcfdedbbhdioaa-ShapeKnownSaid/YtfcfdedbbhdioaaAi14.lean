/- AI 14: the law: what is derived is so. -/
import Derived.Test.YtfcfdedbbhdioaaAi13
namespace Go.Proofs.Ytfcfdedbbhdioaa.AI
noncomputable section
open Go
set_option linter.unusedVariables false
set_option linter.unusedSimpArgs false

section
variable {P : Program} {G : List (Nat × Obj)}

/-- What is shown of code: of a loop, also of what stands behind its first step. -/
def HoldsL (P : Program) (G : List (Nat × Obj)) : Job → Prop
  | .code c st e st' => ∀ (code : Code), CodeOK P code c → ∀ w0 R0 L0 a w, Inv G w0 R0 L0 st a w [] →
      code.wp P (Post G w0 R0 L0 e st') a w ∧ ∀ body, code = .loop body → InL P body (Post G w0 R0 L0 e st') a w
  | j => Holds P G j

theorem XOK.normal {e' : Exit} {xs : List (AV × Value)} (h : XOK .normal e' xs) : e' = .normal ∧ xs = [] := by
  cases e' <;> simp_all [XOK]

theorem wp_one {ops : Array Oper} {i : Nat} {op : Oper} {rest : List Nat} {Q : Exit → Act → World → Prop} {a : Act} {w : World} (ho : ops[i]? = some op) (hw : Region.wanted op (yielded ops a.tmps) = true)
    (h : op.wp P a w (wpOps P ops Q rest) Q) : wpOps P ops Q (i :: rest) a w := by
  simp only [wpOps, ho, hw, if_true]
  exact .inl h

theorem holds (j : Job) (h : Ev P G j) : HoldsL P G j := by
  induction h with
  | nil st =>
    intro ops is hops w0 R0 L0 a w hinv
    have : is = [] := List.eq_nil_of_length_eq_zero (by simpa using hops.1)
    subst this
    exact ⟨[], rfl, hinv⟩
  | skip o rest st st' e hg _ ih =>
    intro ops is hops w0 R0 L0 a w hinv
    obtain ⟨i, is', op, rfl, h1, h2, h3⟩ := hops.cons
    obtain ⟨R, L, hs, hr, hgl, hst, hd, hn, _⟩ := hinv
    have hw := guard_ok h2 hs hg
    simp only [wpOps, h1, hw, Bool.false_eq_true, if_false]
    refine ih ops is' h3 w0 R0 L0 _ w ?_
    rw [h2.1]
    exact Inv.step hs hr hgl hst hd hn (Step.refl w R L) hr (.fr _ _ (.c undef)) o.dst
  | op o ao rest st st' e x rows' hg ho ha _ ih =>
    intro ops is hops w0 R0 L0 a w hinv
    obtain ⟨i, is', op, rfl, h1, h2, h3⟩ := hops.cons
    obtain ⟨R, L, hs, hr, hgl, hst, hd, hn, _⟩ := hinv
    refine wp_one h1 (guard_ok h2 hs hg) ?_
    have hact := h2.2.1
    rw [ho] at hact
    obtain ⟨v, w', R', L', hrun, hv, hr', hst'⟩ := aop_does (G := G) hact ha w R L a hs hr hgl
    have hinv' := Inv.step hs hr hgl hst hd hn hst' hr' hv o.dst
    rw [← h2.1] at hinv'
    unfold Oper.wp
    rcases hrun with hrun | ⟨hrun, rfl⟩
    · rw [hrun]
      exact ih ops is' h3 w0 R0 L0 _ w' (h2.1 ▸ hinv')
    · rw [hrun]
      exact ih ops is' h3 w0 R0 L0 _ w' (h2.1 ▸ hinv')
  | call o f args rest st st' e ids r rows1 hg ho hi _ _ ihc ih =>
    intro ops is hops w0 R0 L0 a w hinv
    obtain ⟨i, is', op, rfl, h1, h2, h3⟩ := hops.cons
    obtain ⟨R, L, hs, hr, hgl, hst, hd, hn, _⟩ := hinv
    refine wp_one h1 (guard_ok h2 hs hg) ?_
    have hact := h2.2.1
    rw [ho] at hact
    obtain ⟨args', tys, hop, hargs, hcal⟩ := hact
    unfold Oper.wp
    rw [run_call hop hcal a w, Oper.upon_enter]
    have hvs : VRs w R (subL L ids) (args.map fun x => (x.ev st.slots).ren 6 (posIn ids)) (args'.map a.eval) := by
      have := (VRs.of_args hs args').ren (subL_ren (L := L) (ids := ids)) 6
      rw [← hargs, List.map_map] at this
      exact this
    refine (ihc w R (subL L ids) (args'.map a.eval) hvs (sub_rows hr hi) hgl).mono fun en w1 hpost => ?_
    obtain ⟨R1, L1, hst1, hgl1, v, rfl, hv, hr1⟩ := hpost
    obtain ⟨hstep, hrows, hren⟩ := back_call hr hi hst1 hr1
    have hinv' := Inv.step hs hr hgl hst hd hn hstep hrows (ren_vr _ hren 6 hv) o.dst
    exact ih ops is' h3 w0 R0 L0 _ w1 (h2.1 ▸ hinv')
  | callA o f args rest st st' e r rows1 hg ho _ _ ihc ih =>
    intro ops is hops w0 R0 L0 a w hinv
    obtain ⟨i, is', op, rfl, h1, h2, h3⟩ := hops.cons
    obtain ⟨R, L, hs, hr, hgl, hst, hd, hn, _⟩ := hinv
    refine wp_one h1 (guard_ok h2 hs hg) ?_
    have hact := h2.2.1
    rw [ho] at hact
    obtain ⟨args', tys, hop, hargs, hcal⟩ := hact
    unfold Oper.wp
    rw [run_call hop hcal a w, Oper.upon_enter]
    refine (ihc w R L _ (hargs ▸ VRs.of_args hs args') hr hgl).mono fun en w1 hpost => ?_
    obtain ⟨R1, L1, hst1, hgl1, v, rfl, hv, hr1⟩ := hpost
    have hinv' := Inv.step hs hr hgl hst hd hn hst1 hr1 hv o.dst
    exact ih ops is' h3 w0 R0 L0 _ w1 (h2.1 ▸ hinv')
  | callAPanic o f args rest st x rows1 hg ho _ ihc =>
    intro ops is hops w0 R0 L0 a w hinv
    obtain ⟨i, is', op, rfl, h1, h2, h3⟩ := hops.cons
    obtain ⟨R, L, hs, hr, hgl, hst, hd, hn, _⟩ := hinv
    refine wp_one h1 (guard_ok h2 hs hg) ?_
    have hact := h2.2.1
    rw [ho] at hact
    obtain ⟨args', tys, hop, hargs, hcal⟩ := hact
    unfold Oper.wp
    rw [run_call hop hcal a w, Oper.upon_enter]
    refine (ihc w R L _ (hargs ▸ VRs.of_args hs args') hr hgl).mono fun en w1 hpost => ?_
    obtain ⟨R1, L1, hst1, hgl1, v, rfl, hv, hr1⟩ := hpost
    refine ⟨[(x, v)], ⟨v, rfl, rfl⟩, R1, _, hs.mono fun _ _ => hst1.vr hr, hr1, hgl.step hr hst1, hst.trans hst1, hd.mono fun _ _ => hst1.vr hr, hn, fun p hp => ?_⟩
    simp only [List.mem_singleton] at hp
    subst hp
    exact hv
  | callvA o fx f caps args rest st st' e r rows1 hg ho hf hcal _ _ ihc ih =>
    intro ops is hops w0 R0 L0 a w hinv
    obtain ⟨i, is', op, rfl, h1, h2, h3⟩ := hops.cons
    obtain ⟨R, L, hs, hr, hgl, hst, hd, hn, _⟩ := hinv
    refine wp_one h1 (guard_ok h2 hs hg) ?_
    have hact := h2.2.1
    rw [ho] at hact
    obtain ⟨f', args', tys, hop, rfl, hargs⟩ := hact
    obtain ⟨cs, hfv, hcs⟩ := fnOf_vr hf (hs.ev f')
    unfold Oper.wp
    rw [run_callv hop hcal a w hfv, Oper.upon_enter]
    refine (ihc w R L _ ((hargs ▸ VRs.of_args hs args').append hcs) hr hgl).mono fun en w1 hpost => ?_
    obtain ⟨R1, L1, hst1, hgl1, v, rfl, hv, hr1⟩ := hpost
    have hinv' := Inv.step hs hr hgl hst hd hn hst1 hr1 hv o.dst
    exact ih ops is' h3 w0 R0 L0 _ w1 (h2.1 ▸ hinv')
  | callvAPanic o fx f caps args rest st x rows1 hg ho hf hcal _ ihc =>
    intro ops is hops w0 R0 L0 a w hinv
    obtain ⟨i, is', op, rfl, h1, h2, h3⟩ := hops.cons
    obtain ⟨R, L, hs, hr, hgl, hst, hd, hn, _⟩ := hinv
    refine wp_one h1 (guard_ok h2 hs hg) ?_
    have hact := h2.2.1
    rw [ho] at hact
    obtain ⟨f', args', tys, hop, rfl, hargs⟩ := hact
    obtain ⟨cs, hfv, hcs⟩ := fnOf_vr hf (hs.ev f')
    unfold Oper.wp
    rw [run_callv hop hcal a w hfv, Oper.upon_enter]
    refine (ihc w R L _ ((hargs ▸ VRs.of_args hs args').append hcs) hr hgl).mono fun en w1 hpost => ?_
    obtain ⟨R1, L1, hst1, hgl1, v, rfl, hv, hr1⟩ := hpost
    refine ⟨[(x, v)], ⟨v, rfl, rfl⟩, R1, _, hs.mono fun _ _ => hst1.vr hr, hr1, hgl.step hr hst1, hst.trans hst1, hd.mono fun _ _ => hst1.vr hr, hn, fun p hp => ?_⟩
    simp only [List.mem_singleton] at hp
    subst hp
    exact hv
  | callPanic o f args rest st ids x rows1 hg ho hi _ ihc =>
    intro ops is hops w0 R0 L0 a w hinv
    obtain ⟨i, is', op, rfl, h1, h2, h3⟩ := hops.cons
    obtain ⟨R, L, hs, hr, hgl, hst, hd, hn, _⟩ := hinv
    refine wp_one h1 (guard_ok h2 hs hg) ?_
    have hact := h2.2.1
    rw [ho] at hact
    obtain ⟨args', tys, hop, hargs, hcal⟩ := hact
    unfold Oper.wp
    rw [run_call hop hcal a w, Oper.upon_enter]
    have hvs : VRs w R (subL L ids) (args.map fun x => (x.ev st.slots).ren 6 (posIn ids)) (args'.map a.eval) := by
      have := (VRs.of_args hs args').ren (subL_ren (L := L) (ids := ids)) 6
      rw [← hargs, List.map_map] at this
      exact this
    refine (ihc w R (subL L ids) (args'.map a.eval) hvs (sub_rows hr hi) hgl).mono fun en w1 hpost => ?_
    obtain ⟨R1, L1, hst1, hgl1, v, rfl, hv, hr1⟩ := hpost
    obtain ⟨hstep, hrows, hren⟩ := back_call hr hi hst1 hr1
    refine ⟨[(x.ren 6 (backRen ids st.rows.length), v)], ⟨v, rfl, rfl⟩, R1, _, hs.mono fun _ _ => hstep.vr hr, hrows, hgl.step hr hstep, hst.trans hstep, hd.mono fun _ _ => hstep.vr hr, hn, fun p hp => ?_⟩
    simp only [List.mem_singleton] at hp
    subst hp
    exact ren_vr _ hren 6 hv
  | callv o fx f caps args rest st st' e ids r rows1 hg ho hf hcal hi _ _ ihc ih =>
    intro ops is hops w0 R0 L0 a w hinv
    obtain ⟨i, is', op, rfl, h1, h2, h3⟩ := hops.cons
    obtain ⟨R, L, hs, hr, hgl, hst, hd, hn, _⟩ := hinv
    refine wp_one h1 (guard_ok h2 hs hg) ?_
    have hact := h2.2.1
    rw [ho] at hact
    obtain ⟨f', args', tys, hop, rfl, hargs⟩ := hact
    obtain ⟨cs, hfv, hcs⟩ := fnOf_vr hf (hs.ev f')
    unfold Oper.wp
    rw [run_callv hop hcal a w hfv, Oper.upon_enter]
    have hvs : VRs w R (subL L ids) ((args.map (Opd.ev st.slots) ++ caps).map fun x => x.ren 6 (posIn ids)) (args'.map a.eval ++ cs) := by
      rw [hargs]
      exact ((VRs.of_args hs args').append hcs).ren (subL_ren (L := L) (ids := ids)) 6
    refine (ihc w R (subL L ids) _ hvs (sub_rows hr hi) hgl).mono fun en w1 hpost => ?_
    obtain ⟨R1, L1, hst1, hgl1, v, rfl, hv, hr1⟩ := hpost
    obtain ⟨hstep, hrows, hren⟩ := back_call hr hi hst1 hr1
    have hinv' := Inv.step hs hr hgl hst hd hn hstep hrows (ren_vr _ hren 6 hv) o.dst
    exact ih ops is' h3 w0 R0 L0 _ w1 (h2.1 ▸ hinv')
  | callL o f args args' m rest st st' e r r' rows1 hg ho hl _ hp _ ihc ih =>
    intro ops is hops w0 R0 L0 a w hinv
    obtain ⟨i, is', op, rfl, h1, h2, h3⟩ := hops.cons
    obtain ⟨R, L, hs, hr, hgl, hst, hd, hn, _⟩ := hinv
    refine wp_one h1 (guard_ok h2 hs hg) ?_
    have hact := h2.2.1
    rw [ho] at hact
    obtain ⟨ops', tys, hop, hargs, hcal⟩ := hact
    unfold Oper.wp
    rw [run_call hop hcal a w, Oper.upon_enter]
    have hvs := VRs.lend hr (hargs ▸ VRs.of_args hs ops') hl
    refine (ihc w _ unbornL _ hvs (unborn_rows hr (lentOf m)) (hgl.lent (lentOf m))).mono fun en w1 hpost => ?_
    obtain ⟨R1, L1, hst1, hgl1, v, rfl, hv, hr1⟩ := hpost
    obtain ⟨R2, hstep, hrows, hv2, hR2⟩ := lent_back2 hr hst1 hr1 hv hp
    have hinv' := Inv.step (st := st) hs hr hgl hst hd hn hstep hrows hv2 o.dst
    exact ih ops is' h3 w0 R0 L0 _ w1 (h2.1 ▸ hinv')
  | callvL o fx f caps args args' m rest st st' e r r' rows1 hg ho hf hcal hl _ hp _ ihc ih =>
    intro ops is hops w0 R0 L0 a w hinv
    obtain ⟨i, is', op, rfl, h1, h2, h3⟩ := hops.cons
    obtain ⟨R, L, hs, hr, hgl, hst, hd, hn, _⟩ := hinv
    refine wp_one h1 (guard_ok h2 hs hg) ?_
    have hact := h2.2.1
    rw [ho] at hact
    obtain ⟨f', ops', tys, hop, rfl, hargs⟩ := hact
    obtain ⟨cs, hfv, hcs⟩ := fnOf_vr hf (hs.ev f')
    unfold Oper.wp
    rw [run_callv hop hcal a w hfv, Oper.upon_enter]
    have hvs := VRs.lend hr ((hargs ▸ VRs.of_args hs ops').append hcs) hl
    refine (ihc w _ unbornL _ hvs (unborn_rows hr (lentOf m)) (hgl.lent (lentOf m))).mono fun en w1 hpost => ?_
    obtain ⟨R1, L1, hst1, hgl1, v, rfl, hv, hr1⟩ := hpost
    obtain ⟨R2, hstep, hrows, hv2, hR2⟩ := lent_back2 hr hst1 hr1 hv hp
    have hinv' := Inv.step (st := st) hs hr hgl hst hd hn hstep hrows hv2 o.dst
    exact ih ops is' h3 w0 R0 L0 _ w1 (h2.1 ▸ hinv')
  | panic o x t y rest st hg ho hx =>
    intro ops is hops w0 R0 L0 a w hinv
    obtain ⟨i, is', op, rfl, h1, h2, h3⟩ := hops.cons
    obtain ⟨R, L, hs, hr, hgl, hst, hd, hn, _⟩ := hinv
    refine wp_one h1 (guard_ok h2 hs hg) ?_
    have hact := h2.2.1
    rw [ho] at hact
    obtain ⟨x', hop, rfl⟩ := hact
    have hv := hs.ev x'
    rw [hx] at hv
    obtain ⟨u, hu, hyu⟩ := hv.ifc_inv
    unfold Oper.wp
    have hrun : (execOp a.eval op).run P w = .halt (.panic (.iface t u)) w := by simp [execOp, hop, hu, Instr.panic, goPanic, Sem.run, Result.andThen]
    rw [hrun, Oper.upon_panic]
    refine ⟨[(.ifc t y, .iface t u)], ⟨_, rfl, rfl⟩, R, L, hs, hr, hgl, hst, hd, hn, fun p hp => ?_⟩
    simp only [List.mem_singleton] at hp
    subst hp
    exact .ifc t y u hyu
  | defer o fx f caps rest st st' e hg ho hf _ ih =>
    intro ops is hops w0 R0 L0 a w hinv
    obtain ⟨i, is', op, rfl, h1, h2, h3⟩ := hops.cons
    obtain ⟨R, L, hs, hr, hgl, hst, hd, hn, _⟩ := hinv
    refine wp_one h1 (guard_ok h2 hs hg) ?_
    have hact := h2.2.1
    rw [ho] at hact
    obtain ⟨f', tys, hop, rfl⟩ := hact
    obtain ⟨cs, hfv, hcs⟩ := fnOf_vr hf (hs.ev f')
    unfold Oper.wp
    have hrun : (execOp a.eval op).run P w = .ok (.defer { target := .fn (.func f) cs, args := #[] }) w := by simp [execOp, hop, resolve, hfv, Deferred.ofValue]
    rw [hrun, Oper.upon_defer]
    have hd' : DefsOK w R L ((f, caps) :: st.defers) ({ target := .fn (.func f) cs, args := #[] } :: a.defers) := by
      refine ⟨by simp [hd.1], fun k d ad hk hk' => ?_⟩
      cases k with
      | zero =>
        simp at hk hk'
        subst hk hk'
        exact ⟨cs, rfl, hcs.1, hcs.2⟩
      | succ k => exact hd.2 k d ad (by simpa using hk) (by simpa using hk')
    have hinv' : Inv G w0 R0 L0 ({ st with defers := (f, caps) :: st.defers }.put o.dst (.c undef)) (({ a with defers := { target := .fn (.func f) cs, args := #[] } :: a.defers } : Act).put o.dst undef) w [] :=
      Inv.step (st := { st with defers := (f, caps) :: st.defers }) (a := { a with defers := { target := .fn (.func f) cs, args := #[] } :: a.defers }) hs hr hgl hst hd' hn (Step.refl w R L) hr (.fr _ _ (.c undef)) o.dst
    exact ih ops is' h3 w0 R0 L0 _ w (h2.1 ▸ hinv')
  | weakOps l st st1 st' e hw _ ih =>
    intro ops is hops w0 R0 L0 a w hinv
    exact ih ops is hops w0 R0 L0 a w (hw _ _ _ _ _ _ hinv)
  | cskip st =>
    intro code hc w0 R0 L0 a w hinv
    cases code <;> simp only [CodeOK] at hc
    exact ⟨wp_skip ⟨[], rfl, hinv⟩, fun body hb => by cases hb⟩
  | reg l st st' e _ ih =>
    intro code hc w0 R0 L0 a w hinv
    cases code <;> simp only [CodeOK] at hc
    rename_i id ops d
    obtain ⟨rfl, hops⟩ := hc
    refine ⟨wp_region ?_, fun body hb => by cases hb⟩
    exact ih ops _ hops w0 R0 L0 a w hinv
  | drawn l st st' σ hm hdn h0 h1 _ ih =>
    intro code hc w0 R0 L0 a w hinv
    cases code <;> simp only [CodeOK] at hc
    rename_i id ops d
    obtain ⟨rfl, hops⟩ := hc
    refine ⟨?_, fun body hb => by cases hb⟩
    refine wp_region_any hm ?_
    have hl : l.length = ops.size := by have := hops.1; simpa using this.symm
    have hfalse : (fun k => (Array.replicate ops.size false).getD k false) = fun _ => false := by
      funext k
      by_cases hk : k < ops.size <;> simp [Array.getD, hk]
    refine any_order hops (fun S a w => Inv G w0 R0 L0 (σ S) a w []) hdn (fun S a w hS hI => ⟨[], rfl, h1 S hS ▸ hI⟩) ?_ ops.size _ a _ (by simp) ?_ ?_ ?_
    · intro S i o hi hSi hpre hdS a w hI
      have hone := ih S i o hi hSi hpre hdS ops [i] (hops.one hi).1 w0 R0 L0 a w hI
      rw [wpOps_cons] at hone
      refine wpOp_post (fun a' w' hp => ?_) (fun e a' w' he hp => ?_) (fun hlo => ?_) hone
      · obtain ⟨xs, hx, hi'⟩ := (show Post G w0 R0 L0 .normal _ .normal a' w' from hp)
        simp only [XOK] at hx
        subst hx
        exact hi'
      · obtain ⟨xs, hx, _⟩ := hp
        cases e <;> simp only [XOK] at hx
        exact absurd rfl he
      · obtain ⟨a', w', xs, hx, _⟩ := hlo
        simp only [XOK] at hx
    · refine Nat.le_trans List.countP_le_length (by simp)
    · rw [hfalse]
      intro i o hi hf
      cases hf
    · rw [hfalse, h0]
      exact hinv.drawn _
  | seq x y st st1 st' e _ _ ih1 ih2 =>
    intro code hc w0 R0 L0 a w hinv
    cases code <;> simp only [CodeOK] at hc
    rename_i a1 a2
    refine ⟨wp_seq (wp_mono (ih1 a1 hc.1 w0 R0 L0 a w hinv).1 fun e' a' w' hp => ?_), fun body hb => by cases hb⟩
    obtain ⟨xs, hx, hi⟩ := hp
    obtain ⟨rfl, rfl⟩ := hx.normal
    exact (ih2 a2 hc.2 w0 R0 L0 a' w' hi).1
  | seqX x y st st' e he _ ih =>
    intro code hc w0 R0 L0 a w hinv
    cases code <;> simp only [CodeOK] at hc
    rename_i a1 a2
    refine ⟨wp_seq (wp_mono (ih a1 hc.1 w0 R0 L0 a w hinv).1 fun e' a' w' hp => ?_), fun body hb => by cases hb⟩
    obtain ⟨xs, hx, hi⟩ := hp
    cases e <;> cases e' <;> simp only [XOK] at hx <;> first | exact absurd rfl he | exact ⟨xs, hx, hi⟩
  | cond c x y b st st' e hcb _ ih =>
    intro code hc w0 R0 L0 a w hinv
    cases code <;> simp only [CodeOK] at hc
    rename_i c' a1 a2
    obtain ⟨rfl, h1, h2⟩ := hc
    have hcv : a.eval c' = .bool b := by
      obtain ⟨R, L, hs, _⟩ := hinv
      have := hs.ev c'
      rw [hcb] at this
      exact this.of_c
    refine ⟨wp_cond hcv ?_, fun body hb => by cases hb⟩
    cases b
    · exact (ih a2 h2 w0 R0 L0 a w hinv).1
    · exact (ih a1 h1 w0 R0 L0 a w hinv).1
  | block i x st st' e he _ ih =>
    intro code hc w0 R0 L0 a w hinv
    cases code <;> simp only [CodeOK] at hc
    rename_i i' a1
    obtain ⟨rfl, h1⟩ := hc
    refine ⟨wp_block (wp_mono (ih a1 h1 w0 R0 L0 a w hinv).1 fun e' a' w' hp => ?_), fun body hb => by cases hb⟩
    obtain ⟨xs, hx, hi⟩ := hp
    cases e <;> cases e' <;> simp only [XOK] at hx
    · exact ⟨xs, hx, hi⟩
    · obtain ⟨rfl, hx⟩ := hx
      simp only [Exit.inBlock]
      rw [if_neg (he _ rfl)]
      exact ⟨xs, ⟨rfl, hx⟩, hi⟩
    · exact ⟨xs, hx, hi⟩
    · exact ⟨xs, hx, hi⟩
  | blockX i x st st' _ ih =>
    intro code hc w0 R0 L0 a w hinv
    cases code <;> simp only [CodeOK] at hc
    rename_i i' a1
    obtain ⟨rfl, h1⟩ := hc
    refine ⟨wp_block (wp_mono (ih a1 h1 w0 R0 L0 a w hinv).1 fun e' a' w' hp => ?_), fun body hb => by cases hb⟩
    obtain ⟨xs, hx, hi⟩ := hp
    cases e' <;> simp only [XOK] at hx
    obtain ⟨rfl, hx⟩ := hx
    simp only [Exit.inBlock, if_true]
    exact ⟨xs, hx, hi⟩
  | loop m x st st1 st2 st' e _ hw _ ih1 ih2 =>
    intro code hc w0 R0 L0 a w hinv
    cases code <;> simp only [CodeOK] at hc
    rename_i a1
    have key : InL P a1 (Post G w0 R0 L0 e st') a w := inL_round (wp_mono (ih1 a1 hc w0 R0 L0 a w hinv).1 fun e' a' w' hp => by
      obtain ⟨xs, hx, hi⟩ := hp
      obtain ⟨rfl, rfl⟩ := hx.normal
      exact (ih2 (.loop a1) hc w0 R0 L0 a' w' (hw _ _ _ _ _ _ hi)).2 a1 rfl)
    exact ⟨inL_wp key, fun body hb => by injection hb with hb; subst hb; exact key⟩
  | loopX m x st st' e he _ ih =>
    intro code hc w0 R0 L0 a w hinv
    cases code <;> simp only [CodeOK] at hc
    rename_i a1
    have key : InL P a1 (Post G w0 R0 L0 e st') a w := inL_round (wp_mono (ih a1 hc w0 R0 L0 a w hinv).1 fun e' a' w' hp => by
      obtain ⟨xs, hx, hi⟩ := hp
      cases e <;> cases e' <;> simp only [XOK] at hx <;> first | exact absurd rfl he | exact ⟨xs, hx, hi⟩)
    exact ⟨inL_wp key, fun body hb => by injection hb with hb; subst hb; exact key⟩
  | exit i st =>
    intro code hc w0 R0 L0 a w hinv
    cases code <;> simp only [CodeOK] at hc
    subst hc
    exact ⟨wp_exit ⟨[], ⟨rfl, rfl⟩, hinv⟩, fun body hb => by cases hb⟩
  | cret st =>
    intro code hc w0 R0 L0 a w hinv
    cases code <;> simp only [CodeOK] at hc
    exact ⟨wp_ret ⟨[], rfl, hinv⟩, fun body hb => by cases hb⟩
  | weak c st st1 st' e hw _ ih =>
    intro code hc w0 R0 L0 a w hinv
    exact ih code hc w0 R0 L0 a w (hw _ _ _ _ _ _ hinv)
  | weakEnd c st st1 st' _ hw ih =>
    intro code hc w0 R0 L0 a w hinv
    have hm : ∀ e' a' w', Post G w0 R0 L0 .normal st1 e' a' w' → Post G w0 R0 L0 .normal st' e' a' w' := fun e' a' w' ⟨xs, hx, hi⟩ => by
      obtain ⟨rfl, rfl⟩ := hx.normal
      exact ⟨[], rfl, hw _ _ _ _ _ _ hi⟩
    obtain ⟨h1, h2⟩ := ih code hc w0 R0 L0 a w hinv
    exact ⟨wp_mono h1 hm, fun body hb => inL_mono (h2 body hb) hm⟩
  | body f afn args rows st' e r r' rows' hf hn _ he hd hr' hx ih =>
    intro w R L vs hvs hrows hgl
    obtain ⟨fn, c, h1, h2, h3, h4, h5, h6⟩ := hf.ex
    refine calls_of_wp h1 h2 ?_
    have hinv := entry_ok (G := G) hvs hrows hgl afn
    rw [← h4] at hinv
    refine wp_mono (ih c h3 w R L _ w hinv).1 fun e' a' w' hp => ?_
    obtain ⟨xs, hxok, hi⟩ := hp
    have hfin : a'.defers = [] ∧ ∃ v, (results fn a'.tmps).run P w' = .ok v w' ∧ CallPost G w R L (.ret r' rows') (.returned v) w' := by
      obtain ⟨R', L', hs', hrr, hg', hst', hd', hn', _⟩ := hi
      obtain ⟨v, hv1, hv2⟩ := results_run hs' hrr h5 h6 hr'
      refine ⟨by have := hd'.1; rw [hd] at this; exact List.eq_nil_of_length_eq_zero (by simpa using this), v, hv1, ?_⟩
      obtain ⟨R'', L'', h7, h8, h9, h10⟩ := hx w R L a' w' v ⟨R', L', hs', hrr, hg', hst', hd', hn', fun p hp => by simp only [List.mem_singleton] at hp; subst hp; exact hv2⟩
      exact ⟨R'', L'', h7, h8, v, rfl, h9, h10⟩
    rcases he with rfl | rfl
    · obtain ⟨rfl, _⟩ := hxok.normal
      exact hfin
    · cases e' <;> simp only [XOK] at hxok
      exact hfin
  | bodyPanic f afn args rows st' x x' rows' hf hn _ hd hx ih =>
    intro w R L vs hvs hrows hgl
    obtain ⟨fn, c, h1, h2, h3, h4, h5, h6⟩ := hf.ex
    refine calls_of_wp h1 h2 ?_
    have hinv := entry_ok (G := G) hvs hrows hgl afn
    rw [← h4] at hinv
    refine wp_mono (ih c h3 w R L _ w hinv).1 fun e' a' w' hp => ?_
    obtain ⟨xs, hxok, hi⟩ := hp
    cases e' <;> simp only [XOK] at hxok
    obtain ⟨v, rfl, rfl⟩ := hxok
    obtain ⟨R', L', hs', hrr, hg', hst', hd', hn', hxs⟩ := hi
    refine ⟨by have := hd'.1; rw [hd] at this; exact List.eq_nil_of_length_eq_zero (by simpa using this), ?_⟩
    obtain ⟨R'', L'', h7, h8, h9, h10⟩ := hx w R L a' w' v ⟨R', L', hs', hrr, hg', hst', hd', hn', hxs⟩
    exact ⟨R'', L'', h7, h8, v, rfl, h9, h10⟩
  | bodyD f afn args rows st1 e y g caps gfn o more rest sg st2 e2 r r' rows' hf hn _ he hd hcal hg hgc hgo hgg hgr hng _ _ he2 hd2 hr' hx ih ih1 ih2 =>
    intro w R L vs hvs hrows hgl
    obtain ⟨fn, c, h1, h2, h3, h4, h5, h6⟩ := hf.ex
    obtain ⟨gn, cg, k1, k2, k3, k4, k5, k6⟩ := hg.ex
    refine calls_of_wp_defers h1 h2 ?_
    have hinv := entry_ok (G := G) hvs hrows hgl afn
    rw [← h4] at hinv
    refine wp_mono (ih c h3 w R L _ w hinv).1 fun e' a' w' hp => ?_
    obtain ⟨xs, hxok, R', L', hs', hrr, hg', hst', hd', hn', hxs⟩ := hp
    have main : ∀ (u : FrameMode) (vy : Value), ((u = .returning ∧ vy = .nilIface) ∨ u = .panicking [{ v := vy, recovered := false }]) → VR w' R' L' y vy → Leaves P fn a'.tmps (CallPost G w R L (.ret r' rows')) a'.defers u w' := by
      intro u vy hu hvy
      have hlen := hd'.1
      rw [hd] at hlen hd'
      obtain ⟨ad, had⟩ : ∃ ad, a'.defers = [ad] := by
        cases hq : a'.defers with
        | nil => rw [hq] at hlen; simp at hlen
        | cons x l => rw [hq] at hlen; simp at hlen; subst hlen; exact ⟨x, rfl⟩
      rw [had] at hd' ⊢
      obtain ⟨cs, rfl, hc1, hc2⟩ := hd'.2 0 (g, caps) ad rfl rfl
      refine leaves_cons (by rcases hu with ⟨rfl, _⟩ | rfl <;> simp) (f := g) (args := cs) (by simp [invoke, run_callFunc hcal]) ?_
      refine callsD_of_wpS k1 k2 fun c₀ css hc₀ => ?_
      rw [hgc] at k3
      cases cg <;> simp only [CodeOK] at k3
      rename_i x1 x2
      obtain ⟨k3a, k3b⟩ := k3
      cases x1 <;> simp only [CodeOK] at k3a
      rename_i id ops dr
      obtain ⟨rfl, hops⟩ := k3a
      obtain ⟨i, is', op, hsz, q1, q2, q3⟩ := hops.cons
      refine wpS_seq (wpS_region ?_)
      rw [hsz]
      have hact := q2.2.1
      rw [hgo] at hact
      obtain ⟨tys, hop⟩ := hact
      have hw : Region.wanted op (yielded ops (cs ++ Array.replicate (gn.ntmps - cs.size) undef)) = true := by
        have := q2.2.2
        rw [hgg] at this
        unfold Region.wanted
        cases hog : op.guard with
        | none => rfl
        | some q => rw [hog] at this; exact this.elim
      have hrun : ∀ (a : Act), (execOp a.eval op).run P w' = .ok .recover w' := fun a => by simp [execOp, hop, resolve, Deferred.ofValue, invoke, builtin]
      have tail : ∀ (u' : FrameMode), settle u' = .returning → wpOpsS P ops (Exit.thenS (x2.wpS P (bodyPostS P gn c₀ css fun | .returned _, u', w' => Leaves P fn a'.tmps (CallPost G w R L (.ret r' rows')) [] (settle u') w' | .panicked chain, u', w' => Leaves P fn a'.tmps (CallPost G w R L (.ret r' rows')) [] (raised u' chain) w' | .outgrown, _, w' => CallPost G w R L (.ret r' rows') .outgrown w'))
          (bodyPostS P gn c₀ css fun | .returned _, u', w' => Leaves P fn a'.tmps (CallPost G w R L (.ret r' rows')) [] (settle u') w' | .panicked chain, u', w' => Leaves P fn a'.tmps (CallPost G w R L (.ret r' rows')) [] (raised u' chain) w' | .outgrown, _, w' => CallPost G w R L (.ret r' rows') .outgrown w'))
          is' (({ tmps := cs ++ Array.replicate (gn.ntmps - cs.size) undef, defers := [] } : Act).put op.dst vy) ({ c₀ with mode := u' } :: css) w' := by
        intro u' hset
        have hno : ∀ w'', ¬ CallPost G w R L (.ret r' rows') .outgrown w'' := by
          rintro w'' ⟨_, _, _, _, v, hv, _⟩
          cases hv
        refine opsS_of (fun a w'' hq => ?_) is' _ w' ?_
        · obtain ⟨u'', hq⟩ := hq
          exact hno _ hq
        have hputI : Inv G w' R' L' ((entry gfn caps st1.rows).put o.dst y) (({ tmps := cs ++ Array.replicate (gn.ntmps - cs.size) undef, defers := [] } : Act).put op.dst vy) w' [] := by
          have hsl := entry_slots (w := w') (R := R') (L := L') (args := caps) (vs := cs) ⟨hc1, hc2⟩ gfn st1.rows
          rw [← k4] at hsl
          rw [q2.1]
          exact Inv.step (G := G) (st := entry gfn caps st1.rows) (a := { tmps := cs ++ Array.replicate (gn.ntmps - cs.size) undef, defers := [] }) hsl hrr hg' (Step.refl w' R' L') (entry_defs gfn caps st1.rows) (fun k hk => hrr.none k hk) (Step.refl w' R' L') hrr hvy o.dst
        refine wpOps_post (fun e3 a3 w3 hp3 => ?_) is' _ w' (ih1 ops is' q3 w' R' L' _ w' hputI)
        obtain ⟨xs3, hx3, hi3⟩ := hp3
        obtain ⟨rfl, rfl⟩ := hx3.normal
        refine wpS_of_wp (wp_mono (ih2 x2 k3b w' R' L' a3 w3 hi3).1 fun e4 a4 w4 hp4 => ?_)
        obtain ⟨xs4, hx4, R4, L4, s4, r4, g4, st4, d4, n4, _⟩ := hp4
        have hfin : a4.defers = [] ∧ ∃ u'', (({ c₀ with mode := u' } : Frame) :: css) = { c₀ with mode := u'' } :: css ∧ ∃ v, (results gn a4.tmps).run P w4 = .ok v w4 ∧ Leaves P fn a'.tmps (CallPost G w R L (.ret r' rows')) [] (settle u'') w4 := by
          refine ⟨by have := d4.1; rw [hd2] at this; exact List.eq_nil_of_length_eq_zero (by simpa using this), u', rfl, ?_⟩
          obtain ⟨v, hv1, _⟩ := results_run (st := st2) s4 r4 k5 k6 (x := .tup []) (by rw [hgr]; rfl)
          refine ⟨v, hv1, ?_⟩
          rw [hset]
          have hs5 : SlotsOK w4 R4 L4 st1.slots a'.tmps := hs'.mono fun _ _ => st4.vr hrr
          obtain ⟨v5, hv5, hv6⟩ := results_run (st := { slots := st1.slots, rows := st2.rows, np := st1.np, defers := [] }) hs5 r4 h5 h6 hr'
          refine ⟨v5, hv5, ?_⟩
          obtain ⟨R6, L6, e1, e2, e3, e4⟩ := hx w R L { tmps := a'.tmps, defers := [] } w4 v5 ⟨R4, L4, hs5, r4, g4, hst'.trans st4, ⟨rfl, fun i d ad hd => by simp at hd⟩, hn', fun p hp => by simp only [List.mem_singleton] at hp; subst hp; exact hv6⟩
          exact ⟨R6, L6, e1, e2, v5, rfl, e3, e4⟩
        rcases he2 with rfl | rfl
        · obtain ⟨rfl, _⟩ := hx4.normal
          exact hfin
        · cases e4 <;> simp only [XOK] at hx4
          exact hfin
      unfold wpOpsS
      simp only [q1, hw, if_true, hrun]
      rcases hu with ⟨rfl, rfl⟩ | rfl
      · have : recoverD (c₀ :: css) = none := by simp [recoverD, hc₀]
        rw [this]
        have ht := tail .returning rfl
        rw [← hc₀] at ht
        exact ht
      · have : recoverD (c₀ :: css) = some (vy, { c₀ with mode := .panicking [{ v := vy, recovered := true }] } :: css) := by simp [recoverD, hc₀]
        rw [this]
        exact tail (.panicking [{ v := vy, recovered := true }]) (by simp [settle])
    rcases he with ⟨he, rfl⟩ | rfl
    · rcases he with rfl | rfl
      · obtain ⟨rfl, _⟩ := hxok.normal
        exact main .returning .nilIface (.inl ⟨rfl, rfl⟩) (.fr _ _ (.c _))
      · cases e' <;> simp only [XOK] at hxok
        exact main .returning .nilIface (.inl ⟨rfl, rfl⟩) (.fr _ _ (.c _))
    · cases e' <;> simp only [XOK] at hxok
      obtain ⟨v, rfl, rfl⟩ := hxok
      exact main _ v (.inr rfl) (hxs (y, v) (by simp))
  | prim f args rows res h => exact h

/-- **The law for calls.** -/
theorem call_holds {f : FuncId} {args : List AV} {rows : List Row} {res : CRes} (h : Ev P G (.call f args rows res)) : CallOK P G f args rows res := holds _ h

end
end
end Go.Proofs.Ytfcfdedbbhdioaa.AI
