/- AI 23: the run is right. -/
import Derived.Test.YtfcfdedbbhdioaaAi22
namespace Go.Proofs.Ytfcfdedbbhdioaa.AI
noncomputable section
open Go
set_option linter.unusedVariables false
set_option linter.unusedSimpArgs false

section
variable {P : Program} {G : List (Nat × Obj)} {C : Cfg}

theorem exportRes_sound {keep : Bool} {r0 : RSt} {r r' : AV} {rows' : List Row} (h : exportRes keep r0 r = .ok (r', rows')) (s : List AV) : Exports G (r0.to s) r r' rows' := by
  unfold exportRes at h
  split at h
  · rename_i hc
    simp only [Bool.and_eq_true, decide_eq_true_eq] at hc
    simp only [Out.ok.injEq, Prod.mk.injEq] at h
    obtain ⟨rfl, rfl⟩ := h
    exact exports_pur hc.1 hc.2
  · split at h
    · rename_i hc
      simp only [Bool.and_eq_true, decide_eq_true_eq] at hc
      split at h
      · rename_i r1 hf
        simp only [Out.ok.injEq, Prod.mk.injEq] at h
        obtain ⟨rfl, rfl⟩ := h
        exact exports_frz hc.1 hf
      · cases h
    · split at h
      · simp only [Out.ok.injEq, Prod.mk.injEq] at h
        obtain ⟨rfl, rfl⟩ := h
        exact exports_all (st := r0.to s)
      · simp only at h
        split at h
        · rename_i hc
          simp only [Bool.and_eq_true] at hc
          simp only [Out.ok.injEq, Prod.mk.injEq] at h
          obtain ⟨rfl, rfl⟩ := h
          exact exports_gc (st := r0.to s) hc.1 hc.2
        · cases h

theorem resE_ev (s : List AV) (rows : List Row) (np : Nat) (ds : List (FuncId × List AV)) (a : ARes) : resE (Opd.ev s) rows a = resOf ⟨s, rows, np, ds⟩ a := by
  cases a <;> rfl

theorem resEs_ev (s : List AV) (rows : List Row) (np : Nat) (ds : List (FuncId × List AV)) (l : List ARes) : resEs (Opd.ev s) rows l = resAV ⟨s, rows, np, ds⟩ l := by
  have : resE (Opd.ev s) rows = resOf ⟨s, rows, np, ds⟩ := funext (resE_ev s rows np ds)
  unfold resEs resAV
  rw [this]
  cases l with
  | nil => rfl
  | cons a l => cases l <;> rfl

theorem finish_sound {keep : Bool} {r0 : RSt} {l : List ARes} {res : CRes} {s : List AV} (hrep : Rep r0.ss s) (h : finish keep r0 l = .ok res) :
    ∃ r r' rows', res = .ret r' rows' ∧ resAV (r0.to s) l = some r ∧ Exports G (r0.to s) r r' rows' := by
  unfold finish at h
  rw [hrep.ev, resEs_ev s r0.rows r0.np r0.ds] at h
  split at h
  · rename_i r hr
    split at h
    · rename_i r' rows' he
      injection h with h
      exact ⟨r, r', rows', h.symm, hr, exportRes_sound he s⟩
    · cases h
  · cases h

theorem run_sound (hC : CfgOK P G C) : ∀ n : Nat,
    (∀ (c : ACode) (ss : List (List AV)) (s : List AV) (rows : List Row) (np : Nat) (ds : List (FuncId × List AV)) (e : AEx) (r : RSt), codeOKB c = true → Rep ss s → runC C n c ss rows np ds = .ok (e, r) →
      ∃ s', Rep r.ss s' ∧ Ev P G (.code c ⟨s, rows, np, ds⟩ e (r.to s'))) ∧
    (∀ (f : FuncId) (args : List AV) (rows : List Row) (res : CRes), runCall C n f args rows = .ok res → Ev P G (.call f args rows res)) := by
  intro n
  induction n with
  | zero => exact ⟨fun c ss s rows np ds e r _ _ h => by simp [runC] at h, fun f args rows res h => by simp [runCall] at h⟩
  | succ n ih =>
    obtain ⟨ihc, ihf⟩ := ih
    refine ⟨fun c ss s rows np ds e r hok hrep h => ?_, fun f args rows res h => ?_⟩
    · simp only [runC] at h
      cases c with
      | skip =>
        simp only [codeF, Out.ok.injEq, Prod.mk.injEq] at h
        obtain ⟨rfl, rfl⟩ := h
        exact ⟨s, hrep, .cskip _⟩
      | reg d l =>
        cases d with
        | false =>
          simp only [codeF] at h
          obtain ⟨s', h1, h2⟩ := runOps_sound hC ihf l ss s rows np ds e r hrep h
          exact ⟨s', h1, .reg l _ _ e h2⟩
        | true =>
          simp only [codeF] at h
          split at h
          · rename_i ss' rows' tr hseq
            split at h
            · rename_i hap
              simp only [Out.ok.injEq, Prod.mk.injEq] at h
              obtain ⟨rfl, rfl⟩ := h
              exact drawn_sound hC ihf (regOK_spec hok) hrep hseq hap np ds
            · cases h
          · cases h
      | seq a b =>
        simp only [codeOKB, Bool.and_eq_true] at hok
        simp only [codeF] at h
        split at h
        · rename_i s1 rows1 np1 ds1 h1
          obtain ⟨s', q1, q2⟩ := ihc a ss s rows np ds _ _ hok.1 hrep h1
          obtain ⟨s'', q3, q4⟩ := ihc b s1 s' rows1 np1 ds1 e r hok.2 q1 h
          exact ⟨s'', q3, .seq a b _ _ _ e q2 q4⟩
        · rename_i r1 hne
          obtain ⟨s', q1, q2⟩ := ihc a ss s rows np ds e r hok.1 hrep h
          exact ⟨s', q1, .seqX a b _ _ e (fun he => by subst he; exact hne _ _ _ _ h) q2⟩
      | cond c a b =>
        simp only [codeOKB, Bool.and_eq_true] at hok
        simp only [codeF] at h
        split at h
        · rename_i hc
          obtain ⟨s', q1, q2⟩ := ihc a ss s rows np ds e r hok.1 hrep h
          exact ⟨s', q1, .cond c a b true _ _ e (by rw [hrep.ev] at hc; exact hc) q2⟩
        · rename_i hc
          obtain ⟨s', q1, q2⟩ := ihc b ss s rows np ds e r hok.2 hrep h
          exact ⟨s', q1, .cond c a b false _ _ e (by rw [hrep.ev] at hc; exact hc) q2⟩
        · cases h
      | block i a =>
        simp only [codeOKB] at hok
        simp only [codeF] at h
        split at h
        · rename_i j st1 h1
          obtain ⟨s', q1, q2⟩ := ihc a ss s rows np ds _ _ hok hrep h1
          split at h
          · rename_i hj
            subst hj
            simp only [Out.ok.injEq, Prod.mk.injEq] at h
            obtain ⟨rfl, rfl⟩ := h
            exact ⟨s', q1, .blockX _ a _ _ q2⟩
          · rename_i hj
            simp only [Out.ok.injEq, Prod.mk.injEq] at h
            obtain ⟨rfl, rfl⟩ := h
            exact ⟨s', q1, .block i a _ _ _ (fun k hk => by injection hk with hk; subst hk; exact hj) q2⟩
        · rename_i r1 hne
          obtain ⟨s', q1, q2⟩ := ihc a ss s rows np ds e r hok hrep h
          exact ⟨s', q1, .block i a _ _ e (fun k hk => by subst hk; exact (hne _ _ h).elim) q2⟩
      | loop m a =>
        simp only [codeF] at h
        split at h
        · rename_i s1 rows1 np1 ds1 h1
          obtain ⟨s', q1, q2⟩ := ihc a ss s rows np ds _ _ (by simpa [codeOKB] using hok) hrep h1
          obtain ⟨s'', q3, q4⟩ := ihc (.loop m a) s1 s' rows1 np1 ds1 e r hok q1 h
          exact ⟨s'', q3, .loop m a _ _ _ _ e q2 weaker_refl q4⟩
        · rename_i r1 hne
          obtain ⟨s', q1, q2⟩ := ihc a ss s rows np ds e r (by simpa [codeOKB] using hok) hrep h
          exact ⟨s', q1, .loopX m a _ _ e (fun he => by subst he; exact hne _ _ _ _ h) q2⟩
      | exit i =>
        simp only [codeF, Out.ok.injEq, Prod.mk.injEq] at h
        obtain ⟨rfl, rfl⟩ := h
        exact ⟨s, hrep, .exit i _⟩
      | ret =>
        simp only [codeF, Out.ok.injEq, Prod.mk.injEq] at h
        obtain ⟨rfl, rfl⟩ := h
        exact ⟨s, hrep, .cret _⟩
    · simp only [runCall] at h
      split at h
      · rename_i r hp
        injection h with h
        subst h
        exact .prim f args rows _ (hC.prim f args rows r hp)
      · split at h
        · cases h
        · rename_i afn hafn
          obtain ⟨hfn, hcal, hok⟩ := hC.fn f afn hafn
          split at h
          · rename_i hlen
            split at h
            · rename_i e s1 rows1 np1 ds1 hrun
              obtain ⟨s', q1, q2⟩ := ihc afn.code _ _ rows rows.length [] _ _ hok (Rep.of _) hrun
              have hent : entry afn args rows = ⟨args ++ List.replicate (afn.ntmps - args.length) (.c undef), rows, rows.length, []⟩ := rfl
              rw [← hent] at q2
              split at h
              · -- nothing deferred
                split at h
                · obtain ⟨r, r', rows', rfl, h1, h2⟩ := finish_sound q1 h
                  exact .body f afn args rows _ _ r r' rows' hfn hlen q2 (.inl rfl) rfl h1 h2
                · obtain ⟨r, r', rows', rfl, h1, h2⟩ := finish_sound q1 h
                  exact .body f afn args rows _ _ r r' rows' hfn hlen q2 (.inr rfl) rfl h1 h2
                · rename_i x
                  split at h
                  · rename_i x' rows' he
                    injection h with h
                    subst h
                    exact .bodyPanic f afn args rows _ x x' rows' hfn hlen q2 rfl (exportRes_sound he s')
                  · cases h
                · cases h
              · -- one call deferred
                rename_i g caps
                split at h
                · rename_i gfn hgfn
                  obtain ⟨hgok, hgcal, hgcode⟩ := hC.fn g gfn hgfn
                  split at h
                  · rename_i o more rest y hfr hy
                    split at h
                    · rename_i s2 rows2 np2 ds2 hmore
                      obtain ⟨t1, u1, u2⟩ := runOps_sound hC ihf more _ _ _ _ _ _ _ ((Rep.of (caps ++ List.replicate (gfn.ntmps - caps.length) (.c undef))).putS o.dst y) hmore
                      have hcode : gfn.code = .seq (.reg false (o :: more)) rest ∧ o.act = .recov ∧ o.guard = none := by
                        unfold firstRecov at hfr
                        split at hfr
                        · rename_i o' more' rest' hc'
                          split at hfr
                          · rename_i ha hg
                            simp only [Option.some.injEq, Prod.mk.injEq] at hfr
                            obtain ⟨rfl, rfl, rfl⟩ := hfr
                            exact ⟨hc', ha, hg⟩
                          · cases hfr
                        · cases hfr
                      have hrest : codeOKB rest = true := by
                        rw [hcode.1] at hgcode
                        simp only [codeOKB, Bool.and_eq_true] at hgcode
                        exact hgcode.2
                      have hye : ((e = .normal ∨ e = .ret) ∧ y = .c .nilIface) ∨ e = .panic y := by
                        split at hy
                        · injection hy with hy; exact .inl ⟨.inl rfl, hy.symm⟩
                        · injection hy with hy; exact .inl ⟨.inr rfl, hy.symm⟩
                        · injection hy with hy; subst hy; exact .inr rfl
                        · cases hy
                      have fin : ∀ (e2 : AEx) (st2 : RSt), (e2 = .normal ∨ e2 = .ret) → runC C n rest s2 rows2 np2 ds2 = .ok (e2, st2) → (if st2.ds.isEmpty && gfn.results.isEmpty && decide (caps.length ≤ gfn.ntmps) then finish (C.keep f) ⟨s1, st2.rows, np1, []⟩ afn.results else .no (.res 3 .junk)) = .ok res →
                          Ev P G (.call f args rows res) := by
                        intro e2 st2 he2 hr2 hf2
                        obtain ⟨t2, u3, u4⟩ := ihc rest _ _ _ _ _ _ _ hrest u1 hr2
                        split at hf2
                        · rename_i hcond
                          simp only [Bool.and_eq_true, List.isEmpty_iff, decide_eq_true_eq] at hcond
                          obtain ⟨r, r', rows', rfl, v1, v2⟩ := finish_sound (s := s') (r0 := ⟨s1, st2.rows, np1, []⟩) q1 hf2
                          refine .bodyD f afn args rows _ e y g caps gfn o more rest _ (st2.to t2) e2 r r' rows' hfn hlen q2 hye rfl hgcal hgok hcode.1 hcode.2.1 hcode.2.2 hcond.1.2 hcond.2 ?_ u4 he2 hcond.1.1 v1 v2
                          have e3 : (entry gfn caps rows1).put o.dst y = ⟨putL (caps ++ List.replicate (gfn.ntmps - caps.length) (.c undef)) o.dst y, rows1, rows1.length, []⟩ := put_mk _ _ _ _ _ _
                          show Ev P G (.ops more ((entry gfn caps rows1).put o.dst y) .normal _)
                          rw [e3]
                          exact u2
                        · cases hf2
                      split at h
                      · rename_i st2 hr2
                        exact fin _ st2 (.inl rfl) hr2 h
                      · rename_i st2 hr2
                        exact fin _ st2 (.inr rfl) hr2 h
                      · cases h
                      · cases h
                    · cases h
                    · cases h
                  · cases h
                · cases h
              · cases h
            · cases h
          · cases h

end
end
end Go.Proofs.Ytfcfdedbbhdioaa.AI
