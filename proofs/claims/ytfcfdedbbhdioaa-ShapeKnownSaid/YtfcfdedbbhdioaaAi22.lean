/- AI 22: regions that draw: the law of the run. -/
import Derived.Test.YtfcfdedbbhdioaaAi21
namespace Go.Proofs.Ytfcfdedbbhdioaa.AI
noncomputable section
open Go
set_option linter.unusedVariables false
set_option linter.unusedSimpArgs false

def allT (_ : Nat) : Bool := true

/-- The rows of the text's order. -/
def rlx (v : List (AV × List Row)) (rows : List Row) : Nat → List Row
  | 0 => rows
  | i + 1 => match v[i]? with | some p => p.2 | none => rlx v rows i

theorem slt_cons (l : List AOper) (v : List (AV × List Row)) (o : AOper) (p : AV × List Row) (s : List AV) : ∀ i, slt (o :: l) (p :: v) allT s (i + 1) = slt l v allT (putL s o.dst p.1) i
  | 0 => by simp [slt, allT]
  | i + 1 => by
    have ih := slt_cons l v o p s i
    have e1 : slt (o :: l) (p :: v) allT s (i + 1 + 1) = if allT (i + 1) then (match (o :: l)[i + 1]?, (p :: v)[i + 1]? with | some o', some p' => putL (slt (o :: l) (p :: v) allT s (i + 1)) o'.dst p'.1 | _, _ => slt (o :: l) (p :: v) allT s (i + 1)) else slt (o :: l) (p :: v) allT s (i + 1) := rfl
    rw [e1, ih]
    simp only [List.getElem?_cons_succ]
    rfl

theorem rlx_cons (v : List (AV × List Row)) (p : AV × List Row) (rows : List Row) : ∀ i, rlx (p :: v) rows (i + 1) = rlx v p.2 i
  | 0 => by simp [rlx]
  | i + 1 => by
    have ih := rlx_cons v p rows i
    have e1 : rlx (p :: v) rows (i + 1 + 1) = match (p :: v)[i + 1]? with | some p' => p'.2 | none => rlx (p :: v) rows (i + 1) := rfl
    rw [e1, ih]
    simp only [List.getElem?_cons_succ]
    rfl

theorem slt_congr (l : List AOper) (v : List (AV × List Row)) (S S' : Nat → Bool) (s : List AV) : ∀ n, (∀ j, j < n → S j = S' j) → slt l v S s n = slt l v S' s n
  | 0, _ => rfl
  | n + 1, h => by simp only [slt, h n (by omega), slt_congr l v S S' s n fun j hj => h j (by omega)]

theorem slt_false (l : List AOper) (v : List (AV × List Row)) (s : List AV) : ∀ n, slt l v (fun _ => false) s n = s
  | 0 => rfl
  | n + 1 => by simp only [slt, Bool.false_eq_true, if_false, slt_false l v s n]

theorem rws_false (l : List AOper) (v : List (AV × List Row)) (rows : List Row) : ∀ n, rws l v (fun _ => false) rows n = rows
  | 0 => rfl
  | n + 1 => by simp only [rws, Bool.false_and, Bool.false_eq_true, if_false, rws_false l v rows n]

section
variable {P : Program} {G : List (Nat × Obj)} {C : Cfg} {call : FuncId → List AV → List Row → Out CRes}

theorem runSeq_lex : ∀ (l : List AOper) (ss : List (List AV)) (s : List AV) (rows : List Row) (tr : List Trc) (ss' : List (List AV)) (rows' : List Row) (tr' : List Trc), Rep ss s →
    runSeq C call l ss rows tr = .ok (ss', rows', tr') → ∃ v : List (AV × List Row), v.length = l.length ∧ Rep ss' (slt l v allT s l.length) ∧ rows' = rlx v rows l.length ∧ (∀ k, k < tr.length → tr'[k]? = tr[k]?) ∧ tr'.length = tr.length + l.length ∧
      ∀ (i : Nat) (o : AOper), l[i]? = some o → ∃ p si, v[i]? = some p ∧ act1 C call o (Opd.ev (slt l v allT s i)) (rlx v rows i) = .ok (.val p.1 p.2) ∧ Rep si (slt l v allT s i) ∧
        tr'[tr.length + i]? = some ⟨o.act.fp o.mode (Opd.ev (slt l v allT s i)) (rlx v rows i), (rlx v rows i).length, si, rlx v rows i, p.1⟩
  | [], ss, s, rows, tr, ss', rows', tr', hrep, h => by
    simp only [runSeq, Out.ok.injEq, Prod.mk.injEq] at h
    obtain ⟨rfl, rfl, rfl⟩ := h
    exact ⟨[], rfl, hrep, rfl, fun k _ => rfl, rfl, fun i o ho => by simp at ho⟩
  | o :: l, ss, s, rows, tr, ss', rows', tr', hrep, h => by
    simp only [runSeq, hrep.ev] at h
    split at h
    · rename_i x rows1 ha
      obtain ⟨v, h1, h2, h3, h4, hlen, h5⟩ := runSeq_lex l _ _ _ _ _ _ _ (hrep.putS o.dst x) h
      refine ⟨(x, rows1) :: v, by simp [h1], ?_, ?_, fun k hk => ?_, by simp at hlen; simp; omega, fun i oi hi => ?_⟩
      · rw [List.length_cons, slt_cons]; exact h2
      · rw [List.length_cons, rlx_cons]; exact h3
      · rw [h4 k (by simp; omega), List.getElem?_append_left hk]
      · cases i with
        | zero =>
          simp at hi
          subst hi
          refine ⟨(x, rows1), ss, rfl, ha, by simpa [slt] using hrep, ?_⟩
          rw [Nat.add_zero, h4 _ (by simp), List.getElem?_append_right (Nat.le_refl _)]
          simp [slt, rlx]
        | succ i =>
          obtain ⟨p, si, hp, hact, hsi, htr⟩ := h5 i oi (by simpa using hi)
          refine ⟨p, si, by simpa using hp, ?_, ?_, ?_⟩
          · rw [slt_cons, rlx_cons]; exact hact
          · rw [slt_cons]; exact hsi
          · rw [slt_cons, rlx_cons]
            have e : tr.length + (i + 1) = (tr ++ [(⟨o.act.fp o.mode (Opd.ev s) rows, rows.length, ss, rows, x⟩ : Trc)]).length + i := by simp; omega
            rw [e]
            exact htr
    · cases h
    · cases h

theorem apartC_spec {tr : List Trc} {fin : List Row} : ∀ {l : List AOper} {i0 : Nat}, apartC C call tr fin i0 l = true → ∀ (i : Nat) (o : AOper), l[i]? = some o → ∀ j ∈ o.free, ∃ ti tj, tr[i0 + i]? = some ti ∧ tr[j]? = some tj ∧
      ((o.fpFree = true ∧ ∀ k ∈ ti.fp, k ∉ tj.fp ∧ k < tj.n) ∨ (again C call o ti tj.rows = true ∧ again C call o ti (rowsAt tr fin (j + 1)) = true))
  | [], i0, h, i, o, ho, j, hj => by simp at ho
  | o' :: l, i0, h, i, o, ho, j, hj => by
    simp only [apartC, Bool.and_eq_true] at h
    cases i with
    | zero =>
      simp at ho
      subst ho
      have := List.all_eq_true.1 h.1 j hj
      split at this
      · rename_i ti tj h1 h2
        refine ⟨ti, tj, by simpa using h1, h2, ?_⟩
        simp only [Bool.or_eq_true, Bool.and_eq_true] at this
        rcases this with ⟨h3, h4⟩ | h3
        · refine .inl ⟨h3, fun k hk => ?_⟩
          have := List.all_eq_true.1 h4 k hk
          simpa using this
        · exact .inr h3
      · cases this
    | succ i =>
      have := apartC_spec h.2 i o (by simpa using ho) j hj
      rw [show i0 + (i + 1) = i0 + 1 + i by omega]
      exact this

theorem apartB_spec {tr : List (List Nat × Nat)} : ∀ {l : List AOper} {i0 : Nat}, apartB tr i0 l = true → ∀ (i : Nat) (o : AOper), l[i]? = some o → ∀ j ∈ o.free, ∃ fi ni fj nj, tr[i0 + i]? = some (fi, ni) ∧ tr[j]? = some (fj, nj) ∧ ∀ k ∈ fi, k ∉ fj ∧ k < nj
  | [], i0, h, i, o, ho, j, hj => by simp at ho
  | o' :: l, i0, h, i, o, ho, j, hj => by
    simp only [apartB, Bool.and_eq_true] at h
    cases i with
    | zero =>
      simp at ho
      subst ho
      have := List.all_eq_true.1 h.1 j hj
      split at this
      · rename_i fi ni fj nj h1 h2
        refine ⟨fi, ni, fj, nj, by simpa using h1, h2, fun k hk => ?_⟩
        have := List.all_eq_true.1 this k hk
        simpa using this
      · cases this
    | succ i =>
      have := apartB_spec h.2 i o (by simpa using ho) j hj
      rw [show i0 + (i + 1) = i0 + 1 + i by omega]
      exact this

/-- **A region that draws.** -/
theorem drawn_sound (hC : CfgOK P G C) (hcall : ∀ f args rows res, call f args rows = .ok res → Ev P G (.call f args rows res)) {l : List AOper} (hreg : RegOK l) {ss ss' : List (List AV)} {s : List AV} {rows rows' : List Row} {tr : List Trc}
    (hrep : Rep ss s) (h : runSeq C call l ss rows [] = .ok (ss', rows', tr)) (hap : apartC C call tr rows' 0 l = true) (np : Nat) (ds : List (FuncId × List AV)) :
    ∃ s', Rep ss' s' ∧ Ev P G (.code (.reg true l) ⟨s, rows, np, ds⟩ .normal ⟨s', rows', np, ds⟩) := by
  obtain ⟨v, hvl, hrep', hrows', _, hlen, hlex⟩ := runSeq_lex l ss s rows [] ss' rows' tr hrep h
  simp only [List.length_nil, Nat.zero_add] at hlex hlen
  have hload : ∀ (i : Nat) (o : AOper), l[i]? = some o → loudAt l i = o.act.loud o.mode := fun i o ho => by simp [loudAt, ho]
  have hdst : ∀ (i : Nat) (o : AOper), l[i]? = some o → dstAt l i = o.dst := fun i o ho => by simp [dstAt, ho]
  have hlt : ∀ (i : Nat) (o : AOper), l[i]? = some o → i < l.length := fun i o ho => (List.getElem?_eq_some_iff.1 ho).1
  -- the text's order: rows turn at loud operations alone
  have hrl : ∀ i, i ≤ l.length → rlx v rows i = rws l v allT rows i := by
    intro i
    induction i with
    | zero => intro _; rfl
    | succ i ih =>
      intro hi
      obtain ⟨p, si, hp, hact, _, _⟩ := hlex i l[i] (by simp [show i < l.length by omega])
      have hl' := hload i l[i] (by simp [show i < l.length by omega])
      simp only [rlx, rws, hp, allT, Bool.true_and]
      by_cases hlo : loudAt l i = true
      · rw [hlo]; simp
      · rw [if_neg hlo]
        have hq : l[i].act.loud l[i].mode = false := by rw [← hl']; simpa using hlo
        rw [(act1_quiet hq hact (rows2 := rlx v rows i) fun _ _ => rfl).1]
        exact ih (by omega)
  refine ⟨slt l v allT s l.length, hrep', ?_⟩
  rw [hrows', hrl _ (Nat.le_refl _)]
  refine .drawn l _ _ (fun S => ⟨slt l v S s l.length, rws l v S rows l.length, np, ds⟩) hC.hm hreg.after ?_ (fun S hS => ?_) fun S i o ho hSi hpre hdS => ?_
  · rw [slt_false, rws_false]
  · rw [slt_congr l v S allT s l.length fun j hj => hS j hj, rws_agree S allT rows l.length fun j hj _ => hS j hj]
  · have hil := hlt i o ho
    obtain ⟨p, si, hp, hact, hsi, htr⟩ := hlex i o ho
    -- done and not done
    have before : ∀ j, hasBit ((ancs l []).getD i 0) j = true → S j = true := anc_done hdS i o ho hpre
    have behind : ∀ (j : Nat) (oj : AOper), l[j]? = some oj → S j = true → hasBit ((ancs l []).getD j 0) i = false := by
      intro j oj hj hSj
      cases hb : hasBit ((ancs l []).getD j 0) i with
      | false => rfl
      | true =>
        have := anc_done hdS j oj hj (hdS j oj hj hSj) i hb
        rw [hSi] at this; cases this
    have low : ∀ (j : Nat) (oj : AOper), l[j]? = some oj → j < i → S j = false → Apart oj o j i := by
      intro j oj hj hji hSj
      rcases apart2_spec (hreg.apart j i oj o hj ho hji) with h1 | h1
      · rw [before j h1] at hSj; cases hSj
      · exact h1
    have high : ∀ (j : Nat) (oj : AOper), l[j]? = some oj → i < j → S j = true → Apart o oj i j := by
      intro j oj hj hij hSj
      rcases apart2_spec (hreg.apart i j o oj ho hj hij) with h1 | h1
      · rw [behind j oj hj hSj] at h1; cases h1
      · exact h1
    have getl : ∀ (j : Nat) (hj : j < l.length), l[j]? = some l[j] := fun j hj => by simp
    have pre1 : slt l v (fun j => decide (j < i)) s l.length = slt l v allT s i := slt_prefix s i l.length (by omega)
    have pre2 : ∀ b, b ≤ l.length → rws l v (fun j => decide (j < b)) rows l.length = rws l v allT rows b := fun b hb => rws_prefix rows b l.length hb
    -- what it reads of the slots is as in the text's order
    have hreads : ∀ y ∈ o.reads, Opd.ev (slt l v S s l.length) y = Opd.ev (slt l v allT s i) y := by
      intro y hy
      cases y with
      | cst c => rfl
      | tm t =>
        show lget _ t = lget _ t
        rw [← pre1]
        refine slt_agree S _ s t l.length fun j hj hd => ?_
        have hd' : l[j].dst = some t := by rw [← hdst j l[j] (getl j hj)]; exact hd
        rcases Nat.lt_trichotomy j i with q | q | q
        · simp only [q, decide_true]
          cases hSj : S j with
          | true => rfl
          | false => exact absurd hy ((low j l[j] (getl j hj) q hSj).rd t hd')
        · subst q; simp [hSi]
        · simp only [show ¬ j < i by omega, decide_false]
          cases hSj : S j with
          | false => rfl
          | true => exact absurd hy ((high j l[j] (getl j hj) q hSj).dr t hd')
    -- the slots behind it
    have hslots : slt l v (fun k => if k = i then true else S k) s l.length = putL (slt l v S s l.length) o.dst p.1 := by
      refine list_ext (by rw [putL_length, slt_length, slt_length]) fun t => ?_
      rw [lget_putL, slt_length]
      by_cases hd : o.dst = some t
      · rw [if_pos hd]
        refine slt_last _ s ho hp hd (by simp) l.length hil fun j hij hj hSj => ?_
        rw [if_neg (by omega)] at hSj
        rw [hdst j l[j] (getl j hj)]
        exact (high j l[j] (getl j hj) hij hSj).dst t hd
      · rw [if_neg hd]
        refine slt_agree _ S s t l.length fun j hj hdj => ?_
        have : j ≠ i := by
          intro e
          subst e
          rw [hdst j o ho] at hdj
          exact hd hdj
        simp [this]
    have htr0 := hrl i (by omega)
    by_cases hlo : o.act.loud o.mode = true
    · -- loud
      have hr1 : rws l v S rows l.length = rlx v rows i := by
        rw [htr0, ← pre2 i (by omega)]
        refine rws_agree S _ rows l.length fun j hj hlj => ?_
        have hlj' : l[j].act.loud l[j].mode = true := by rw [← hload j l[j] (getl j hj)]; exact hlj
        rcases Nat.lt_trichotomy j i with q | q | q
        · simp only [q, decide_true]
          cases hSj : S j with
          | true => rfl
          | false => exact absurd ⟨hlj', hlo⟩ (low j l[j] (getl j hj) q hSj).loud
        · subst q; simp [hSi]
        · simp only [show ¬ j < i by omega, decide_false]
          cases hSj : S j with
          | false => rfl
          | true => exact absurd ⟨hlo, hlj'⟩ (high j l[j] (getl j hj) q hSj).loud
      have hr2 : rws l v (fun k => if k = i then true else S k) rows l.length = p.2 := by
        refine rws_last _ rows hp (by rw [hload i o ho]; exact hlo) (by simp) l.length hil fun j hij hj hlj => ?_
        rw [if_neg (by omega)]
        have hlj' : l[j].act.loud l[j].mode = true := by rw [← hload j l[j] (getl j hj)]; exact hlj
        cases hSj : S j with
        | false => rfl
        | true => exact absurd ⟨hlo, hlj'⟩ (high j l[j] (getl j hj) hij hSj).loud
      have hact2 : act1 C call o (Opd.ev (slt l v S s l.length)) (rws l v S rows l.length) = .ok (.val p.1 p.2) := by
        rw [hr1, act1_slots (hreg.nosel i o ho) hreads]
        exact hact
      have hs := act1_sound hC hcall hact2 np ds
      refine hs [] .normal _ ?_
      rw [hslots, hr2]
      exact .nil _
    · -- quiet
      have hq : o.act.loud o.mode = false := by simpa using hlo
      have hr2 : rws l v (fun k => if k = i then true else S k) rows l.length = rws l v S rows l.length := by
        refine rws_agree _ S rows l.length fun j hj hlj => ?_
        have : j ≠ i := by
          intro e
          subst e
          rw [hload j o ho, hq] at hlj
          cases hlj
        simp [this]
      -- what it gives, with the rows behind so many
      let T : Nat → Prop := fun b => act1 C call o (Opd.ev (slt l v allT s i)) (rws l v allT rows b) = .ok (.val p.1 (rws l v allT rows b))
      have hTi : T i := by
        show act1 C call o _ (rws l v allT rows i) = _
        rw [← htr0]
        have := (act1_quiet hq hact (rows2 := rlx v rows i) fun _ _ => rfl).2
        exact this
      have ofVal : ∀ b y r, act1 C call o (Opd.ev (slt l v allT s i)) (rws l v allT rows b) = .ok (.val y r) → y = p.1 → T b := by
        intro b y r h1 h2
        subst h2
        exact (act1_quiet hq h1 (rows2 := rws l v allT rows b) fun _ _ => rfl).2
      have loudstep : ∀ j, j < l.length → loudAt l j = true → ∃ pj, v[j]? = some pj ∧ rws l v allT rows (j + 1) = pj.2 := by
        intro j hj hlj
        obtain ⟨pj, sj, hpj, _, _, _⟩ := hlex j l[j] (getl j hj)
        exact ⟨pj, hpj, by simp only [rws, allT, Bool.true_and, hlj, if_true, hpj]⟩
      have stable : ∀ j, j < l.length → loudAt l j = true → j ∈ o.free → (T j → T (j + 1)) ∧ (T (j + 1) → T j) := by
        intro j hj hlj hfree
        obtain ⟨ti, tj, e1, e2, e3⟩ := apartC_spec hap i o ho j hfree
        obtain ⟨pj, sj, hpj, hactj, hsj, htrj⟩ := hlex j l[j] (getl j hj)
        rw [Nat.zero_add, htr] at e1
        rw [htrj] at e2
        injection e1 with e1
        injection e2 with e2
        subst e1 e2
        have hlj' : l[j].act.loud l[j].mode = true := by rw [← hload j l[j] (getl j hj)]; exact hlj
        rcases e3 with ⟨hff, e3⟩ | ⟨e3, e4⟩
        · have key : ∀ k ∈ o.act.fp o.mode (Opd.ev (slt l v allT s i)) (rlx v rows i), (rws l v allT rows (j + 1))[k]? = (rws l v allT rows j)[k]? := by
            intro k hk
            obtain ⟨h1, h2⟩ := e3 k hk
            have h3 := act1_loud hlj' hactj k h2 h1
            rw [← hrl j (by omega)]
            simp only [rws, allT, Bool.true_and, hlj, if_true, hpj]
            exact h3
          have hfp : ∀ r, o.act.fp o.mode (Opd.ev (slt l v allT s i)) r = o.act.fp o.mode (Opd.ev (slt l v allT s i)) (rlx v rows i) := by
            intro r
            unfold AOper.fpFree at hff
            cases ha : o.act with
            | op a => rfl
            | call f args => rw [ha] at hff; simp only [beq_iff_eq] at hff; simp only [AAct.fp, hff]
            | callv f args => rw [ha] at hff; simp only [beq_iff_eq] at hff; simp only [AAct.fp, hff]
            | panic x => rw [ha] at hq; simp [AAct.loud] at hq
            | defer x => rw [ha] at hq; simp [AAct.loud] at hq
            | recov => rw [ha] at hq; simp [AAct.loud] at hq
          refine ⟨fun h1 => ?_, fun h1 => ?_⟩
          · exact (act1_quiet hq h1 (rows2 := rws l v allT rows (j + 1)) fun k hk => key k (by rw [← hfp]; exact hk)).2
          · exact (act1_quiet hq h1 (rows2 := rws l v allT rows j) fun k hk => (key k (by rw [← hfp]; exact hk)).symm).2
        · have val : ∀ (t : Trc) r, t.ss = si → t.x = p.1 → again C call o t r = true → ∃ r', act1 C call o (Opd.ev (slt l v allT s i)) r = .ok (.val p.1 r') := by
            intro t r h1 h2 h3
            unfold again at h3
            rw [h1, hsi.ev, h2] at h3
            split at h3
            · rename_i y r' h4
              rw [AV.eqB_eq h3] at h4
              exact ⟨r', h4⟩
            · cases h3
          obtain ⟨r1, h5⟩ := val _ _ rfl rfl e3
          obtain ⟨r2, h6⟩ := val _ _ rfl rfl e4
          have hj0 : T j := by
            refine ofVal j p.1 r1 ?_ rfl
            rw [← hrl j (by omega)]
            exact h5
          have hj1 : T (j + 1) := by
            refine ofVal (j + 1) p.1 r2 ?_ rfl
            rw [← hrl (j + 1) (by omega)]
            have : rowsAt tr rows' (j + 1) = rlx v rows (j + 1) := by
              unfold rowsAt
              by_cases hjl : j + 1 < l.length
              · obtain ⟨pj1, sj1, _, _, _, htrj1⟩ := hlex (j + 1) l[j + 1] (getl (j + 1) hjl)
                rw [htrj1]
              · rw [List.getElem?_eq_none (by omega)]
                simp only
                rw [hrows', show j + 1 = l.length by omega]
            rw [← this]
            exact h6
          exact ⟨fun _ => hj1, fun _ => hj0⟩
      have interval : ∀ c a, a ≤ c → c ≤ l.length → (∀ j, a ≤ j → j < c → loudAt l j = true → j ∈ o.free) → (T a → T c) ∧ (T c → T a) := by
        intro c
        induction c with
        | zero => intro a ha _ _; rw [show a = 0 by omega]; exact ⟨id, id⟩
        | succ c ih =>
          intro a ha hc hf
          by_cases hac : a = c + 1
          · rw [hac]; exact ⟨id, id⟩
          · obtain ⟨h1, h2⟩ := ih a (by omega) (by omega) fun j h1 h2 => hf j h1 (by omega)
            by_cases hlc : loudAt l c = true
            · obtain ⟨h3, h4⟩ := stable c (by omega) hlc (hf c (by omega) (by omega) hlc)
              exact ⟨fun q => h3 (h1 q), fun q => h2 (h4 q)⟩
            · have e : rws l v allT rows (c + 1) = rws l v allT rows c := by
                simp only [Bool.not_eq_true] at hlc
                simp only [rws, hlc, Bool.and_false, Bool.false_eq_true, if_false]
              have eT : T (c + 1) = T c := by
                show (act1 C call o _ (rws l v allT rows (c + 1)) = _) = _
                rw [e]
              rw [eT]
              exact ⟨h1, h2⟩
      -- how far the loud ones are done
      have bound : ∀ m, m ≤ l.length → ∃ b, b ≤ m ∧ (∀ j, b ≤ j → j < m → loudAt l j = true → S j = false) ∧ (b = 0 ∨ (0 < b ∧ loudAt l (b - 1) = true ∧ S (b - 1) = true)) := by
        intro m
        induction m with
        | zero => intro _; exact ⟨0, Nat.le_refl _, fun j _ hj => by omega, .inl rfl⟩
        | succ m ih =>
          intro hm
          by_cases hc : loudAt l m = true ∧ S m = true
          · exact ⟨m + 1, Nat.le_refl _, fun j h1 h2 => by omega, .inr ⟨by omega, hc⟩⟩
          · obtain ⟨b, h1, h2, h3⟩ := ih (by omega)
            refine ⟨b, by omega, fun j h4 h5 h6 => ?_, h3⟩
            by_cases hjm : j = m
            · subst hjm
              cases hSj : S j with
              | false => rfl
              | true => exact absurd ⟨h6, hSj⟩ hc
            · exact h2 j h4 (by omega) h6
      obtain ⟨b, hbn, hb1, hb2⟩ := bound l.length (Nat.le_refl _)
      have hbS : ∀ j, j < b → loudAt l j = true → S j = true := by
        intro j hj hlj
        rcases hb2 with rfl | ⟨h0, h1, h2⟩
        · omega
        · by_cases hjb : j = b - 1
          · rw [hjb]; exact h2
          · have hj1 : j < l.length := by omega
            have hb3 : b - 1 < l.length := by omega
            rcases apart2_spec (hreg.apart j (b - 1) l[j] l[b - 1] (getl j hj1) (getl _ hb3) (by omega)) with h3 | h3
            · exact anc_done hdS (b - 1) l[b - 1] (getl _ hb3) (hdS (b - 1) l[b - 1] (getl _ hb3) h2) j h3
            · exact absurd ⟨by rw [← hload j l[j] (getl j hj1)]; exact hlj, by rw [← hload (b - 1) l[b - 1] (getl _ hb3)]; exact h1⟩ h3.loud
      have hSb : rws l v S rows l.length = rws l v allT rows b := by
        rw [← pre2 b hbn]
        refine rws_agree S _ rows l.length fun j hj hlj => ?_
        by_cases hjb : j < b
        · simp only [hjb, decide_true]; exact hbS j hjb hlj
        · simp only [hjb, decide_false]; exact hb1 j (by omega) hj hlj
      have notI : ∀ j, j = i → loudAt l j = true → False := fun j e hlj => by
        subst e
        rw [hload j o ho, hq] at hlj
        cases hlj
      have hTb : T b := by
        rcases Nat.le_total b i with hbi | hbi
        · refine (interval i b hbi (by omega) fun j h1 h2 hlj => ?_).2 hTi
          have hj1 : j < l.length := by omega
          have hlj' : l[j].act.loud l[j].mode = true := by rw [← hload j l[j] (getl j hj1)]; exact hlj
          exact (low j l[j] (getl j hj1) h2 (hb1 j h1 hj1 hlj)).fy hlj'
        · refine (interval b i hbi hbn fun j h1 h2 hlj => ?_).1 hTi
          have hj1 : j < l.length := by omega
          have hlj' : l[j].act.loud l[j].mode = true := by rw [← hload j l[j] (getl j hj1)]; exact hlj
          have hji : i < j := by
            rcases Nat.lt_or_ge i j with q | q
            · exact q
            · exact (notI j (by omega) hlj).elim
          exact (high j l[j] (getl j hj1) hji (hbS j h2 hlj)).fx hlj'
      have hact2 : act1 C call o (Opd.ev (slt l v S s l.length)) (rws l v S rows l.length) = .ok (.val p.1 (rws l v S rows l.length)) := by
        rw [act1_slots (hreg.nosel i o ho) hreads, hSb]
        exact hTb
      have hs := act1_sound hC hcall hact2 np ds
      refine hs [] .normal _ ?_
      rw [hslots, hr2]
      exact .nil _

end
end
end Go.Proofs.Ytfcfdedbbhdioaa.AI
