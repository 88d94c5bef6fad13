/- AI S1: symbolic runs: steps as relations; regions that draw. -/
import Derived.Test.YtfcfdedbbhdioaaAiS0
namespace Go.Proofs.Ytfcfdedbbhdioaa.AI
noncomputable section
open Go
set_option linter.unusedVariables false
set_option linter.unusedSimpArgs false

section
variable {P : Program} {G : List (Nat × Obj)}

/-- One operation: its value, the rows behind it, the rows that it looks at. -/
structure Step1 (P : Program) (G : List (Nat × Obj)) (o : AOper) (s : List AV) (rows : List Row) (x : AV) (rows' : List Row) (fp : List Nat) : Prop where
  quiet : o.act.loud o.mode = false → rows' = rows
  frame : o.act.loud o.mode = true → ∀ k, k < rows.length → k ∉ fp → rows'[k]? = rows[k]?
  loud : o.act.loud o.mode = true → ∀ s2, (∀ y ∈ o.reads, Opd.ev s2 y = Opd.ev s y) → ∀ np ds, Says P G o s2 rows np ds (.val x rows')
  still : o.act.loud o.mode = false → ∀ s2 rows2, (∀ y ∈ o.reads, Opd.ev s2 y = Opd.ev s y) → (∀ k ∈ fp, rows2[k]? = rows[k]?) → ∀ np ds, Says P G o s2 rows2 np ds (.val x rows2)

/-- Operations one behind the other. -/
inductive SeqS (P : Program) (G : List (Nat × Obj)) : List AOper → List AV → List Row → List (List Nat × Nat) → List AV → List Row → List (List Nat × Nat) → Prop
  | nil (s : List AV) (rows : List Row) (tr : List (List Nat × Nat)) : SeqS P G [] s rows tr s rows tr
  | cons (o : AOper) (l : List AOper) (s : List AV) (rows : List Row) (tr : List (List Nat × Nat)) (x : AV) (rows1 : List Row) (fp : List Nat) (s' : List AV) (rows' : List Row) (tr' : List (List Nat × Nat))
      (h : Step1 P G o s rows x rows1 fp) (h' : SeqS P G l (putL s o.dst x) rows1 (tr ++ [(fp, rows.length)]) s' rows' tr') : SeqS P G (o :: l) s rows tr s' rows' tr'

theorem seqS_lex {l : List AOper} {s : List AV} {rows : List Row} {tr : List (List Nat × Nat)} {s' : List AV} {rows' : List Row} {tr' : List (List Nat × Nat)} (h : SeqS P G l s rows tr s' rows' tr') :
    ∃ v : List (AV × List Row), v.length = l.length ∧ s' = slt l v allT s l.length ∧ rows' = rlx v rows l.length ∧ (∀ k, k < tr.length → tr'[k]? = tr[k]?) ∧
      ∀ (i : Nat) (o : AOper), l[i]? = some o → ∃ p fp, v[i]? = some p ∧ Step1 P G o (slt l v allT s i) (rlx v rows i) p.1 p.2 fp ∧ tr'[tr.length + i]? = some (fp, (rlx v rows i).length) := by
  induction h with
  | nil s rows tr => exact ⟨[], rfl, rfl, rfl, fun _ _ => rfl, fun i o ho => by simp at ho⟩
  | cons o l s rows tr x rows1 fp s' rows' tr' ha _ ih =>
    obtain ⟨v, h1, h2, h3, h4, h5⟩ := ih
    refine ⟨(x, rows1) :: v, by simp [h1], ?_, ?_, fun k hk => ?_, fun i oi hi => ?_⟩
    · rw [List.length_cons, slt_cons]; exact h2
    · rw [List.length_cons, rlx_cons]; exact h3
    · rw [h4 k (by simp; omega), List.getElem?_append_left hk]
    · cases i with
      | zero =>
        simp at hi
        subst hi
        refine ⟨(x, rows1), fp, rfl, ha, ?_⟩
        rw [Nat.add_zero, h4 _ (by simp), List.getElem?_append_right (Nat.le_refl _)]
        simp [rlx]
      | succ i =>
        obtain ⟨p, fpi, hp, hact, htr⟩ := h5 i oi (by simpa using hi)
        refine ⟨p, fpi, by simpa using hp, ?_, ?_⟩
        · rw [slt_cons, rlx_cons]; exact hact
        · rw [rlx_cons]
          have e : tr.length + (i + 1) = (tr ++ [(fp, rows.length)]).length + i := by simp; omega
          rw [e]
          exact htr

theorem drawnS (hm : P.follows .mixedOrders = true) {l : List AOper} (hreg : RegOK l) {s s' : List AV} {rows rows' : List Row} {tr : List (List Nat × Nat)} (h : SeqS P G l s rows [] s' rows' tr) (hap : apartB tr 0 l = true)
    (np : Nat) (ds : List (FuncId × List AV)) : Ev P G (.code (.reg true l) ⟨s, rows, np, ds⟩ .normal ⟨s', rows', np, ds⟩) := by
  obtain ⟨v, hvl, hs', hrows', _, hlex⟩ := seqS_lex h
  simp only [List.length_nil, Nat.zero_add] at hlex
  have hload : ∀ (i : Nat) (o : AOper), l[i]? = some o → loudAt l i = o.act.loud o.mode := fun i o ho => by simp [loudAt, ho]
  have hdst : ∀ (i : Nat) (o : AOper), l[i]? = some o → dstAt l i = o.dst := fun i o ho => by simp [dstAt, ho]
  have hlt : ∀ (i : Nat) (o : AOper), l[i]? = some o → i < l.length := fun i o ho => (List.getElem?_eq_some_iff.1 ho).1
  -- the text's order: rows turn at loud operations alone
  have hrl : ∀ i, i ≤ l.length → rlx v rows i = rws l v allT rows i := by
    intro i
    induction i with
    | zero => intro _; rfl
    | succ i ih =>
      intro hi
      obtain ⟨p, fp, hp, hact, _⟩ := hlex i l[i] (by simp [show i < l.length by omega])
      have hl' := hload i l[i] (by simp [show i < l.length by omega])
      simp only [rlx, rws, hp, allT, Bool.true_and]
      by_cases hlo : loudAt l i = true
      · rw [hlo]; simp
      · rw [if_neg hlo]
        have hq : l[i].act.loud l[i].mode = false := by rw [← hl']; simpa using hlo
        rw [hact.quiet hq]
        exact ih (by omega)
  rw [hs', hrows', hrl _ (Nat.le_refl _)]
  refine .drawn l _ _ (fun S => ⟨slt l v S s l.length, rws l v S rows l.length, np, ds⟩) hm hreg.after ?_ (fun S hS => ?_) fun S i o ho hSi hpre hdS => ?_
  · rw [slt_false, rws_false]
  · rw [slt_congr l v S allT s l.length fun j hj => hS j hj, rws_agree S allT rows l.length fun j hj _ => hS j hj]
  · have hil := hlt i o ho
    obtain ⟨p, fp, hp, hact, htr⟩ := hlex i o ho
    -- done and not done
    have before : ∀ j, hasBit ((ancs l []).getD i 0) j = true → S j = true := anc_done hdS i o ho hpre
    have behind : ∀ (j : Nat) (oj : AOper), l[j]? = some oj → S j = true → hasBit ((ancs l []).getD j 0) i = false := by
      intro j oj hj hSj
      cases hb : hasBit ((ancs l []).getD j 0) i with
      | false => rfl
      | true =>
        have := anc_done hdS j oj hj (hdS j oj hj hSj) i hb
        rw [hSi] at this; cases this
    have low : ∀ (j : Nat) (oj : AOper), l[j]? = some oj → j < i → S j = false → Apart oj o j i := by
      intro j oj hj hji hSj
      rcases apart2_spec (hreg.apart j i oj o hj ho hji) with h1 | h1
      · rw [before j h1] at hSj; cases hSj
      · exact h1
    have high : ∀ (j : Nat) (oj : AOper), l[j]? = some oj → i < j → S j = true → Apart o oj i j := by
      intro j oj hj hij hSj
      rcases apart2_spec (hreg.apart i j o oj ho hj hij) with h1 | h1
      · rw [behind j oj hj hSj] at h1; cases h1
      · exact h1
    have getl : ∀ (j : Nat) (hj : j < l.length), l[j]? = some l[j] := fun j hj => by simp
    have pre1 : slt l v (fun j => decide (j < i)) s l.length = slt l v allT s i := slt_prefix s i l.length (by omega)
    have pre2 : ∀ b, b ≤ l.length → rws l v (fun j => decide (j < b)) rows l.length = rws l v allT rows b := fun b hb => rws_prefix rows b l.length hb
    -- what it reads of the slots is as in the text's order
    have hreads : ∀ y ∈ o.reads, Opd.ev (slt l v S s l.length) y = Opd.ev (slt l v allT s i) y := by
      intro y hy
      cases y with
      | cst c => rfl
      | tm t =>
        show lget _ t = lget _ t
        rw [← pre1]
        refine slt_agree S _ s t l.length fun j hj hd => ?_
        have hd' : l[j].dst = some t := by rw [← hdst j l[j] (getl j hj)]; exact hd
        rcases Nat.lt_trichotomy j i with q | q | q
        · simp only [q, decide_true]
          cases hSj : S j with
          | true => rfl
          | false => exact absurd hy ((low j l[j] (getl j hj) q hSj).rd t hd')
        · subst q; simp [hSi]
        · simp only [show ¬ j < i by omega, decide_false]
          cases hSj : S j with
          | false => rfl
          | true => exact absurd hy ((high j l[j] (getl j hj) q hSj).dr t hd')
    -- the slots behind it
    have hslots : slt l v (fun k => if k = i then true else S k) s l.length = putL (slt l v S s l.length) o.dst p.1 := by
      refine list_ext (by rw [putL_length, slt_length, slt_length]) fun t => ?_
      rw [lget_putL, slt_length]
      by_cases hd : o.dst = some t
      · rw [if_pos hd]
        refine slt_last _ s ho hp hd (by simp) l.length hil fun j hij hj hSj => ?_
        rw [if_neg (by omega)] at hSj
        rw [hdst j l[j] (getl j hj)]
        exact (high j l[j] (getl j hj) hij hSj).dst t hd
      · rw [if_neg hd]
        refine slt_agree _ S s t l.length fun j hj hdj => ?_
        have : j ≠ i := by
          intro e
          subst e
          rw [hdst j o ho] at hdj
          exact hd hdj
        simp [this]
    have htr0 := hrl i (by omega)
    by_cases hlo : o.act.loud o.mode = true
    · -- loud
      have hr1 : rws l v S rows l.length = rlx v rows i := by
        rw [htr0, ← pre2 i (by omega)]
        refine rws_agree S _ rows l.length fun j hj hlj => ?_
        have hlj' : l[j].act.loud l[j].mode = true := by rw [← hload j l[j] (getl j hj)]; exact hlj
        rcases Nat.lt_trichotomy j i with q | q | q
        · simp only [q, decide_true]
          cases hSj : S j with
          | true => rfl
          | false => exact absurd ⟨hlj', hlo⟩ (low j l[j] (getl j hj) q hSj).loud
        · subst q; simp [hSi]
        · simp only [show ¬ j < i by omega, decide_false]
          cases hSj : S j with
          | false => rfl
          | true => exact absurd ⟨hlo, hlj'⟩ (high j l[j] (getl j hj) q hSj).loud
      have hr2 : rws l v (fun k => if k = i then true else S k) rows l.length = p.2 := by
        refine rws_last _ rows hp (by rw [hload i o ho]; exact hlo) (by simp) l.length hil fun j hij hj hlj => ?_
        rw [if_neg (by omega)]
        have hlj' : l[j].act.loud l[j].mode = true := by rw [← hload j l[j] (getl j hj)]; exact hlj
        cases hSj : S j with
        | false => rfl
        | true => exact absurd ⟨hlo, hlj'⟩ (high j l[j] (getl j hj) hij hSj).loud
      have hs := hact.loud hlo (slt l v S s l.length) hreads np ds
      rw [← hr1] at hs
      refine hs [] .normal _ ?_
      rw [hslots, hr2]
      exact .nil _
    · -- quiet
      have hrq := hact.quiet (by simpa using hlo)
      have hq : o.act.loud o.mode = false := by simpa using hlo
      have hr2 : rws l v (fun k => if k = i then true else S k) rows l.length = rws l v S rows l.length := by
        refine rws_agree _ S rows l.length fun j hj hlj => ?_
        have : j ≠ i := by
          intro e
          subst e
          rw [hload j o ho, hq] at hlj
          cases hlj
        simp [this]
      have hk : ∀ k ∈ fp, (rws l v S rows l.length)[k]? = (rlx v rows i)[k]? := by
        intro k hkf
        -- a step of a loud operation that is not ordered with this one leaves the row
        have stable : ∀ j, j < l.length → loudAt l j = true → j ∈ o.free → (rws l v allT rows (j + 1))[k]? = (rws l v allT rows j)[k]? := by
          intro j hj hlj hfree
          obtain ⟨fi, ni, fj, nj, e1, e2, e3⟩ := apartB_spec hap i o ho j hfree
          obtain ⟨pj, fpj, hpj, hactj, htrj⟩ := hlex j l[j] (getl j hj)
          rw [Nat.zero_add, htr] at e1
          rw [htrj] at e2
          simp only [Option.some.injEq, Prod.mk.injEq] at e1 e2
          obtain ⟨rfl, rfl⟩ := e1
          obtain ⟨rfl, rfl⟩ := e2
          obtain ⟨h1, h2⟩ := e3 k hkf
          have hlj' : l[j].act.loud l[j].mode = true := by rw [← hload j l[j] (getl j hj)]; exact hlj
          have h3 := hactj.frame hlj' k h2 h1
          rw [← hrl j (by omega)]
          simp only [rws, allT, Bool.true_and, hlj, if_true, hpj]
          exact h3
        have interval : ∀ c a, a ≤ c → c ≤ l.length → (∀ j, a ≤ j → j < c → loudAt l j = true → j ∈ o.free) → (rws l v allT rows c)[k]? = (rws l v allT rows a)[k]? := by
          intro c
          induction c with
          | zero => intro a ha _ _; rw [show a = 0 by omega]
          | succ c ih =>
            intro a ha hc hf
            by_cases hac : a = c + 1
            · rw [hac]
            · rw [← ih a (by omega) (by omega) fun j h1 h2 => hf j h1 (by omega)]
              by_cases hlc : loudAt l c = true
              · exact stable c (by omega) hlc (hf c (by omega) (by omega) hlc)
              · simp only [Bool.not_eq_true] at hlc
                simp only [rws, hlc, Bool.and_false, Bool.false_eq_true, if_false]
        -- how far the loud ones are done
        have bound : ∀ m, m ≤ l.length → ∃ b, b ≤ m ∧ (∀ j, b ≤ j → j < m → loudAt l j = true → S j = false) ∧ (b = 0 ∨ (0 < b ∧ loudAt l (b - 1) = true ∧ S (b - 1) = true)) := by
          intro m
          induction m with
          | zero => intro _; exact ⟨0, Nat.le_refl _, fun j _ hj => by omega, .inl rfl⟩
          | succ m ih =>
            intro hm
            by_cases hc : loudAt l m = true ∧ S m = true
            · exact ⟨m + 1, Nat.le_refl _, fun j h1 h2 => by omega, .inr ⟨by omega, hc⟩⟩
            · obtain ⟨b, h1, h2, h3⟩ := ih (by omega)
              refine ⟨b, by omega, fun j h4 h5 h6 => ?_, h3⟩
              by_cases hjm : j = m
              · subst hjm
                cases hSj : S j with
                | false => rfl
                | true => exact absurd ⟨h6, hSj⟩ hc
              · exact h2 j h4 (by omega) h6
        obtain ⟨b, hbn, hb1, hb2⟩ := bound l.length (Nat.le_refl _)
        have hbS : ∀ j, j < b → loudAt l j = true → S j = true := by
          intro j hj hlj
          rcases hb2 with rfl | ⟨h0, h1, h2⟩
          · omega
          · by_cases hjb : j = b - 1
            · rw [hjb]; exact h2
            · have hj1 : j < l.length := by omega
              have hb3 : b - 1 < l.length := by omega
              rcases apart2_spec (hreg.apart j (b - 1) l[j] l[b - 1] (getl j hj1) (getl _ hb3) (by omega)) with h3 | h3
              · exact anc_done hdS (b - 1) l[b - 1] (getl _ hb3) (hdS (b - 1) l[b - 1] (getl _ hb3) h2) j h3
              · exact absurd ⟨by rw [← hload j l[j] (getl j hj1)]; exact hlj, by rw [← hload (b - 1) l[b - 1] (getl _ hb3)]; exact h1⟩ h3.loud
        have hSb : rws l v S rows l.length = rws l v allT rows b := by
          rw [← pre2 b hbn]
          refine rws_agree S _ rows l.length fun j hj hlj => ?_
          by_cases hjb : j < b
          · simp only [hjb, decide_true]; exact hbS j hjb hlj
          · simp only [hjb, decide_false]; exact hb1 j (by omega) hj hlj
        rw [hSb, htr0]
        have notI : ∀ j, j = i → loudAt l j = true → False := fun j e hlj => by
          subst e
          rw [hload j o ho, hq] at hlj
          cases hlj
        rcases Nat.le_total b i with hbi | hbi
        · refine (interval i b hbi (by omega) fun j h1 h2 hlj => ?_).symm
          have hj1 : j < l.length := by omega
          have hlj' : l[j].act.loud l[j].mode = true := by rw [← hload j l[j] (getl j hj1)]; exact hlj
          exact (low j l[j] (getl j hj1) h2 (hb1 j h1 hj1 hlj)).fy hlj'
        · refine interval b i hbi hbn fun j h1 h2 hlj => ?_
          have hj1 : j < l.length := by omega
          have hlj' : l[j].act.loud l[j].mode = true := by rw [← hload j l[j] (getl j hj1)]; exact hlj
          have hji : i < j := by
            rcases Nat.lt_or_ge i j with q | q
            · exact q
            · exact (notI j (by omega) hlj).elim
          exact (high j l[j] (getl j hj1) hji (hbS j h2 hlj)).fx hlj'
      have hs := hact.still hq (slt l v S s l.length) (rws l v S rows l.length) hreads hk np ds
      refine hs [] .normal _ ?_
      rw [hslots, hr2]
      exact .nil _


end
end
end Go.Proofs.Ytfcfdedbbhdioaa.AI
