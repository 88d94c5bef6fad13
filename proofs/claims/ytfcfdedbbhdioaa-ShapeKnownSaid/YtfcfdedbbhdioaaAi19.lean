/- AI 19: regions that draw: the run in the text's order serves all orders. -/
import Derived.Test.YtfcfdedbbhdioaaAi18
namespace Go.Proofs.Ytfcfdedbbhdioaa.AI
noncomputable section
open Go
set_option linter.unusedVariables false
set_option linter.unusedSimpArgs false

section
variable {P : Program} {G : List (Nat × Obj)} {C : Cfg} {call : FuncId → List AV → List Row → Out CRes} {rows rows2 : List Row} {s s2 : List AV}

theorem mapM_congr_opt {f g : AV → Option AV} : ∀ {l r : List AV}, (∀ x ∈ l, ∀ y, f x = some y → g x = some y) → l.mapM f = some r → l.mapM g = some r
  | [], r, h, e => by simpa using e
  | x :: l, r, h, e => by
    simp only [List.mapM_cons, Option.bind_eq_bind, Option.pure_def] at e ⊢
    cases hx : f x with
    | none => simp [hx] at e
    | some y =>
      cases hl : l.mapM f with
      | none => simp [hx, hl] at e
      | some ys =>
        have h1 := h x (by simp) y hx
        have h2 := mapM_congr_opt (fun z hz => h z (by simp [hz])) hl
        simp [hx, hl] at e
        simp [h1, h2, e]

theorem frzS_congr {f g : AV → Option AV} (h : ∀ x y, f x = some y → g x = some y) : ∀ {b b' : List Seg}, frzS f b = some b' → frzS g b = some b'
  | [], b', e => by simpa [frzS] using e
  | .avs l :: b, b', e => by
    simp only [frzS] at e ⊢
    split at e
    · rename_i l' b'' h1 h2
      rw [mapM_congr_opt (fun x _ => h x) h1, frzS_congr h h2]
      exact e
    · cases e
  | .ints k n l :: b, b', e => by
    simp only [frzS] at e ⊢
    split at e
    · rename_i b'' h2; rw [frzS_congr h h2]; exact e
    · cases e
  | .bools n l :: b, b', e => by
    simp only [frzS] at e ⊢
    split at e
    · rename_i b'' h2; rw [frzS_congr h h2]; exact e
    · cases e
  | .recs sz n f' :: b, b', e => by
    simp only [frzS] at e ⊢
    split at e
    · rename_i b'' h2; rw [frzS_congr h h2]; exact e
    · cases e

theorem frz_congr (hk : ∀ k, k < rows.length → rows2[k]? = rows[k]?) : ∀ (d : Nat) (x y : AV), frz d rows x = some y → frz d rows2 x = some y
  | 0, x, y, h => by simp [frz] at h
  | d + 1, x, y, h => by
    have ih := frz_congr hk d
    have row : ∀ k r, rows[k]? = some r → rows2[k]? = some r := fun k r hr => by
      have := (List.getElem?_eq_some_iff.1 hr).1
      rw [hk k this]; exact hr
    cases x with
    | sl k o n sz =>
      simp only [frz] at h ⊢
      split at h
      · rename_i t b hb
        rw [row _ _ hb]
        simp only
        split at h
        · rename_i b' hs
          simp only [Option.map_eq_some_iff] at h
          obtain ⟨z, hz, rfl⟩ := h
          first | rw [hs] | skip
          simp [frzS_congr ih hz]
        · cases h
      · cases h
    | ptr k o i =>
      simp only [frz] at h ⊢
      split at h
      · rename_i t b hb
        rw [row _ _ hb]
        simp only [Option.map_eq_some_iff] at h ⊢
        obtain ⟨z, hz, rfl⟩ := h
        exact ⟨z, frzS_congr ih hz, rfl⟩
      · cases h
    | agg b =>
      simp only [frz, Option.map_eq_some_iff] at h ⊢
      obtain ⟨z, hz, rfl⟩ := h
      exact ⟨z, frzS_congr ih hz, rfl⟩
    | tup l =>
      simp only [frz, Option.map_eq_some_iff] at h ⊢
      obtain ⟨z, hz, rfl⟩ := h
      exact ⟨z, mapM_congr_opt (fun x _ => ih x) hz, rfl⟩
    | fn f l =>
      simp only [frz, Option.map_eq_some_iff] at h ⊢
      obtain ⟨z, hz, rfl⟩ := h
      exact ⟨z, mapM_congr_opt (fun x _ => ih x) hz, rfl⟩
    | ifc t x =>
      simp only [frz, Option.map_eq_some_iff] at h ⊢
      obtain ⟨z, hz, rfl⟩ := h
      exact ⟨z, ih x z hz, rfl⟩
    | _ => first | exact h | simp [frz] at h

theorem lend_congr {lent : Bool} (hk : lent = true → ∀ k, k < rows.length → rows2[k]? = rows[k]?) (x y : AV) (h : lend lent rows x = some y) : lend lent rows2 x = some y := by
  unfold lend at h ⊢
  cases lent
  · rw [if_neg (by simp)] at h ⊢
    exact h
  · rw [if_pos rfl] at h ⊢
    exact frz_congr (hk rfl) 8 x y h

theorem doCall_ne {mode : Nat} {f : FuncId} {xs : List AV} (ha : autoMode (C.keep f) xs mode ≠ 0) (ha3 : autoMode (C.keep f) xs mode ≠ 3) : doCall C call mode f xs rows = lentCall call (autoMode (C.keep f) xs mode) f xs rows := by
  unfold doCall
  split
  · rename_i h0; exact absurd h0 ha
  · rename_i h0; exact absurd h0 ha3
  · rfl

theorem autoMode_ne {keep : Bool} {xs : List AV} {mode : Nat} (h0 : mode ≠ 0) (h3 : mode ≠ 3) : autoMode keep xs mode = if Nat.beq mode 4 then 4 else if xs.all (AV.pur 6) then 1 else mode := by
  unfold autoMode
  have e0 : Nat.beq mode 0 = false := by cases h : Nat.beq mode 0 with | false => rfl | true => exact absurd (Nat.eq_of_beq_eq_true h) h0
  have e3 : Nat.beq mode 3 = false := by cases h : Nat.beq mode 3 with | false => rfl | true => exact absurd (Nat.eq_of_beq_eq_true h) h3
  simp [e0, e3]

/-- A call by a mode that is not 0, nor 3: the rows stay; of them it sees what is lent. -/
theorem doCall_quiet {mode : Nat} (hm : mode ≠ 0) (hm3 : mode ≠ 3) {f : FuncId} {xs : List AV} {res : CRes} (h : doCall C call mode f xs rows = .ok res) (hk : mode ≠ 1 → ∀ k, k < rows.length → rows2[k]? = rows[k]?) :
    ∃ r, res = .ret r rows ∧ doCall C call mode f xs rows2 = .ok (.ret r rows2) := by
  have ha := autoMode_ne (keep := C.keep f) (xs := xs) hm hm3
  have ha0 : autoMode (C.keep f) xs mode ≠ 0 := by
    rw [ha]
    split
    · omega
    · split <;> omega
  have ha3 : autoMode (C.keep f) xs mode ≠ 3 := by
    rw [ha]
    split
    · omega
    · split <;> omega
  have hl2 : lentOf (autoMode (C.keep f) xs mode) = true → mode ≠ 1 := by
    rintro e rfl
    rw [ha] at e
    have : (if Nat.beq 1 4 = true then 4 else if xs.all (AV.pur 6) = true then 1 else 1) = 1 := by
      rw [if_neg (by decide)]
      split <;> rfl
    rw [this] at e
    exact absurd e (by decide)
  rw [doCall_ne ha0 ha3] at h ⊢
  generalize autoMode (C.keep f) xs mode = m at h hl2 ⊢
  unfold lentCall at h ⊢
  cases hl : xs.mapM (lend (lentOf m) rows) with
  | none => rw [hl] at h; cases h
  | some xs' =>
    rw [hl] at h
    have hl' : xs.mapM (lend (lentOf m) rows2) = some xs' := mapM_congr_opt (fun x _ y hy => lend_congr (fun e => hk (hl2 e)) x y hy) hl
    rw [hl']
    simp only at h ⊢
    split at h
    · rename_i r rows1 hc
      split at h
      · rename_i r' hb
        injection h with h
        exact ⟨r', h.symm, rfl⟩
      · cases h
    · cases h
    · cases h

theorem noSelB_spec {a : AAct} (h : noSelB a = true) : ∀ x, a = .op x → x.noSel := by
  intro x hx
  subst hx
  cases x <;> try trivial
  rename_i o
  intro cs b hb
  simp [noSelB, hb] at h

theorem map_ev_congr {l : List Opd} (h : ∀ y ∈ l, Opd.ev s2 y = Opd.ev s y) : l.map (Opd.ev s2) = l.map (Opd.ev s) := List.map_congr_left h

theorem guard_congr {o : AOper} (h : ∀ y ∈ o.reads, Opd.ev s2 y = Opd.ev s y) : guardE (Opd.ev s2) o.guard = guardE (Opd.ev s) o.guard := by
  cases hg : o.guard with
  | none => rfl
  | some p =>
    obtain ⟨t, w⟩ := p
    have := h (.tm t) (by simp [AOper.reads, hg])
    simp only [guardE, this]

theorem act1_slots {o : AOper} (hn : noSelB o.act = true) (h : ∀ y ∈ o.reads, Opd.ev s2 y = Opd.ev s y) : act1 C call o (Opd.ev s2) rows = act1 C call o (Opd.ev s) rows := by
  have hop : ∀ y ∈ o.act.opds, Opd.ev s2 y = Opd.ev s y := fun y hy => h y (by simp only [AOper.reads, List.mem_append]; exact .inr hy)
  unfold act1
  rw [guard_congr h]
  cases hact : o.act with
  | op a =>
    rw [hact] at hop
    have e1 : aopF a C.P (Opd.ev s2) rows = aopF a C.P (Opd.ev s) rows := aop_slots (P := C.P) (noSelB_spec hn a hact) hop
    have e2 : a.opds.map (Opd.ev s2) = a.opds.map (Opd.ev s) := map_ev_congr hop
    simp only [actF, e1, e2]
  | call f args =>
    rw [hact] at hop
    simp only [actF, map_ev_congr (s := s) (s2 := s2) (l := args) hop]
  | callv fx args =>
    rw [hact] at hop
    have e1 := hop fx (by simp [AAct.opds])
    have e2 := map_ev_congr (s := s) (s2 := s2) (l := args) fun y hy => hop y (by simp [AAct.opds, hy])
    simp only [actF, e1, e2]
  | panic x =>
    rw [hact] at hop
    simp only [actF, hop x (by simp [AAct.opds])]
  | defer x =>
    rw [hact] at hop
    simp only [actF, hop x (by simp [AAct.opds])]
  | recov => rfl

theorem act1_quiet {o : AOper} (hq : o.act.loud o.mode = false) {x : AV} {rows' : List Row} (h : act1 C call o (Opd.ev s) rows = .ok (.val x rows')) (hk : ∀ k ∈ o.act.fp o.mode (Opd.ev s) rows, rows2[k]? = rows[k]?) :
    rows' = rows ∧ act1 C call o (Opd.ev s) rows2 = .ok (.val x rows2) := by
  unfold act1 at h ⊢
  split at h
  · rename_i hg
    try rw [hg]
    try simp only
    cases hact : o.act with
    | op a =>
      rw [hact] at h hq hk
      simp only [actF] at h ⊢
      split at h
      · rename_i x' r' ha
        simp only [Out.ok.injEq, Act1.val.injEq] at h
        obtain ⟨rfl, rfl⟩ := h
        obtain ⟨h1, h2⟩ := aop_quiet (P := C.P) (s := s) (rows := rows) (rows2 := rows2) hq ha hk
        refine ⟨h1, ?_⟩
        have h2' : aopF a C.P (Opd.ev s) rows2 = some (x', rows2, true) := h2
        rw [h2']
      · cases h
    | call f args =>
      rw [hact] at h hq hk
      simp only [actF, AAct.loud, Bool.or_eq_false_iff, beq_eq_false_iff_ne] at h hq ⊢
      split at h
      · rename_i r r' hd
        simp only [Out.ok.injEq, Act1.val.injEq] at h
        obtain ⟨rfl, rfl⟩ := h
        obtain ⟨r2, h1, h2⟩ := doCall_quiet (rows2 := rows2) hq.1 hq.2 hd fun h1 k hkl => hk k (by
          simp only [AAct.fp]
          split
          · exact absurd (by assumption) h1
          · exact absurd (by assumption) hq.2
          · simpa using hkl)
        injection h1 with h1 h3
        subst h1 h3
        exact ⟨rfl, by rw [h2]⟩
      · simp at h
      · cases h
    | callv fx args =>
      rw [hact] at h hq hk
      simp only [actF, AAct.loud, Bool.or_eq_false_iff, beq_eq_false_iff_ne] at h hq ⊢
      split at h
      · rename_i f caps hf
        split at h
        · rename_i hs
          try rw [hf]
          simp only [hs, if_true]
          split at h
          · rename_i r r' hd
            simp only [Out.ok.injEq, Act1.val.injEq] at h
            obtain ⟨rfl, rfl⟩ := h
            obtain ⟨r2, h1, h2⟩ := doCall_quiet (rows2 := rows2) hq.1 hq.2 hd fun h1 k hkl => hk k (by
              simp only [AAct.fp]
              split
              · exact absurd (by assumption) h1
              · exact absurd (by assumption) hq.2
              · simpa using hkl)
            injection h1 with h1 h3
            subst h1 h3
            exact ⟨rfl, by rw [h2]⟩
          · simp at h
          · cases h
        · cases h
      · cases h
    | panic x => rw [hact] at hq; simp [AAct.loud] at hq
    | defer x => rw [hact] at hq; simp [AAct.loud] at hq
    | recov => rw [hact] at hq; simp [AAct.loud] at hq
  · rename_i hg
    simp only [Out.ok.injEq, Act1.val.injEq] at h
    obtain ⟨rfl, rfl⟩ := h
    exact ⟨rfl, rfl⟩
  · cases h

theorem posIn_out : ∀ {l : List Nat} {i : Nat}, i ∉ l → posIn l i = none
  | [], i, _ => rfl
  | x :: r, i, h => by
    simp only [List.mem_cons, not_or] at h
    simp only [posIn]
    rw [if_neg (Ne.symm h.1), posIn_out h.2]
    rfl

theorem backRows_other {rows rows1 : List Row} {ids : List Nat} {k : Nat} (hl : k < rows.length) (hk : k ∉ ids) : (backRows rows ids rows1)[k]? = rows[k]? := by
  rw [back_rows_eq, List.getElem?_append_left (by simpa using hl)]
  simp only [List.getElem?_map, List.getElem?_range hl, Option.map_some, posIn_out hk]
  simp [hl]

theorem doCall_sub {f : FuncId} {xs : List AV} {x : AV} {rows' : List Row} (h : doCall C call 3 f xs rows = .ok (.ret x rows')) (k : Nat) (hl : k < rows.length) (hk : k ∉ reachOf rows xs) : rows'[k]? = rows[k]? := by
  unfold doCall at h
  split at h
  · rename_i h0
    unfold autoMode at h0
    rw [if_neg (by decide)] at h0
    split at h0
    · cases h0
    · split at h0 <;> cases h0
  · unfold subCall at h
    split at h
    · split at h
      · injection h with h
        injection h with h1 h2
        subst h1 h2
        exact backRows_other hl hk
      all_goals cases h
    · cases h
  · unfold lentCall at h
    split at h
    · split at h
      · split at h
        · injection h with h
          injection h with h1 h2
          subst h1 h2
          rfl
        · cases h
      all_goals cases h
    · cases h

theorem act1_loud {o : AOper} (hlo : o.act.loud o.mode = true) {x : AV} {rows' : List Row} (h : act1 C call o (Opd.ev s) rows = .ok (.val x rows')) (k : Nat) (hl : k < rows.length) (hk : k ∉ o.act.fp o.mode (Opd.ev s) rows) : rows'[k]? = rows[k]? := by
  unfold act1 at h
  split at h
  · cases hact : o.act with
    | op a =>
      rw [hact] at h hk
      simp only [actF] at h
      split at h
      · rename_i x' r' ha
        simp only [Out.ok.injEq, Act1.val.injEq] at h
        obtain ⟨rfl, rfl⟩ := h
        exact aop_loud (P := C.P) (s := s) ha k hl hk
      · cases h
    | call f args =>
      rw [hact] at h hk hlo
      simp only [AAct.loud, Bool.or_eq_true, beq_iff_eq] at hlo
      rcases hlo with hlo | hlo
      · exact absurd (by simp only [AAct.fp, hlo]; simpa using hl) hk
      · simp only [actF, hlo] at h
        simp only [AAct.fp, hlo] at hk
        split at h
        · rename_i r r' hd
          simp only [Out.ok.injEq, Act1.val.injEq] at h
          obtain ⟨rfl, rfl⟩ := h
          exact doCall_sub hd k hl hk
        · simp at h
        · cases h
    | callv fx args =>
      rw [hact] at h hk hlo
      simp only [AAct.loud, Bool.or_eq_true, beq_iff_eq] at hlo
      rcases hlo with hlo | hlo
      · exact absurd (by simp only [AAct.fp, hlo]; simpa using hl) hk
      · simp only [actF, hlo] at h
        simp only [AAct.fp, hlo] at hk
        split at h
        · rename_i f caps hf
          rw [hf] at hk
          simp only at hk
          split at h
          · split at h
            · rename_i r r' hd
              simp only [Out.ok.injEq, Act1.val.injEq] at h
              obtain ⟨rfl, rfl⟩ := h
              exact doCall_sub hd k hl hk
            · simp at h
            · cases h
          · cases h
        · cases h
    | panic x => rw [hact] at h; simp only [actF] at h; split at h <;> simp at h
    | defer x => rw [hact] at h; simp only [actF] at h; split at h <;> simp at h
    | recov => rw [hact] at h; simp [actF] at h
  · simp only [Out.ok.injEq, Act1.val.injEq] at h
    obtain ⟨rfl, rfl⟩ := h
    rfl
  · cases h

end
end
end Go.Proofs.Ytfcfdedbbhdioaa.AI
