/- AI 19: regions that draw: the run in the text's order serves all orders. -/
import Derived.Test.YtakpglcmecbbmaaDoorAi18
namespace Go.Proofs.YtakpglcmecbbmaaDoor.AI
noncomputable section
open Go
set_option linter.unusedVariables false
set_option linter.unusedSimpArgs false

section
variable {P : Program} {G : List (Nat × Obj)} {C : Cfg} {call : FuncId → List AV → List Row → Out CRes} {rows rows2 : List Row} {s s2 : List AV}

theorem mapM_congr_opt {f g : AV → Option AV} : ∀ {l r : List AV}, (∀ x ∈ l, ∀ y, f x = some y → g x = some y) → l.mapM f = some r → l.mapM g = some r
  | [], r, h, e => by simpa using e
  | x :: l, r, h, e => by
    simp only [List.mapM_cons, Option.bind_eq_bind, Option.pure_def] at e ⊢
    cases hx : f x with
    | none => simp [hx] at e
    | some y =>
      cases hl : l.mapM f with
      | none => simp [hx, hl] at e
      | some ys =>
        have h1 := h x (by simp) y hx
        have h2 := mapM_congr_opt (fun z hz => h z (by simp [hz])) hl
        simp [hx, hl] at e
        simp [h1, h2, e]

theorem frzS_congr {f g : AV → Option AV} (h : ∀ x y, f x = some y → g x = some y) : ∀ {b b' : List Seg}, frzS f b = some b' → frzS g b = some b'
  | [], b', e => by simpa [frzS] using e
  | .avs l :: b, b', e => by
    simp only [frzS] at e ⊢
    split at e
    · rename_i l' b'' h1 h2
      rw [mapM_congr_opt (fun x _ => h x) h1, frzS_congr h h2]
      exact e
    · cases e
  | .ints k n l :: b, b', e => by
    simp only [frzS] at e ⊢
    split at e
    · rename_i b'' h2; rw [frzS_congr h h2]; exact e
    · cases e
  | .bools n l :: b, b', e => by
    simp only [frzS] at e ⊢
    split at e
    · rename_i b'' h2; rw [frzS_congr h h2]; exact e
    · cases e
  | .recs sz n f' :: b, b', e => by
    simp only [frzS] at e ⊢
    split at e
    · rename_i b'' h2; rw [frzS_congr h h2]; exact e
    · cases e

theorem frz_congr (hk : ∀ k, k < rows.length → rows2[k]? = rows[k]?) : ∀ (d : Nat) (x y : AV), frz d rows x = some y → frz d rows2 x = some y
  | 0, x, y, h => by simp [frz] at h
  | d + 1, x, y, h => by
    have ih := frz_congr hk d
    have row : ∀ k r, rows[k]? = some r → rows2[k]? = some r := fun k r hr => by
      have := (List.getElem?_eq_some_iff.1 hr).1
      rw [hk k this]; exact hr
    cases x with
    | sl k o n sz =>
      simp only [frz] at h ⊢
      split at h
      · rename_i t b hb
        rw [row _ _ hb]
        simp only
        split at h
        · rename_i b' hs
          simp only [Option.map_eq_some_iff] at h
          obtain ⟨z, hz, rfl⟩ := h
          first | rw [hs] | skip
          simp [frzS_congr ih hz]
        · cases h
      · cases h
    | ptr k o i =>
      simp only [frz] at h ⊢
      split at h
      · rename_i t b hb
        rw [row _ _ hb]
        simp only [Option.map_eq_some_iff] at h ⊢
        obtain ⟨z, hz, rfl⟩ := h
        exact ⟨z, frzS_congr ih hz, rfl⟩
      · cases h
    | agg b =>
      simp only [frz, Option.map_eq_some_iff] at h ⊢
      obtain ⟨z, hz, rfl⟩ := h
      exact ⟨z, frzS_congr ih hz, rfl⟩
    | tup l =>
      simp only [frz, Option.map_eq_some_iff] at h ⊢
      obtain ⟨z, hz, rfl⟩ := h
      exact ⟨z, mapM_congr_opt (fun x _ => ih x) hz, rfl⟩
    | fn f l =>
      simp only [frz, Option.map_eq_some_iff] at h ⊢
      obtain ⟨z, hz, rfl⟩ := h
      exact ⟨z, mapM_congr_opt (fun x _ => ih x) hz, rfl⟩
    | ifc t x =>
      simp only [frz, Option.map_eq_some_iff] at h ⊢
      obtain ⟨z, hz, rfl⟩ := h
      exact ⟨z, ih x z hz, rfl⟩
    | _ => first | exact h | simp [frz] at h

theorem lend_congr {lent : Bool} (hk : lent = true → ∀ k, k < rows.length → rows2[k]? = rows[k]?) (x y : AV) (h : lend lent rows x = some y) : lend lent rows2 x = some y := by
  unfold lend at h ⊢
  cases lent
  · rw [if_neg (by simp)] at h ⊢
    exact h
  · rw [if_pos rfl] at h ⊢
    exact frz_congr (hk rfl) 8 x y h

def lentCall (call : FuncId → List AV → List Row → Out CRes) (lent : Bool) (f : FuncId) (xs : List AV) (rows : List Row) : Out CRes :=
  match xs.mapM (lend lent rows) with
  | some xs' =>
    match call f xs' [] with
    | .ok (.ret r []) => if (if lent then r.plain 6 else r.pur 6) then .ok (.ret r rows) else .no (.back f r)
    | .ok (.ret r (_ :: _)) => .no (.back f r)
    | .ok (.panic r _) => .no (.back f r)
    | .no w => .no w
  | none => .no (.lend f xs)

theorem doCall_ne {mode : Nat} {f : FuncId} {xs : List AV} (ha : autoMode (C.keep f) xs mode ≠ 0) : doCall C call mode f xs rows = lentCall call (autoMode (C.keep f) xs mode == 2) f xs rows := by
  unfold doCall
  split
  · rename_i h0; exact absurd h0 ha
  · rfl

/-- A call by a mode that is not 0: the rows stay; of them it sees what is lent. -/
theorem doCall_quiet {mode : Nat} (hm : mode ≠ 0) {f : FuncId} {xs : List AV} {res : CRes} (h : doCall C call mode f xs rows = .ok res) (hk : mode ≠ 1 → ∀ k, k < rows.length → rows2[k]? = rows[k]?) :
    ∃ r, res = .ret r rows ∧ doCall C call mode f xs rows2 = .ok (.ret r rows2) := by
  have ha : autoMode (C.keep f) xs mode ≠ 0 := by
    unfold autoMode
    rw [if_neg (by simp [hm])]
    split <;> omega
  have hl2 : (autoMode (C.keep f) xs mode == 2) = true → mode ≠ 1 := by
    intro e e1
    subst e1
    unfold autoMode at e
    rw [if_neg (by simp)] at e
    split at e <;> simp at e
  rw [doCall_ne ha] at h ⊢
  generalize hlent : (autoMode (C.keep f) xs mode == 2) = lent at h hl2 ⊢
  unfold lentCall at h ⊢
  cases hl : xs.mapM (lend lent rows) with
  | none => rw [hl] at h; cases h
  | some xs' =>
    rw [hl] at h
    have hl' : xs.mapM (lend lent rows2) = some xs' := mapM_congr_opt (fun x _ y hy => lend_congr (fun e => hk (hl2 e)) x y hy) hl
    rw [hl']
    simp only at h ⊢
    cases hc : call f xs' [] with
    | no w => rw [hc] at h; cases h
    | ok c =>
      rw [hc] at h
      cases c with
      | panic x r => cases h
      | ret r rs =>
        cases rs with
        | cons _ _ => cases h
        | nil =>
          simp only at h ⊢
          by_cases hp : (if lent = true then r.plain 6 else r.pur 6) = true
          · rw [if_pos hp] at h ⊢
            injection h with h
            exact ⟨r, h.symm, rfl⟩
          · rw [if_neg hp] at h; cases h

theorem noSelB_spec {a : AAct} (h : noSelB a = true) : ∀ x, a = .op x → x.noSel := by
  intro x hx
  subst hx
  cases x <;> try trivial
  rename_i o
  intro cs b hb
  simp [noSelB, hb] at h

theorem map_ev_congr {l : List Opd} (h : ∀ y ∈ l, Opd.ev s2 y = Opd.ev s y) : l.map (Opd.ev s2) = l.map (Opd.ev s) := List.map_congr_left h

theorem guard_congr {o : AOper} (h : ∀ y ∈ o.reads, Opd.ev s2 y = Opd.ev s y) : guardE (Opd.ev s2) o.guard = guardE (Opd.ev s) o.guard := by
  cases hg : o.guard with
  | none => rfl
  | some p =>
    obtain ⟨t, w⟩ := p
    have := h (.tm t) (by simp [AOper.reads, hg])
    simp only [guardE, this]

theorem act1_slots {o : AOper} (hn : noSelB o.act = true) (h : ∀ y ∈ o.reads, Opd.ev s2 y = Opd.ev s y) : act1 C call o (Opd.ev s2) rows = act1 C call o (Opd.ev s) rows := by
  have hop : ∀ y ∈ o.act.opds, Opd.ev s2 y = Opd.ev s y := fun y hy => h y (by simp only [AOper.reads, List.mem_append]; exact .inr hy)
  unfold act1
  rw [guard_congr h]
  cases hact : o.act with
  | op a =>
    rw [hact] at hop
    have e1 : aopF a C.P (Opd.ev s2) rows = aopF a C.P (Opd.ev s) rows := aop_slots (P := C.P) (noSelB_spec hn a hact) hop
    have e2 : a.opds.map (Opd.ev s2) = a.opds.map (Opd.ev s) := map_ev_congr hop
    simp only [actF, e1, e2]
  | call f args =>
    rw [hact] at hop
    simp only [actF, map_ev_congr (s := s) (s2 := s2) (l := args) hop]
  | callv fx args =>
    rw [hact] at hop
    have e1 := hop fx (by simp [AAct.opds])
    have e2 := map_ev_congr (s := s) (s2 := s2) (l := args) fun y hy => hop y (by simp [AAct.opds, hy])
    simp only [actF, e1, e2]
  | panic x =>
    rw [hact] at hop
    simp only [actF, hop x (by simp [AAct.opds])]
  | defer x =>
    rw [hact] at hop
    simp only [actF, hop x (by simp [AAct.opds])]
  | recov => rfl

theorem act1_quiet {o : AOper} (hq : o.act.loud o.mode = false) {x : AV} {rows' : List Row} (h : act1 C call o (Opd.ev s) rows = .ok (.val x rows')) (hk : ∀ k ∈ o.act.fp o.mode (Opd.ev s) rows, rows2[k]? = rows[k]?) :
    rows' = rows ∧ act1 C call o (Opd.ev s) rows2 = .ok (.val x rows2) := by
  unfold act1 at h ⊢
  split at h
  · rename_i hg
    try rw [hg]
    try simp only
    cases hact : o.act with
    | op a =>
      rw [hact] at h hq hk
      simp only [actF] at h ⊢
      split at h
      · rename_i x' r' ha
        simp only [Out.ok.injEq, Act1.val.injEq] at h
        obtain ⟨rfl, rfl⟩ := h
        obtain ⟨h1, h2⟩ := aop_quiet (P := C.P) (s := s) (rows := rows) (rows2 := rows2) hq ha hk
        refine ⟨h1, ?_⟩
        have h2' : aopF a C.P (Opd.ev s) rows2 = some (x', rows2, true) := h2
        rw [h2']
      · cases h
    | call f args =>
      rw [hact] at h hq hk
      simp only [actF, AAct.loud, beq_eq_false_iff_ne] at h hq ⊢
      split at h
      · rename_i r r' hd
        simp only [Out.ok.injEq, Act1.val.injEq] at h
        obtain ⟨rfl, rfl⟩ := h
        obtain ⟨r2, h1, h2⟩ := doCall_quiet (rows2 := rows2) hq hd fun h1 k hkl => hk k (by
          simp only [AAct.fp]
          simpa using hkl)
        injection h1 with h1 h3
        subst h1 h3
        exact ⟨rfl, by rw [h2]⟩
      · simp at h
      · cases h
    | callv fx args =>
      rw [hact] at h hq hk
      simp only [actF, AAct.loud, beq_eq_false_iff_ne] at h hq ⊢
      split at h
      · rename_i f caps hf
        split at h
        · rename_i hs
          try rw [hf]
          simp only [hs, if_true]
          split at h
          · rename_i r r' hd
            simp only [Out.ok.injEq, Act1.val.injEq] at h
            obtain ⟨rfl, rfl⟩ := h
            obtain ⟨r2, h1, h2⟩ := doCall_quiet (rows2 := rows2) hq hd fun h1 k hkl => hk k (by
              simp only [AAct.fp]
              simpa using hkl)
            injection h1 with h1 h3
            subst h1 h3
            exact ⟨rfl, by rw [h2]⟩
          · simp at h
          · cases h
        · cases h
      · cases h
    | panic x => rw [hact] at hq; simp [AAct.loud] at hq
    | defer x => rw [hact] at hq; simp [AAct.loud] at hq
    | recov => rw [hact] at hq; simp [AAct.loud] at hq
  · rename_i hg
    simp only [Out.ok.injEq, Act1.val.injEq] at h
    obtain ⟨rfl, rfl⟩ := h
    exact ⟨rfl, rfl⟩
  · cases h

theorem act1_loud {o : AOper} (hlo : o.act.loud o.mode = true) {x : AV} {rows' : List Row} (h : act1 C call o (Opd.ev s) rows = .ok (.val x rows')) (k : Nat) (hl : k < rows.length) (hk : k ∉ o.act.fp o.mode (Opd.ev s) rows) : rows'[k]? = rows[k]? := by
  unfold act1 at h
  split at h
  · cases hact : o.act with
    | op a =>
      rw [hact] at h hk
      simp only [actF] at h
      split at h
      · rename_i x' r' ha
        simp only [Out.ok.injEq, Act1.val.injEq] at h
        obtain ⟨rfl, rfl⟩ := h
        exact aop_loud (P := C.P) (s := s) ha k hl hk
      · cases h
    | call f args =>
      rw [hact] at hk hlo
      simp only [AAct.loud, beq_iff_eq] at hlo
      exact absurd (by simp only [AAct.fp, hlo]; simpa using hl) hk
    | callv f args =>
      rw [hact] at hk hlo
      simp only [AAct.loud, beq_iff_eq] at hlo
      exact absurd (by simp only [AAct.fp, hlo]; simpa using hl) hk
    | panic x => rw [hact] at h; simp only [actF] at h; split at h <;> simp at h
    | defer x => rw [hact] at h; simp only [actF] at h; split at h <;> simp at h
    | recov => rw [hact] at h; simp [actF] at h
  · simp only [Out.ok.injEq, Act1.val.injEq] at h
    obtain ⟨rfl, rfl⟩ := h
    rfl
  · cases h

end
end
end Go.Proofs.YtakpglcmecbbmaaDoor.AI
