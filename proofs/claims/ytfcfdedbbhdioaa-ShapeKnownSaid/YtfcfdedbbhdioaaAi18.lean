/- AI 18: the run is right: slots in pieces; one operation; operations one behind the other. -/
import Derived.Test.YtfcfdedbbhdioaaAi16
namespace Go.Proofs.Ytfcfdedbbhdioaa.AI
noncomputable section
open Go
set_option linter.unusedVariables false
set_option linter.unusedSimpArgs false

theorem nthL_getD (l : List (List AV)) (n : Nat) : nthL l n = l.getD n [] := by rw [nthL_eq]; rfl
theorem modL_modify (l : List (List AV)) (n : Nat) (f : List AV → List AV) : modL l n f = l.modify n f := by rw [modL_eq]; rfl

def Rep (ss : List (List AV)) (s : List AV) : Prop := ∀ i, cget ss i = lget s i ∧ (i % 8 < (nthL ss (i / 8)).length ↔ i < s.length)

theorem Rep.ev {ss : List (List AV)} {s : List AV} (h : Rep ss s) : evC ss = Opd.ev s := by
  funext x
  cases x with
  | tm i => exact (h i).1
  | cst v => rfl

theorem lget_lset (l : List AV) (d i : Nat) (x : AV) : lget (lset l d x) i = if i = d then (if d < l.length then x else .junk) else lget l i := by
  rw [lset_set, lget_getD, lget_getD]
  by_cases h : i = d
  · subst h
    by_cases hl : i < l.length <;> simp [List.getD, hl]
  · rw [if_neg h]
    simp [List.getD, List.getElem?_set_ne (Ne.symm h)]

theorem lset_length (l : List AV) (d : Nat) (x : AV) : (lset l d x).length = l.length := by rw [lset_set]; simp

theorem nthL_cset (ss : List (List AV)) (d k : Nat) (x : AV) : nthL (cset ss d x) k = if k = d / 8 then lset (nthL ss (d / 8)) (d % 8) x else nthL ss k := by
  unfold cset
  rw [modL_modify, nthL_getD, nthL_getD, nthL_getD]
  show (ss.modify (d / 8) fun c => lset c (d % 8) x).getD k [] = _
  simp only [List.getD, List.getElem?_modify]
  by_cases h : k = d / 8
  · subst h
    simp only [if_true]
    cases hs : ss[d / 8]? with
    | none => simp [lset_set]
    | some c => simp
  · rw [if_neg h]
    cases hs : ss[k]? with
    | none => rfl
    | some c => simp only [Functor.map, Option.map, if_neg (Ne.symm h)]

theorem Rep.put {ss : List (List AV)} {s : List AV} (h : Rep ss s) (d : Nat) (x : AV) : Rep (cset ss d x) (lset s d x) := by
  intro i
  have hi := h i
  have hd := h d
  refine ⟨?_, ?_⟩
  · show lget (nthL (cset ss d x) (i / 8)) (i % 8) = _
    rw [nthL_cset, lget_lset]
    by_cases h1 : i / 8 = d / 8
    · rw [if_pos h1, lget_lset]
      by_cases h2 : i % 8 = d % 8
      · have : i = d := by omega
        subst this
        rw [if_pos rfl, if_pos rfl]
        by_cases h3 : i < s.length
        · rw [if_pos h3, if_pos (hd.2.2 h3)]
        · rw [if_neg h3, if_neg fun q => h3 (hd.2.1 q)]
      · rw [if_neg h2, if_neg fun e => h2 (by rw [e]), ← h1]
        exact hi.1
    · rw [if_neg h1, if_neg fun e => h1 (by rw [e])]
      exact hi.1
  · rw [nthL_cset, lset_length]
    by_cases h1 : i / 8 = d / 8
    · rw [if_pos h1, lset_length, ← h1]
      exact hi.2
    · rw [if_neg h1]
      exact hi.2

theorem nthL_chunks : ∀ (n k : Nat) (l : List AV), l.length < 8 * n → nthL (chunks n l) k = (l.drop (8 * k)).take 8
  | 0, k, l, h => by omega
  | n + 1, 0, l, h => by rw [nthL_getD]; simp [chunks]
  | n + 1, k + 1, l, h => by
    have e : nthL (chunks (n + 1) l) (k + 1) = nthL (chunks n (l.drop 8)) k := by rw [nthL_getD, nthL_getD]; simp [chunks]
    rw [e]
    by_cases h8 : l.length < 8
    · have hd : l.drop 8 = [] := List.drop_eq_nil_of_le (by omega)
      have hd2 : l.drop (8 * (k + 1)) = [] := List.drop_eq_nil_of_le (by omega)
      rw [hd, hd2, nthL_getD]
      have : ∀ (n k : Nat), (chunks n []).getD k [] = [] := by
        intro n
        induction n with
        | zero => intro k; simp [chunks]
        | succ n ih => intro k; cases k with
          | zero => simp [chunks]
          | succ k => simpa [chunks] using ih k
      rw [this]; rfl
    · rw [nthL_chunks n k (l.drop 8) (by simp; omega), List.drop_drop]
      congr 2
      omega

theorem Rep.of (l : List AV) : Rep (chunksOf l) l := by
  intro i
  have hk : nthL (chunksOf l) (i / 8) = (l.drop (8 * (i / 8))).take 8 := nthL_chunks _ _ _ (by omega)
  refine ⟨?_, ?_⟩
  · show lget (nthL (chunksOf l) (i / 8)) (i % 8) = _
    rw [hk, lget_getD, lget_getD]
    simp only [List.getD, List.getElem?_take, List.getElem?_drop]
    rw [if_pos (Nat.mod_lt _ (by omega)), show 8 * (i / 8) + i % 8 = i by omega]
  · rw [hk]
    simp only [List.length_take, List.length_drop]
    omega

theorem guardE_ev (s : List AV) (g : Option (Nat × Bool)) : guardE (Opd.ev s) g = guardSays s g := by
  cases g <;> rfl

def putL (s : List AV) (d : Option Nat) (x : AV) : List AV := match d with | some d => lset s d x | none => s

theorem put_mk (s : List AV) (rows : List Row) (np : Nat) (ds : List (FuncId × List AV)) (d : Option Nat) (x : AV) : (St.mk s rows np ds).put d x = ⟨putL s d x, rows, np, ds⟩ := by cases d <;> rfl

theorem Rep.putS {ss : List (List AV)} {s : List AV} (h : Rep ss s) (d : Option Nat) (x : AV) : Rep (AI.putS ss d x) (putL s d x) := by
  cases d with
  | none => exact h
  | some d => exact h.put d x

structure CfgOK (P : Program) (G : List (Nat × Obj)) (C : Cfg) : Prop where
  hP : C.P = P
  hm : P.follows .mixedOrders = true
  fn : ∀ (f : FuncId) (afn : AFn), C.fn f = some afn → FnOK P f afn ∧ calleeOK P f ∧ codeOKB afn.code = true
  prim : ∀ (f : FuncId) (args : List AV) (rows : List Row) (r : CRes), C.prim f args rows = some r → CallOK P G f args rows r

section
variable {P : Program} {G : List (Nat × Obj)} {C : Cfg} {call : FuncId → List AV → List Row → Out CRes}

theorem doCall_sound (hcall : ∀ f args rows res, call f args rows = .ok res → Ev P G (.call f args rows res)) {mode : Nat} {f : FuncId} {xs : List AV} {rows : List Row} {res : CRes} (h : doCall C call mode f xs rows = .ok res) :
    Ev P G (.call f xs rows res) ∨ (∃ m xs' r rows1 r', xs.mapM (lend (lentOf m) rows) = some xs' ∧ Ev P G (.call f xs' [] (.ret r rows1)) ∧ lentBack m r rows1 = some r' ∧ res = .ret r' rows) ∨
      ∃ ids r rows1, idsOK rows.length ids = true ∧ Ev P G (.call f (xs.map fun x => x.ren 6 (posIn ids)) (subRows rows ids) (.ret r rows1)) ∧ res = .ret (r.ren 6 (backRen ids rows.length)) (backRows rows ids rows1) := by
  unfold doCall at h
  split at h
  · exact .inl (hcall _ _ _ _ h)
  · unfold subCall at h
    split at h
    · rename_i hid
      split at h
      · rename_i r rows1 hr
        injection h with h
        exact .inr (.inr ⟨_, r, rows1, hid, hcall _ _ _ _ hr, h.symm⟩)
      all_goals cases h
    · cases h
  · unfold lentCall at h
    split at h
    · rename_i xs' hl
      split at h
      · rename_i r rows1 hr
        split at h
        · rename_i r' hb
          injection h with h
          exact .inr (.inl ⟨_, xs', r, rows1, r', hl, hcall _ _ _ _ hr, hb, h.symm⟩)
        · cases h
      all_goals cases h
    · cases h

/-- What one operation's answer says. -/
def Says (P : Program) (G : List (Nat × Obj)) (o : AOper) (s : List AV) (rows : List Row) (np : Nat) (ds : List (FuncId × List AV)) : Act1 → Prop
  | .val x rows' => ∀ rest e st'', Ev P G (.ops rest ⟨putL s o.dst x, rows', np, ds⟩ e st'') → Ev P G (.ops (o :: rest) ⟨s, rows, np, ds⟩ e st'')
  | .pan x rows' => ∀ rest, Ev P G (.ops (o :: rest) ⟨s, rows, np, ds⟩ (.panic x) ⟨s, rows', np, ds⟩)
  | .dfr f caps => ∀ rest e st'', Ev P G (.ops rest ⟨putL s o.dst (.c undef), rows, np, (f, caps) :: ds⟩ e st'') → Ev P G (.ops (o :: rest) ⟨s, rows, np, ds⟩ e st'')

theorem act1_sound (hC : CfgOK P G C) (hcall : ∀ f args rows res, call f args rows = .ok res → Ev P G (.call f args rows res)) {o : AOper} {s : List AV} {rows : List Row} {A : Act1} (h : act1 C call o (Opd.ev s) rows = .ok A)
    (np : Nat) (ds : List (FuncId × List AV)) : Says P G o s rows np ds A := by
  unfold act1 at h
  rw [guardE_ev] at h
  split at h
  · rename_i hg
    cases hact : o.act with
    | op a =>
      rw [hact] at h
      simp only [actF] at h
      split at h
      · rename_i x rows' ha
        injection h with h
        subst h
        intro rest e st'' he
        refine .op o a rest _ st'' e x rows' hg hact ?_ (by rw [show ({ (St.mk s rows np ds) with rows := rows' } : St) = ⟨s, rows', np, ds⟩ from rfl, put_mk]; exact he)
        rw [hC.hP] at ha
        exact ha
      · cases h
    | call f args =>
      rw [hact] at h
      simp only [actF] at h
      split at h
      · rename_i r rows' hd
        injection h with h
        subst h
        intro rest e st'' he
        rcases doCall_sound hcall hd with hc | ⟨m, xs', r0, rows0, r', hl, hc, hp, hres⟩ | ⟨ids, r', rows1, hid, hc, hres⟩
        · exact .callA o f args rest _ st'' e r rows' hg hact hc (by rw [show ({ (St.mk s rows np ds) with rows := rows' } : St) = ⟨s, rows', np, ds⟩ from rfl, put_mk]; exact he)
        · injection hres with h1 h2
          subst h1 h2
          exact .callL o f args xs' m rest _ st'' e r0 r rows0 hg hact hl hc hp (by rw [put_mk]; exact he)
        · injection hres with h1 h2
          subst h1 h2
          rw [List.map_map] at hc
          exact .call o f args rest ⟨s, rows, np, ds⟩ st'' e ids r' rows1 hg hact hid hc (by rw [show ({ (St.mk s rows np ds) with rows := backRows rows ids rows1 } : St) = ⟨s, backRows rows ids rows1, np, ds⟩ from rfl, put_mk]; exact he)
      · rename_i r rows' hd
        injection h with h
        subst h
        intro rest
        rcases doCall_sound hcall hd with hc | ⟨m, xs', r0, rows0, r', hl, hc, hp, hres⟩ | ⟨ids, r', rows1, hid, hc, hres⟩
        · exact .callAPanic o f args rest ⟨s, rows, np, ds⟩ r rows' hg hact hc
        · cases hres
        · cases hres
      · cases h
    | callv fx args =>
      rw [hact] at h
      simp only [actF] at h
      split at h
      · rename_i f caps hf
        split at h
        · rename_i hsome
          obtain ⟨afn, hafn⟩ := Option.isSome_iff_exists.1 hsome
          have hcal := (hC.fn f afn hafn).2.1
          split at h
          · rename_i r rows' hd
            injection h with h
            subst h
            intro rest e st'' he
            rcases doCall_sound hcall hd with hc | ⟨m, xs', r0, rows0, r', hl, hc, hp, hres⟩ | ⟨ids, r', rows1, hid, hc, hres⟩
            · exact .callvA o fx f caps args rest _ st'' e r rows' hg hact hf hcal hc (by rw [show ({ (St.mk s rows np ds) with rows := rows' } : St) = ⟨s, rows', np, ds⟩ from rfl, put_mk]; exact he)
            · injection hres with h1 h2
              subst h1 h2
              exact .callvL o fx f caps args xs' m rest _ st'' e r0 r rows0 hg hact hf hcal hl hc hp (by rw [put_mk]; exact he)
            · injection hres with h1 h2
              subst h1 h2
              exact .callv o fx f caps args rest ⟨s, rows, np, ds⟩ st'' e ids r' rows1 hg hact hf hcal hid hc (by rw [show ({ (St.mk s rows np ds) with rows := backRows rows ids rows1 } : St) = ⟨s, backRows rows ids rows1, np, ds⟩ from rfl, put_mk]; exact he)
          · rename_i r rows' hd
            injection h with h
            subst h
            intro rest
            rcases doCall_sound hcall hd with hc | ⟨m, xs', r0, rows0, r', hl, hc, hp, hres⟩ | ⟨ids, r', rows1, hid, hc, hres⟩
            · exact .callvAPanic o fx f caps args rest ⟨s, rows, np, ds⟩ r rows' hg hact hf hcal hc
            · cases hres
            · cases hres
          · cases h
        · cases h
      · cases h
    | panic x =>
      rw [hact] at h
      simp only [actF] at h
      split at h
      · rename_i t y hx
        injection h with h
        subst h
        intro rest
        exact .panic o x t y rest ⟨s, rows, np, ds⟩ hg hact hx
      · cases h
    | defer fx =>
      rw [hact] at h
      simp only [actF] at h
      split at h
      · rename_i f caps hf
        injection h with h
        subst h
        intro rest e st'' he
        exact .defer o fx f caps rest ⟨s, rows, np, ds⟩ st'' e hg hact hf (by rw [put_mk]; exact he)
      · cases h
    | recov => rw [hact] at h; simp only [actF] at h; cases h
  · rename_i hg
    injection h with h
    subst h
    intro rest e st'' he
    exact .skip o rest ⟨s, rows, np, ds⟩ st'' e hg (by rw [put_mk]; exact he)
  · cases h

def RSt.to (r : RSt) (s : List AV) : St := ⟨s, r.rows, r.np, r.ds⟩

theorem runOps_sound (hC : CfgOK P G C) (hcall : ∀ f args rows res, call f args rows = .ok res → Ev P G (.call f args rows res)) : ∀ (l : List AOper) (ss : List (List AV)) (s : List AV) (rows : List Row) (np : Nat) (ds : List (FuncId × List AV)) (e : AEx) (r : RSt),
    Rep ss s → runOps C call l ss rows np ds = .ok (e, r) → ∃ s', Rep r.ss s' ∧ Ev P G (.ops l ⟨s, rows, np, ds⟩ e (r.to s'))
  | [], ss, s, rows, np, ds, e, r, hrep, h => by
    simp only [runOps, Out.ok.injEq, Prod.mk.injEq] at h
    obtain ⟨rfl, rfl⟩ := h
    exact ⟨s, hrep, .nil _⟩
  | o :: l, ss, s, rows, np, ds, e, r, hrep, h => by
    simp only [runOps, hrep.ev] at h
    split at h
    · rename_i x rows' ha
      have hs := act1_sound hC hcall ha np ds
      obtain ⟨s', h1, h2⟩ := runOps_sound hC hcall l _ _ _ _ _ _ _ (hrep.putS o.dst x) h
      exact ⟨s', h1, hs l e _ h2⟩
    · rename_i x rows' ha
      simp only [Out.ok.injEq, Prod.mk.injEq] at h
      obtain ⟨rfl, rfl⟩ := h
      exact ⟨s, hrep, act1_sound hC hcall ha np ds l⟩
    · rename_i f caps ha
      have hs := act1_sound hC hcall ha np ds
      obtain ⟨s', h1, h2⟩ := runOps_sound hC hcall l _ _ _ _ _ _ _ (hrep.putS o.dst (.c undef)) h
      exact ⟨s', h1, hs l e _ h2⟩
    · cases h

end
end
end Go.Proofs.Ytfcfdedbbhdioaa.AI
