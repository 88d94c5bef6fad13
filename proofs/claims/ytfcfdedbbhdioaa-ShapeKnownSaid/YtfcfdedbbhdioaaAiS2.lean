/- AI S2: symbolic runs: states as lists of what is known; the weakest preconditions of code. -/
import Derived.Test.YtfcfdedbbhdioaaAiS1
namespace Go.Proofs.Ytfcfdedbbhdioaa.AI
noncomputable section
open Go
set_option linter.unusedVariables false
set_option linter.unusedSimpArgs false

abbrev Env := List (Nat × AV)

def look : Env → Nat → AV
  | [], _ => .junk
  | p :: e, i => if p.1 = i then p.2 else look e i

def upd (e : Env) (d : Option Nat) (x : AV) : Env := match d with | some d => (d, x) :: e | none => e

def evE (e : Env) : Opd → AV
  | .tm i => look e i
  | .cst v => .c v

def dense (n : Nat) (e : Env) : List AV := (List.range n).map (look e)

def opdB (n : Nat) : Opd → Bool
  | .tm i => Nat.blt i n
  | .cst _ => true

def operB (n : Nat) (o : AOper) : Bool := o.reads.all (opdB n)

def codeB (n : Nat) : ACode → Bool
  | .reg _ l => l.all (operB n)
  | .seq a b => codeB n a && codeB n b
  | .cond c a b => opdB n c && codeB n a && codeB n b
  | .block _ a => codeB n a
  | .loop _ a => codeB n a
  | _ => true

theorem lget_dense {n : Nat} {e : Env} {i : Nat} (h : i < n) : lget (dense n e) i = look e i := by
  rw [lget_getD]
  simp [dense, List.getD, h]

theorem dense_length (n : Nat) (e : Env) : (dense n e).length = n := by simp [dense]

theorem putL_dense (n : Nat) (e : Env) (d : Option Nat) (x : AV) : putL (dense n e) d x = dense n (upd e d x) := by
  refine list_ext (by rw [putL_length, dense_length, dense_length]) fun t => ?_
  rw [lget_putL, dense_length]
  by_cases ht : t < n
  · rw [lget_dense ht, lget_dense ht]
    cases d with
    | none => simp [upd]
    | some d => simp only [upd, look, Option.some.injEq, if_pos ht]
  · have out : ∀ e, lget (dense n e) t = .junk := fun e => by rw [lget_getD, List.getD, List.getElem?_eq_none (by rw [dense_length]; omega)]; rfl
    rw [out, out]
    split
    · rfl
    · rfl

theorem ev_dense {n : Nat} {e : Env} {x : Opd} (h : opdB n x = true) : Opd.ev (dense n e) x = evE e x := by
  cases x with
  | tm i => exact lget_dense (Nat.blt_eq.mp h)
  | cst v => rfl

section
variable (P : Program) (G : List (Nat × Obj)) (n np : Nat) (ds : List (FuncId × List AV))

abbrev Kont := AEx → Env → List Row → Prop

/-- What operations come to. -/
def SO (l : List AOper) (e : Env) (rows : List Row) (K : Kont) : Prop := ∃ ex e' rows', Ev P G (.ops l ⟨dense n e, rows, np, ds⟩ ex ⟨dense n e', rows', np, ds⟩) ∧ K ex e' rows'

/-- What code comes to. -/
def SC (c : ACode) (e : Env) (rows : List Row) (K : Kont) : Prop := ∃ ex e' rows', Ev P G (.code c ⟨dense n e, rows, np, ds⟩ ex ⟨dense n e', rows', np, ds⟩) ∧ K ex e' rows'

def wB (r : Option (AV × List Row × Bool)) (k : AV → List Row → Prop) : Prop := match r with | some (x, rows', b) => b = true ∧ k x rows' | none => False

def wCall (f : FuncId) (xs : List AV) (rows : List Row) (k : AV → List Row → Prop) (kp : AEx → List Row → Prop) : Prop :=
  (∃ r rows1, Ev P G (.call f xs rows (.ret r rows1)) ∧ k r rows1) ∨ (∃ x rows1, Ev P G (.call f xs rows (.panic x rows1)) ∧ kp (.panic x) rows1)

def wCallv (fx : AV) (xs : List AV) (rows : List Row) (k : AV → List Row → Prop) : Prop := match fnOf fx with
  | some (f, caps) => calleeOK P f ∧ ∃ r rows1, Ev P G (.call f (xs ++ caps) rows (.ret r rows1)) ∧ k r rows1
  | none => False

def wPan (x : AV) (rows : List Row) (kp : AEx → List Row → Prop) : Prop := match x with | .ifc t y => kp (.panic (.ifc t y)) rows | _ => False

def wA (a : AAct) (e : Env) (rows : List Row) (k : AV → List Row → Prop) (kp : AEx → List Row → Prop) : Prop := match a with
  | .op a => wB (aopS a P (evE e) rows) k
  | .call f args => wCall P G f (args.map (evE e)) rows k kp
  | .callv fx args => wCallv P G (evE e fx) (args.map (evE e)) rows k
  | .panic x => wPan (evE e x) rows kp
  | _ => False

/-- By a guard. -/
def wG (x : AV) (want : Bool) (a b : Prop) : Prop := match x with
  | .c (.bool v) => ((v == want) = true → a) ∧ ((v == want) = false → b)
  | .c (.tuple _) => b
  | _ => False

def wO : List AOper → Env → List Row → Kont → Prop
  | [], e, rows, K => K .normal e rows
  | o :: l, e, rows, K =>
    match o.guard with
    | none => wA P G o.act e rows (fun x rows' => wO l (upd e o.dst x) rows' K) (fun ex rows' => K ex e rows')
    | some g => wG (look e g.1) g.2 (wA P G o.act e rows (fun x rows' => wO l (upd e o.dst x) rows' K) (fun ex rows' => K ex e rows')) (wO l (upd e o.dst (.c undef)) rows K)

/-! Regions that draw. -/

def wDB (fp : List Nat) (r : Option (AV × List Row × Bool)) (k : AV → List Row → List Nat → Prop) : Prop := match r with | some (x, rows', b) => b = true ∧ k x rows' fp | none => False

def wDC (loud : Bool) (f : FuncId) (xs : List AV) (rows : List Row) (k : AV → List Row → List Nat → Prop) : Prop := match loud with
  | true => ∃ r rows1 fp, Ev P G (.call f xs rows (.ret r rows1)) ∧ (∀ k, k < rows.length → k ∉ fp → rows1[k]? = rows[k]?) ∧ k r rows1 fp
  | false => ∃ r, (∀ rows2, Ev P G (.call f xs rows2 (.ret r rows2))) ∧ k r rows []

def wDV (loud : Bool) (fx : AV) (xs : List AV) (rows : List Row) (k : AV → List Row → List Nat → Prop) : Prop := match fnOf fx with
  | some (f, caps) => calleeOK P f ∧ wDC P G loud f (xs ++ caps) rows k
  | none => False

def wDA (loud : Bool) (a : AAct) (e : Env) (rows : List Row) (k : AV → List Row → List Nat → Prop) : Prop := match a with
  | .op a => wDB (a.opds.flatMap fun x => topRow (evE e x)) (aopS a P (evE e) rows) k
  | .call f args => wDC P G loud f (args.map (evE e)) rows k
  | .callv fx args => wDV P G loud (evE e fx) (args.map (evE e)) rows k
  | _ => False

def wD : List AOper → Env → List Row → List (List Nat × Nat) → (Env → List Row → List (List Nat × Nat) → Prop) → Prop
  | [], e, rows, tr, K => K e rows tr
  | o :: l, e, rows, tr, K =>
    match o.guard with
    | none => wDA P G (o.act.loud o.mode) o.act e rows fun x rows' fp => wD l (upd e o.dst x) rows' (tr ++ [(fp, rows.length)]) K
    | some g => wG (look e g.1) g.2 (wDA P G (o.act.loud o.mode) o.act e rows fun x rows' fp => wD l (upd e o.dst x) rows' (tr ++ [(fp, rows.length)]) K) (wD l (upd e o.dst (.c undef)) rows (tr ++ [([], rows.length)]) K)

/-- No operation that may come before or behind a loud one. -/
def noFree (l : List AOper) : Bool := l.all fun o => o.free.isEmpty

/-- As wD, where nothing need be remembered. -/
def wDN : List AOper → Env → List Row → (Env → List Row → Prop) → Prop
  | [], e, rows, K => K e rows
  | o :: l, e, rows, K =>
    match o.guard with
    | none => wDA P G (o.act.loud o.mode) o.act e rows fun x rows' _ => wDN l (upd e o.dst x) rows' K
    | some g => wG (look e g.1) g.2 (wDA P G (o.act.loud o.mode) o.act e rows fun x rows' _ => wDN l (upd e o.dst x) rows' K) (wDN l (upd e o.dst (.c undef)) rows K)

def wCond (x : AV) (a b : Prop) : Prop := match x with
  | .c (.bool v) => (v = true → a) ∧ (v = false → b)
  | _ => False

def wSeq (k : Env → List Row → Prop) (K : Kont) : Kont := fun ex e rows => match ex with | .normal => k e rows | ex => K ex e rows
def wBlock (i : Nat) (K : Kont) : Kont := fun ex e rows => match ex with | .exit j => if j = i then K .normal e rows else K (.exit j) e rows | ex => K ex e rows

def wC : ACode → Env → List Row → Kont → Prop
  | .skip, e, rows, K => K .normal e rows
  | .reg d l, e, rows, K => match d with
    | false => wO P G l e rows K
    | true => bif noFree l then wDN P G l e rows (fun e' rows' => K .normal e' rows') else wD P G l e rows [] fun e' rows' tr => apartB tr 0 l = true ∧ K .normal e' rows'
  | .seq a b, e, rows, K => wC a e rows (wSeq (fun e' rows' => wC b e' rows' K) K)
  | .cond c a b, e, rows, K => wCond (evE e c) (wC a e rows K) (wC b e rows K)
  | .block i a, e, rows, K => wC a e rows (wBlock i K)
  | .loop m a, e, rows, K => SC P G n np ds (.loop m a) e rows K
  | .exit i, e, rows, K => K (.exit i) e rows
  | .ret, e, rows, K => K .ret e rows

end

section
variable {P : Program} {G : List (Nat × Obj)} {n np : Nat} {ds : List (FuncId × List AV)}

theorem evs_dense {e : Env} {l : List Opd} (h : l.all (opdB n) = true) : l.map (Opd.ev (dense n e)) = l.map (evE e) :=
  List.map_congr_left fun x hx => ev_dense (List.all_eq_true.1 h x hx)

theorem reads_act {o : AOper} (h : operB n o = true) : ∀ y ∈ o.act.opds, opdB n y = true := fun y hy => List.all_eq_true.1 h y (by simp only [AOper.reads, List.mem_append]; exact .inr hy)

def gSay (x : AV) (w : Bool) : Option Bool := match x with | .c (.bool b) => some (b == w) | .c (.tuple _) => some false | _ => none

def gSays (e : Env) : Option (Nat × Bool) → Option Bool
  | none => some true
  | some g => gSay (look e g.1) g.2

theorem guard_dense {o : AOper} {e : Env} (h : operB n o = true) : guardSays (dense n e) o.guard = gSays e o.guard := by
  cases hg : o.guard with
  | none => rfl
  | some g =>
    obtain ⟨t, w⟩ := g
    have := List.all_eq_true.1 h (.tm t) (by simp [AOper.reads, hg])
    simp only [guardSays, gSays, gSay]
    rw [lget_dense (Nat.blt_eq.mp this)]
    split <;> simp_all

/-- An operation sees of the slots its operands alone. -/
theorem aopF_congr {a : AOp} {ev ev2 : Opd → AV} {rows : List Row} (hn : a.noSel) (h : ∀ y ∈ a.opds, ev2 y = ev y) : aopF a P ev2 rows = aopF a P ev rows := by
  cases a with
  | pure o => simp only [aopF, allVal_congr (ev := ev) (ev2 := ev2) h, pure_congr (ev := ev) (ev2 := ev2) hn h]
  | build z ps => simp only [aopF, fillAV_congr (ev := ev) (ev2 := ev2) h]
  | bsl fz e sz n z ps => simp only [aopF, bslCells, fillAV_congr (ev := ev) (ev2 := ev2) h]
  | mkfn f l =>
    have : l.map ev2 = l.map ev := List.map_congr_left h
    simp only [aopF, this]
  | alloc => rfl
  | nilrow => rfl
  | bsl0 => rfl
  | slc sz x lo hi =>
    have h1 := h x (by simp [AOp.opds])
    have h2 : lo.map ev2 = lo.map ev := by
      cases lo with
      | none => rfl
      | some y => simp [h y (by simp [AOp.opds])]
    have h3 : hi.map ev2 = hi.map ev := by
      cases hi with
      | none => rfl
      | some y => simp [h y (by simp [AOp.opds])]
    simp only [aopF, h1, h2, h3]
  | pick c x y =>
    simp only [AOp.opds, List.mem_cons, List.not_mem_nil, or_false, forall_eq_or_imp, forall_eq] at h
    simp only [aopF, h.1, h.2.1, h.2.2]
  | _ =>
    simp only [AOp.opds, List.mem_cons, List.not_mem_nil, or_false, forall_eq_or_imp, forall_eq] at h
    first
      | (simp only [aopF, h]; done)
      | (simp only [aopF, h.1, h.2]; done)

theorem wO_sound : ∀ {l : List AOper} {e : Env} {rows : List Row} {K : Kont}, (l.all fun o => operB n o && noSelB o.act) = true → wO P G l e rows K → SO P G n np ds l e rows K
  | [], e, rows, K, _, h => ⟨.normal, e, rows, .nil _, h⟩
  | o :: l, e, rows, K, hb, h => by
    simp only [List.all_cons, Bool.and_eq_true] at hb
    obtain ⟨⟨hb1, hb2⟩, hb3⟩ := hb
    have hg := guard_dense (e := e) hb1
    have act : guardSays (dense n e) o.guard = some true → wA P G o.act e rows (fun x rows' => wO P G l (upd e o.dst x) rows' K) (fun ex rows' => K ex e rows') → SO P G n np ds (o :: l) e rows K := by
      intro hg h
      cases ha : o.act with
      | op a =>
        rw [ha] at h
        simp only [wA, wB] at h
        split at h
        · rename_i x rows' b he
          obtain ⟨rfl, h⟩ := h
          replace he := aopS_sound he
          obtain ⟨ex, e', rows'', h1, h2⟩ := wO_sound hb3 h
          refine ⟨ex, e', rows'', .op o a l _ _ ex x rows' hg ha ?_ ?_, h2⟩
          · rw [← he]
            exact aopF_congr (noSelB_spec hb2 a ha) fun y hy => ev_dense (reads_act hb1 y (by rw [ha]; exact hy))
          · rw [show ({ (St.mk (dense n e) rows np ds) with rows := rows' } : St) = ⟨dense n e, rows', np, ds⟩ from rfl, put_mk, putL_dense]
            exact h1
        · exact h.elim
      | call f args =>
        rw [ha] at h
        have hev : args.map (Opd.ev (dense n e)) = args.map (evE e) := evs_dense (List.all_eq_true.2 fun x hx => reads_act hb1 x (by rw [ha]; exact hx))
        rcases h with ⟨r, rows1, hc, h⟩ | ⟨x, rows1, hc, h⟩
        · obtain ⟨ex, e', rows'', h1, h2⟩ := wO_sound hb3 h
          refine ⟨ex, e', rows'', .callA o f args l _ _ ex r rows1 hg ha (by rw [hev]; exact hc) ?_, h2⟩
          rw [show ({ (St.mk (dense n e) rows np ds) with rows := rows1 } : St) = ⟨dense n e, rows1, np, ds⟩ from rfl, put_mk, putL_dense]
          exact h1
        · exact ⟨_, e, rows1, .callAPanic o f args l ⟨dense n e, rows, np, ds⟩ x rows1 hg ha (by rw [hev]; exact hc), h⟩
      | callv fx args =>
        rw [ha] at h
        have hev : args.map (Opd.ev (dense n e)) = args.map (evE e) := evs_dense (List.all_eq_true.2 fun x hx => reads_act hb1 x (by rw [ha]; exact List.mem_cons_of_mem _ hx))
        have hfx : Opd.ev (dense n e) fx = evE e fx := ev_dense (reads_act hb1 fx (by rw [ha]; exact List.mem_cons_self))
        simp only [wA, wCallv] at h
        split at h
        · rename_i f caps hf
          obtain ⟨hcal, r, rows1, hc, h⟩ := h
          obtain ⟨ex, e', rows'', h1, h2⟩ := wO_sound hb3 h
          refine ⟨ex, e', rows'', .callvA o fx f caps args l _ _ ex r rows1 hg ha (by rw [hfx]; exact hf) hcal (by rw [hev]; exact hc) ?_, h2⟩
          rw [show ({ (St.mk (dense n e) rows np ds) with rows := rows1 } : St) = ⟨dense n e, rows1, np, ds⟩ from rfl, put_mk, putL_dense]
          exact h1
        · exact h.elim
      | panic x =>
        rw [ha] at h
        have hx : Opd.ev (dense n e) x = evE e x := ev_dense (reads_act hb1 x (by rw [ha]; exact List.mem_cons_self))
        simp only [wA, wPan] at h
        split at h
        · rename_i t y he
          exact ⟨_, e, rows, .panic o x t y l ⟨dense n e, rows, np, ds⟩ hg ha (by rw [hx]; exact he), h⟩
        · exact h.elim
      | defer x => rw [ha] at h; exact h.elim
      | recov => rw [ha] at h; exact h.elim
    have skip : guardSays (dense n e) o.guard = some false → wO P G l (upd e o.dst (.c undef)) rows K → SO P G n np ds (o :: l) e rows K := by
      intro hg h
      obtain ⟨ex, e', rows'', h1, h2⟩ := wO_sound hb3 h
      exact ⟨ex, e', rows'', .skip o l _ _ ex hg (by rw [put_mk, putL_dense]; exact h1), h2⟩
    simp only [wO] at h
    split at h
    · rename_i h0
      rw [h0] at hg
      exact act (by rw [h0]; exact hg) h
    · rename_i g h0
      rw [h0] at hg
      simp only [gSays] at hg
      simp only [wG] at h
      split at h
      · rename_i v hv
        rw [hv] at hg
        simp only [gSay] at hg
        cases hvw : (v == g.2) with
        | true => exact act (by rw [h0, hg]; simp [hvw]) (h.1 hvw)
        | false => exact skip (by rw [h0, hg]; simp [hvw]) (h.2 hvw)
      · rename_i hv
        rw [hv] at hg
        simp only [gSay] at hg
        exact skip (by rw [h0, hg]) h
      · exact h.elim

theorem wDC_step {o : AOper} {s : List AV} {rows : List Row} {f : FuncId} {xs : List AV} {k : AV → List Row → List Nat → Prop} (h : wDC P G (o.act.loud o.mode) f xs rows k)
    (hs : ∀ s2, (∀ y ∈ o.reads, Opd.ev s2 y = Opd.ev s y) → ∀ rows2 r rows1, Ev P G (.call f xs rows2 (.ret r rows1)) → ∀ np ds, Says P G o s2 rows2 np ds (.val r rows1)) :
    ∃ x rows1 fp, Step1 P G o s rows x rows1 fp ∧ k x rows1 fp := by
  unfold wDC at h
  split at h
  · rename_i hl
    obtain ⟨r, rows1, fp, h1, h2, h3⟩ := h
    exact ⟨r, rows1, fp, ⟨fun q => (by rw [hl] at q; cases q), fun _ => h2, fun _ s2 h4 np ds => hs s2 h4 rows r rows1 h1 np ds, fun q => (by rw [hl] at q; cases q)⟩, h3⟩
  · rename_i hl
    obtain ⟨r, h1, h3⟩ := h
    exact ⟨r, rows, [], ⟨fun _ => rfl, fun q => (by rw [hl] at q; cases q), fun q => (by rw [hl] at q; cases q), fun _ s2 rows2 h4 _ np ds => hs s2 h4 rows2 r rows2 (h1 rows2) np ds⟩, h3⟩

theorem wD_sound : ∀ {l : List AOper} {e : Env} {rows : List Row} {tr : List (List Nat × Nat)} {K : Env → List Row → List (List Nat × Nat) → Prop}, (l.all fun o => operB n o && noSelB o.act) = true → wD P G l e rows tr K →
    ∃ e' rows' tr', SeqS P G l (dense n e) rows tr (dense n e') rows' tr' ∧ K e' rows' tr'
  | [], e, rows, tr, K, _, h => ⟨e, rows, tr, .nil _ _ _, h⟩
  | o :: l, e, rows, tr, K, hb, h => by
    simp only [List.all_cons, Bool.and_eq_true] at hb
    obtain ⟨⟨hb1, hb2⟩, hb3⟩ := hb
    have hg := guard_dense (e := e) hb1
    have gcong : ∀ s2, (∀ y ∈ o.reads, Opd.ev s2 y = Opd.ev (dense n e) y) → guardSays s2 o.guard = guardSays (dense n e) o.guard := fun s2 h2 => by rw [← guardE_ev, ← guardE_ev]; exact guard_congr h2
    have ocong : ∀ s2, (∀ y ∈ o.reads, Opd.ev s2 y = Opd.ev (dense n e) y) → ∀ y ∈ o.act.opds, Opd.ev s2 y = evE e y := fun s2 h2 y hy => (h2 y (by simp only [AOper.reads, List.mem_append]; exact .inr hy)).trans (ev_dense (reads_act hb1 y hy))
    have act : guardSays (dense n e) o.guard = some true → wDA P G (o.act.loud o.mode) o.act e rows (fun x rows' fp => wD P G l (upd e o.dst x) rows' (tr ++ [(fp, rows.length)]) K) →
        ∃ e' rows' tr', SeqS P G (o :: l) (dense n e) rows tr (dense n e') rows' tr' ∧ K e' rows' tr' := by
      intro hg h
      suffices hst : ∃ x rows1 fp, Step1 P G o (dense n e) rows x rows1 fp ∧ wD P G l (upd e o.dst x) rows1 (tr ++ [(fp, rows.length)]) K by
        obtain ⟨x, rows1, fp, h1, h2⟩ := hst
        obtain ⟨e', rows', tr', h3, h4⟩ := wD_sound hb3 h2
        exact ⟨e', rows', tr', .cons o l _ _ _ x rows1 fp _ _ _ h1 (by rw [putL_dense]; exact h3), h4⟩
      cases ha : o.act with
      | op a =>
        rw [ha] at h
        simp only [wDA, wDB] at h
        split at h
        · rename_i x rows' b he
          obtain ⟨rfl, h⟩ := h
          replace he := aopS_sound he
          have hns := noSelB_spec hb2 a ha
          have hop : ∀ s2, (∀ y ∈ o.reads, Opd.ev s2 y = Opd.ev (dense n e) y) → ∀ r2, aop P s2 r2 a = aopF a P (evE e) r2 := fun s2 h2 r2 => aopF_congr hns fun y hy => ocong s2 h2 y (by rw [ha]; exact hy)
          have says : ∀ s2, (∀ y ∈ o.reads, Opd.ev s2 y = Opd.ev (dense n e) y) → ∀ r2 x r3, aopF a P (evE e) r2 = some (x, r3, true) → ∀ np ds, Says P G o s2 r2 np ds (.val x r3) := by
            intro s2 h2 r2 x r3 h3 np ds rest ex st'' h4
            refine .op o a rest _ st'' ex x r3 (by rw [gcong s2 h2]; exact hg) ha (by rw [hop s2 h2]; exact h3) ?_
            rw [show ({ (St.mk s2 r2 np ds) with rows := r3 } : St) = ⟨s2, r3, np, ds⟩ from rfl, put_mk]
            exact h4
          have e0 : aop P (dense n e) rows a = some (x, rows', true) := by rw [hop _ (fun _ _ => rfl)]; exact he
          have hfp : ∀ k, k ∈ a.fp (dense n e) ↔ k ∈ a.opds.flatMap fun x => topRow (evE e x) := by
            intro k
            unfold AOp.fp
            simp only [List.mem_flatMap]
            constructor
            · rintro ⟨y, hy, hk⟩; exact ⟨y, hy, by rw [← ev_dense (reads_act hb1 y (by rw [ha]; exact hy))]; exact hk⟩
            · rintro ⟨y, hy, hk⟩; exact ⟨y, hy, by rw [ev_dense (reads_act hb1 y (by rw [ha]; exact hy))]; exact hk⟩
          refine ⟨x, rows', _, ⟨fun q => ?_, fun q k hk1 hk2 => ?_, fun q s2 h2 np ds => says s2 h2 rows x rows' he np ds, fun q s2 r2 h2 h3 np ds => ?_⟩, h⟩
          · rw [ha] at q; exact (aop_quiet (rows2 := rows) q e0 fun _ _ => rfl).1
          · rw [ha] at q; exact aop_loud e0 k hk1 fun q2 => hk2 ((hfp k).1 q2)
          · rw [ha] at q
            have := (aop_quiet (rows2 := r2) q e0 fun k hk => h3 k ((hfp k).1 hk)).2
            rw [hop _ (fun _ _ => rfl)] at this
            exact says s2 h2 r2 x r2 this np ds
        · exact h.elim
      | call f args =>
        rw [ha] at h
        refine wDC_step (o := o) (by rw [ha]; exact h) fun s2 h2 r2 r r1 hc np ds rest ex st'' h4 => ?_
        refine .callA o f args rest _ st'' ex r r1 (by rw [gcong s2 h2]; exact hg) ha ?_ ?_
        · rw [show args.map (Opd.ev s2) = args.map (evE e) from List.map_congr_left fun y hy => ocong s2 h2 y (by rw [ha]; exact hy)]; exact hc
        · rw [show ({ (St.mk s2 r2 np ds) with rows := r1 } : St) = ⟨s2, r1, np, ds⟩ from rfl, put_mk]
          exact h4
      | callv fx args =>
        rw [ha] at h
        simp only [wDA, wDV] at h
        split at h
        · rename_i f caps hf
          refine wDC_step (o := o) (by rw [ha]; exact h.2) fun s2 h2 r2 r r1 hc np ds rest ex st'' h4 => ?_
          refine .callvA o fx f caps args rest _ st'' ex r r1 (by rw [gcong s2 h2]; exact hg) ha ?_ h.1 ?_ ?_
          · rw [ocong s2 h2 fx (by rw [ha]; exact List.mem_cons_self)]; exact hf
          · rw [show args.map (Opd.ev s2) = args.map (evE e) from List.map_congr_left fun y hy => ocong s2 h2 y (by rw [ha]; exact List.mem_cons_of_mem _ hy)]; exact hc
          · rw [show ({ (St.mk s2 r2 np ds) with rows := r1 } : St) = ⟨s2, r1, np, ds⟩ from rfl, put_mk]
            exact h4
        · exact h.elim
      | panic x => rw [ha] at h; exact h.elim
      | defer x => rw [ha] at h; exact h.elim
      | recov => rw [ha] at h; exact h.elim
    have skip : guardSays (dense n e) o.guard = some false → wD P G l (upd e o.dst (.c undef)) rows (tr ++ [([], rows.length)]) K → ∃ e' rows' tr', SeqS P G (o :: l) (dense n e) rows tr (dense n e') rows' tr' ∧ K e' rows' tr' := by
      intro hg h
      have says : ∀ s2, (∀ y ∈ o.reads, Opd.ev s2 y = Opd.ev (dense n e) y) → ∀ r2 np ds, Says P G o s2 r2 np ds (.val (.c undef) r2) := by
        intro s2 h2 r2 np ds rest ex st'' h4
        exact .skip o rest ⟨s2, r2, np, ds⟩ st'' ex (by rw [gcong s2 h2]; exact hg) (by rw [put_mk]; exact h4)
      obtain ⟨e', rows', tr', h3, h4⟩ := wD_sound hb3 h
      exact ⟨e', rows', tr', .cons o l _ _ _ (.c undef) rows [] _ _ _ ⟨fun _ => rfl, fun _ _ _ _ => rfl, fun _ s2 h2 np ds => says s2 h2 rows np ds, fun _ s2 r2 h2 _ np ds => says s2 h2 r2 np ds⟩ (by rw [putL_dense]; exact h3), h4⟩
    simp only [wD] at h
    split at h
    · rename_i h0
      rw [h0] at hg
      exact act (by rw [h0]; exact hg) h
    · rename_i g h0
      rw [h0] at hg
      simp only [gSays] at hg
      simp only [wG] at h
      split at h
      · rename_i v hv
        rw [hv] at hg
        simp only [gSay] at hg
        cases hvw : (v == g.2) with
        | true => exact act (by rw [h0, hg]; simp [hvw]) (h.1 hvw)
        | false => exact skip (by rw [h0, hg]; simp [hvw]) (h.2 hvw)
      · rename_i hv
        rw [hv] at hg
        simp only [gSay] at hg
        exact skip (by rw [h0, hg]) h
      · exact h.elim

theorem wDA_mono {loud : Bool} {a : AAct} {e : Env} {rows : List Row} {k k' : AV → List Row → List Nat → Prop} (h : wDA P G loud a e rows k) (hk : ∀ x rows fp, k x rows fp → k' x rows fp) : wDA P G loud a e rows k' := by
  have dc : ∀ {f xs}, wDC P G loud f xs rows k → wDC P G loud f xs rows k' := by
    intro f xs h
    unfold wDC at h ⊢
    cases loud
    · obtain ⟨r, h1, h2⟩ := h; exact ⟨r, h1, hk _ _ _ h2⟩
    · obtain ⟨r, r1, fp, h1, h2, h3⟩ := h; exact ⟨r, r1, fp, h1, h2, hk _ _ _ h3⟩
  cases a with
  | op a =>
    simp only [wDA, wDB] at h ⊢
    split at h
    · rename_i he
      exact ⟨h.1, hk _ _ _ h.2⟩
    · exact h.elim
  | call f args => exact dc h
  | callv fx args =>
    simp only [wDA, wDV] at h ⊢
    split at h
    · exact ⟨h.1, dc h.2⟩
    · exact h.elim
  | panic x => exact h
  | defer x => exact h
  | recov => exact h

theorem wDN_wD : ∀ {l : List AOper} {e : Env} {rows : List Row} {tr : List (List Nat × Nat)} {K : Env → List Row → Prop}, wDN P G l e rows K → wD P G l e rows tr fun e rows _ => K e rows
  | [], e, rows, tr, K, h => h
  | o :: l, e, rows, tr, K, h => by
    simp only [wDN] at h
    simp only [wD]
    split at h
    · rename_i hg
      exact wDA_mono h fun x r fp q => wDN_wD q
    · rename_i g hg
      simp only [wG] at h ⊢
      split at h
      · exact ⟨fun q => wDA_mono (h.1 q) fun x r fp q => wDN_wD q, fun q => wDN_wD (h.2 q)⟩
      · exact wDN_wD h
      · exact h

theorem apart_free {tr : List (List Nat × Nat)} : ∀ {l : List AOper} {i : Nat}, noFree l = true → apartB tr i l = true
  | [], i, _ => rfl
  | o :: l, i, h => by
    simp only [noFree, List.all_cons, Bool.and_eq_true, List.isEmpty_iff] at h
    simp only [apartB, h.1, List.all_nil, Bool.true_and]
    exact apart_free (by simpa [noFree] using h.2)

/-- What is asked of code, once. -/
def goodC (n : Nat) : ACode → Bool
  | .reg d l => (l.all fun o => operB n o && noSelB o.act) && (!d || regOK l)
  | .seq a b => goodC n a && goodC n b
  | .cond c a b => opdB n c && goodC n a && goodC n b
  | .block _ a => goodC n a
  | .loop _ a => goodC n a
  | _ => true

theorem wC_sound (hm : P.follows .mixedOrders = true) : ∀ {c : ACode} {e : Env} {rows : List Row} {K : Kont}, goodC n c = true → wC P G n np ds c e rows K → SC P G n np ds c e rows K := by
  intro c
  induction c with
  | skip => intro e rows K _ h; exact ⟨.normal, e, rows, .cskip _, h⟩
  | reg d l =>
    intro e rows K hg h
    simp only [goodC, Bool.and_eq_true] at hg
    cases d with
    | false =>
      obtain ⟨ex, e', rows', h1, h2⟩ := wO_sound hg.1 h
      exact ⟨ex, e', rows', .reg l _ _ ex h1, h2⟩
    | true =>
      simp only [wC] at h
      cases hn : noFree l with
      | true =>
        rw [hn] at h
        obtain ⟨e', rows', tr', h1, h3⟩ := wD_sound hg.1 (wDN_wD (tr := []) h)
        exact ⟨.normal, e', rows', drawnS hm (regOK_spec (by simpa using hg.2)) h1 (apart_free hn) np ds, h3⟩
      | false =>
        rw [hn] at h
        obtain ⟨e', rows', tr', h1, h2, h3⟩ := wD_sound hg.1 h
        exact ⟨.normal, e', rows', drawnS hm (regOK_spec (by simpa using hg.2)) h1 h2 np ds, h3⟩
  | seq a b iha ihb =>
    intro e rows K hg h
    simp only [goodC, Bool.and_eq_true] at hg
    obtain ⟨ex, e', rows', h1, h2⟩ := iha hg.1 h
    by_cases hex : ex = .normal
    · subst hex
      obtain ⟨ex2, e2, rows2, h3, h4⟩ := ihb hg.2 h2
      exact ⟨ex2, e2, rows2, .seq a b _ _ _ ex2 h1 h3, h4⟩
    · refine ⟨ex, e', rows', .seqX a b _ _ ex hex h1, ?_⟩
      cases ex <;> first | exact h2 | exact absurd rfl hex
  | cond c a b iha ihb =>
    intro e rows K hg h
    simp only [goodC, Bool.and_eq_true] at hg
    simp only [wC, wCond] at h
    split at h
    · rename_i v hv
      have hev : Opd.ev (dense n e) c = .c (.bool v) := (ev_dense hg.1.1).trans hv
      cases v with
      | true =>
        obtain ⟨ex, e', rows', h1, h2⟩ := iha hg.1.2 (h.1 rfl)
        exact ⟨ex, e', rows', .cond c a b true _ _ ex hev h1, h2⟩
      | false =>
        obtain ⟨ex, e', rows', h1, h2⟩ := ihb hg.2 (h.2 rfl)
        exact ⟨ex, e', rows', .cond c a b false _ _ ex hev h1, h2⟩
    · exact h.elim
  | block i a ih =>
    intro e rows K hg h
    obtain ⟨ex, e', rows', h1, h2⟩ := ih hg h
    cases ex with
    | exit j =>
      simp only [wBlock] at h2
      split at h2
      · rename_i hj
        subst hj
        exact ⟨.normal, e', rows', .blockX _ a _ _ h1, h2⟩
      · rename_i hj
        exact ⟨.exit j, e', rows', .block i a _ _ _ (fun k hk => by injection hk with hk; subst hk; exact hj) h1, h2⟩
    | _ => exact ⟨_, e', rows', .block i a _ _ _ (fun k hk => by cases hk) h1, h2⟩
  | loop m a ih => intro e rows K _ h; exact h
  | exit i => intro e rows K _ h; exact ⟨.exit i, e, rows, .exit i _, h⟩
  | ret => intro e rows K _ h; exact ⟨.ret, e, rows, .cret _, h⟩

/-- One round of a loop, and the rest. -/
theorem SC_loop {m : Option Nat} {a : ACode} {e : Env} {rows : List Row} {K : Kont} (h : SC P G n np ds a e rows (wSeq (fun e' rows' => SC P G n np ds (.loop m a) e' rows' K) K)) : SC P G n np ds (.loop m a) e rows K := by
  obtain ⟨ex, e', rows', h1, h2⟩ := h
  by_cases hex : ex = .normal
  · subst hex
    obtain ⟨ex2, e2, rows2, h3, h4⟩ := h2
    exact ⟨ex2, e2, rows2, .loop m a _ _ _ _ ex2 h1 weaker_refl h3, h4⟩
  · refine ⟨ex, e', rows', .loopX m a _ _ ex hex h1, ?_⟩
    cases ex <;> first | exact h2 | exact absurd rfl hex

theorem SC_mono {c : ACode} {e : Env} {rows : List Row} {K K' : Kont} (h : SC P G n np ds c e rows K) (hk : ∀ ex e rows, K ex e rows → K' ex e rows) : SC P G n np ds c e rows K' := by
  obtain ⟨ex, e', rows', h1, h2⟩ := h
  exact ⟨ex, e', rows', h1, hk _ _ _ h2⟩

/-- y says no more than x. -/
def AV.le (x y : AV) : Prop := ∀ w R L v, VR w R L x v → VR w R L y v

theorem AV.le.refl (x : AV) : x.le x := fun _ _ _ _ h => h
theorem AV.le.junk (x : AV) : x.le .junk := fun _ _ _ _ _ => .junk _

theorem look_mem {e : Env} {i : Nat} : look e i = .junk ∨ (i, look e i) ∈ e := by
  induction e with
  | nil => exact .inl rfl
  | cons p e ih =>
    simp only [look]
    split
    · rename_i h; right; rw [← h]; exact List.mem_cons_self
    · exact ih.imp id fun h => List.mem_cons_of_mem _ h

/-- Less may be known. -/
theorem weaker_env {e e2 : Env} {rows : List Row} (h : ∀ p ∈ e2, (look e p.1).le p.2) : Weaker G ⟨dense n e, rows, np, ds⟩ ⟨dense n e2, rows, np, ds⟩ := by
  intro w0 R0 L0 a w xs ⟨R, L, hs, hr, hg, h0, hd, hn, hx⟩
  refine ⟨R, L, ⟨by simpa [dense_length] using hs.1, fun i x v hx hv => ?_⟩, hr, hg, h0, hd, hn, fun p hp => by cases hp⟩
  simp only [dense, List.getElem?_map, Option.map_eq_some_iff] at hx
  obtain ⟨i', hi', rfl⟩ := hx
  have hin : i < n := by have := (List.getElem?_eq_some_iff.1 hi').1; simpa using this
  rw [List.getElem?_range hin] at hi'
  injection hi' with hi'
  subst hi'
  have hv' := hs.2 i (look e i) v (by simp [dense, hin]) hv
  rcases look_mem (e := e2) (i := i) with q | q
  · rw [q]; exact .junk _
  · exact h _ q w R L v hv'

theorem SC_env {c : ACode} {e e2 : Env} {rows : List Row} {K : Kont} (he : ∀ p ∈ e2, (look e p.1).le p.2) (h : SC P G n np ds c e2 rows K) : SC P G n np ds c e rows K := by
  obtain ⟨ex, e', rows', h1, h2⟩ := h
  exact ⟨ex, e', rows', .weak c _ _ _ ex (weaker_env he) h1, h2⟩

theorem SC_eq {c : ACode} {e e2 : Env} {rows : List Row} {K : Kont} (he : ∀ p ∈ e2, look e p.1 = p.2) (h : SC P G n np ds c e2 rows K) : SC P G n np ds c e rows K :=
  SC_env (fun p hp => by rw [he p hp]; exact AV.le.refl _) h

/-! Functions. -/

def enumE : Nat → List AV → Env
  | _, [] => []
  | i, x :: l => (i, x) :: enumE (i + 1) l

theorem look_enumE : ∀ (l : List AV) (i j : Nat), look (enumE i l) j = if i ≤ j then l.getD (j - i) .junk else .junk
  | [], i, j => by simp [enumE, look]
  | x :: l, i, j => by
    simp only [enumE, look, look_enumE l (i + 1) j]
    by_cases h : i = j
    · subst h; simp
    · rw [if_neg h]
      by_cases h2 : i ≤ j
      · rw [if_pos h2, if_pos (by omega), show j - i = (j - (i + 1)) + 1 by omega]
        simp [List.getD]
      · rw [if_neg h2, if_neg (by omega)]

theorem weaker_entry {afn : AFn} {args : List AV} {rows : List Row} (h : args.length ≤ afn.ntmps) : Weaker G (entry afn args rows) ⟨dense afn.ntmps (enumE 0 args), rows, rows.length, []⟩ := by
  intro w0 R0 L0 a w xs ⟨R, L, hs, hr, hg, h0, hd, hn, hx⟩
  refine ⟨R, L, ⟨?_, fun i x v hx hv => ?_⟩, hr, hg, h0, hd, hn, fun p hp => by cases hp⟩
  · have := hs.1
    simp only [entry, List.length_append, List.length_replicate] at this
    rw [dense_length]
    omega
  · simp only [dense, List.getElem?_map, Option.map_eq_some_iff] at hx
    obtain ⟨i', hi', rfl⟩ := hx
    have hin : i < afn.ntmps := by have := (List.getElem?_eq_some_iff.1 hi').1; simpa using this
    rw [List.getElem?_range hin] at hi'
    injection hi' with hi'
    subst hi'
    rw [look_enumE]
    simp only [Nat.zero_le, if_true, Nat.sub_zero]
    by_cases hil : i < args.length
    · have e1 : args.getD i .junk = args[i] := by simp [List.getD, hil]
      rw [e1]
      refine hs.2 i _ v ?_ hv
      simp only [entry]
      rw [List.getElem?_append_left hil]
      simp [hil]
    · have e1 : args.getD i .junk = .junk := by simp [List.getD, Nat.le_of_not_lt hil]
      rw [e1]
      exact .junk _

/-- Results, in terms of what is known. -/
def wRes (e : Env) (rows : List Row) (l : List ARes) : Option AV := resEs (evE e) rows l

def resB (n : Nat) : ARes → Bool
  | .tm i => Nat.blt i n
  | .cell i _ _ => Nat.blt i n

theorem wRes_dense {e : Env} {rows : List Row} {l : List ARes} {ds : List (FuncId × List AV)} (h : l.all (resB n) = true) : resAV ⟨dense n e, rows, np, ds⟩ l = wRes e rows l := by
  have one : ∀ r : ARes, resB n r = true → resOf ⟨dense n e, rows, np, ds⟩ r = resE (evE e) rows r := by
    intro r hr
    cases r with
    | tm i => simp only [resOf, resE, evE]; rw [lget_dense (Nat.blt_eq.mp hr)]
    | cell i agg m =>
      simp only [resOf, resE, evE]
      rw [lget_dense (Nat.blt_eq.mp hr)]
      cases loadAV agg m rows (look e i) with
      | none => rfl
      | some p =>
        obtain ⟨x, b⟩ := p
        cases b <;> rfl
  have all : ∀ l : List ARes, l.all (resB n) = true → l.mapM (resOf ⟨dense n e, rows, np, ds⟩) = l.mapM (resE (evE e) rows) := by
    intro l
    induction l with
    | nil => intro _; rfl
    | cons r l ih =>
      intro h
      simp only [List.all_cons, Bool.and_eq_true] at h
      simp only [List.mapM_cons, one r h.1, ih h.2]
  unfold wRes resAV resEs
  cases l with
  | nil => rfl
  | cons r l =>
    cases l with
    | nil => simp only [List.all_cons, Bool.and_eq_true] at h; exact one r h.1
    | cons r2 l =>
      show Option.map AV.tup _ = Option.map AV.tup _
      rw [all _ h]

def goodF (afn : AFn) : Bool := goodC afn.ntmps afn.code && afn.results.all (resB afn.ntmps)

/-- How a call ends: 0: with all rows; 1: of quiet memory; 2: frozen. -/
def endOK (how : Nat) (np : Nat) (r : AV) (rows : List Row) (r' : AV) (rows' : List Row) : Prop := match how with
  | 0 => r' = r ∧ rows' = rows
  | 1 => np = 0 ∧ r.pur 6 = true ∧ r' = r ∧ rows' = []
  | _ => np = 0 ∧ frz 8 rows r = some r' ∧ rows' = []

theorem endOK_spec {how : Nat} {r r' : AV} {rows rows' : List Row} {s : List AV} {ds : List (FuncId × List AV)} (h : endOK how np r rows r' rows') : Exports G ⟨s, rows, np, ds⟩ r r' rows' := by
  unfold endOK at h
  split at h
  · obtain ⟨rfl, rfl⟩ := h; exact exports_all
  · obtain ⟨h0, h1, rfl, rfl⟩ := h; exact exports_pur h0 h1
  · obtain ⟨h0, h1, rfl⟩ := h; exact exports_frz h0 h1

def isEnd : AEx → Prop
  | .normal | .ret => True
  | _ => False

/-- How a call's code must end. -/
def wEnd (np how : Nat) (l : List ARes) (Q : AV → List Row → Prop) : Kont := fun ex e rows => isEnd ex ∧ ∃ r r' rows', wRes e rows l = some r ∧ endOK how np r rows r' rows' ∧ Q r' rows'

/-- A function, by its code. -/
theorem fn_call {f : FuncId} {afn : AFn} {args : List AV} {rows : List Row} {Q : AV → List Row → Prop} (how : Nat) (hm : P.follows .mixedOrders = true) (hf : FnOK P f afn) (hlen : Nat.ble args.length afn.ntmps = true) (hgood : goodF afn = true)
    (h : wC P G afn.ntmps rows.length [] afn.code (enumE 0 args) rows (wEnd rows.length how afn.results Q)) :
    ∃ r' rows', Ev P G (.call f args rows (.ret r' rows')) ∧ Q r' rows' := by
  simp only [goodF, Bool.and_eq_true] at hgood
  obtain ⟨ex, e, rows1, h1, h2, r, r', rows', h3, h4, h5⟩ := wC_sound hm hgood.1 h
  refine ⟨r', rows', .body f afn args rows _ ex r r' rows' hf (Nat.ble_eq.mp hlen) (.weak _ _ _ _ _ (weaker_entry (Nat.ble_eq.mp hlen)) h1) ?_ rfl (by rw [wRes_dense hgood.2]; exact h3) (endOK_spec h4), h5⟩
  cases ex <;> simp_all [isEnd]

end
end
end Go.Proofs.Ytfcfdedbbhdioaa.AI
