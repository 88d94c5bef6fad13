/- AI 24: the translator is right. -/
import Derived.Test.YtfcfdedbbhdioaaAi23
namespace Go.Proofs.Ytfcfdedbbhdioaa.AI
noncomputable section
open Go
set_option linter.unusedVariables false
set_option linter.unusedSimpArgs false

section
variable {P : Program} {h : Hint}

theorem psFor_ok {place : Nat → Option (Nat × Nat)} {parts : Array (Nat × Operand)} {ps : List (Nat × Nat × Opd)} (hp : psFor place parts.toList = some ps) : psOK place parts ps := by
  unfold psFor at hp
  unfold psOK
  have : ∀ (l : List (Nat × Operand)) (ps : List (Nat × Nat × Opd)), (l.mapM fun p => (place p.1).map fun q => (q.1, q.2, Opd.of p.2)) = some ps → (l.map fun p => (place p.1).map fun q => (q.1, q.2, Opd.of p.2)) = ps.map some := by
    intro l
    induction l with
    | nil => intro ps h; simp at h; subst h; rfl
    | cons x l ih =>
      intro ps h
      simp only [List.mapM_cons, Option.bind_eq_bind, Option.pure_def, Option.bind_eq_some_iff, Option.some.injEq] at h
      obtain ⟨y, hy, ys, hys, rfl⟩ := h
      simp only [List.map_cons, hy, ih ys hys]
  exact this _ _ hp

theorem zOKB_spec {e : TypeId} {sz : Nat} {z : Value} (hz : zeroOf P e = some z) (h : zOKB sz z = true) : zOK P e sz z := by
  simp only [zOKB, Bool.and_eq_true, decide_eq_true_eq] at h
  exact ⟨hz, h.1.1, h.1.2, h.2⟩

theorem two_toList {α : Type} {a : Array α} {x y : α} (h : a.toList = [x, y]) : a = #[x, y] := Array.ext' h
theorem one_toList {α : Type} {a : Array α} {x : α} (h : a.toList = [x]) : a = #[x] := Array.ext' h

theorem isIface_spec {t : TypeId} (h : isIface P t = false) : (match P.underlying t with | some (.interface _) | none => false | _ => true) = true := by
  unfold isIface at h
  cases hu : P.underlying t with
  | none => rw [hu] at h; cases h
  | some d => rw [hu] at h; cases d <;> simp_all

theorem pure_ok {o : Oper} (h : ∀ cs b, o.op ≠ .select cs b) : (AOp.pure (bareOp o)).ok P o := ⟨rfl, rfl, h⟩

theorem cgOp_ok {fz : Bool} {o : Oper} {a : AOp} (hc : cgOp P h fz o = some a) : a.ok P o := by
  cases hop : o.op with
  | pick c x y => simp only [cgOp, hop, Option.pure_def, Option.some.injEq] at hc; subst hc; exact ⟨c, x, y, hop, rfl, rfl, rfl⟩
  | box t x =>
    simp only [cgOp, hop, Option.pure_def] at hc
    split at hc <;> simp only [Option.some.injEq] at hc <;> subst hc
    · exact ⟨t, x, hop, rfl⟩
    · exact ⟨x, hop, rfl⟩
  | alloc t =>
    simp only [cgOp, hop, Option.bind_eq_bind, Option.bind_eq_some_iff, Option.pure_def, Option.some.injEq] at hc
    obtain ⟨z, hz, rfl⟩ := hc
    exact ⟨hop, hz⟩
  | load t x =>
    simp only [cgOp, hop, Option.bind_eq_bind, Option.bind_eq_some_iff, Option.pure_def, Option.some.injEq] at hc
    obtain ⟨b, hb, n, hn, rfl⟩ := hc
    exact ⟨t, x, hop, rfl, hb, hn⟩
  | store t x y =>
    simp only [cgOp, hop, Option.bind_eq_bind, Option.bind_eq_some_iff, Option.pure_def, Option.some.injEq] at hc
    obtain ⟨n, hn, rfl⟩ := hc
    exact ⟨t, x, y, hop, rfl, rfl, hn⟩
  | nilCheck x => simp only [cgOp, hop, Option.pure_def, Option.some.injEq] at hc; subst hc; exact ⟨x, hop, rfl⟩
  | unOp op t x => simp only [cgOp, hop, Option.pure_def, Option.some.injEq] at hc; subst hc; exact ⟨t, x, hop, rfl⟩
  | extract x i => simp only [cgOp, hop, Option.pure_def, Option.some.injEq] at hc; subst hc; exact ⟨x, hop, rfl⟩
  | makeInterface t x =>
    simp only [cgOp, hop, Option.pure_def] at hc
    split at hc
    · cases hc
    · rename_i hi
      simp only [Option.some.injEq] at hc
      subst hc
      exact ⟨x, hop, rfl, isIface_spec (by simpa using hi)⟩
  | fieldAddr t x f =>
    simp only [cgOp, hop, Option.bind_eq_bind, Option.bind_eq_some_iff, Option.pure_def, Option.some.injEq] at hc
    obtain ⟨⟨off, ft⟩, hf, n, hn, hc⟩ := hc
    split at hc
    · cases hc
    · rename_i h0
      simp only [Option.some.injEq] at hc
      subst hc
      exact ⟨t, x, f, ft, n, hop, rfl, hf, hn, h0⟩
  | field t x f =>
    simp only [cgOp, hop, Option.bind_eq_bind, Option.bind_eq_some_iff, Option.pure_def, Option.some.injEq] at hc
    obtain ⟨⟨off, ft⟩, hf, g, hg, n, hn, rfl⟩ := hc
    exact ⟨t, x, f, ft, hop, rfl, hf, hg, hn⟩
  | build t parts =>
    simp only [cgOp, hop, Option.bind_eq_bind, Option.bind_eq_some_iff, Option.pure_def, Option.some.injEq] at hc
    obtain ⟨place, hpl, z, hz, ps, hps, hc⟩ := hc
    split at hc
    · rename_i h1
      simp only [Option.some.injEq] at hc
      subst hc
      exact ⟨t, parts, place, hop, hz, h1, hpl, psFor_ok hps⟩
    · cases hc
  | buildSlice t n parts =>
    simp only [cgOp, hop, Option.bind_eq_bind, Option.bind_eq_some_iff, Option.pure_def, Option.some.injEq] at hc
    obtain ⟨e, he, sz, hsz, z, hz, hc⟩ := hc
    split at hc
    · rename_i hn
      split at hc
      · rename_i hp
        simp only [Option.some.injEq] at hc
        subst hc hn
        exact ⟨t, by rw [hop, Array.eq_empty_of_size_eq_zero hp], he, hsz⟩
      · cases hc
    · rename_i hn
      simp only [Option.bind_eq_bind, Option.bind_eq_some_iff, Option.pure_def, Option.some.injEq] at hc
      obtain ⟨ps, hps, hc⟩ := hc
      split at hc
      · rename_i h1
        simp only [Bool.and_eq_true, decide_eq_true_eq] at h1
        simp only [Option.some.injEq] at hc
        subst hc
        exact ⟨t, parts, hop, he, hsz, zOKB_spec hz h1.1, by omega, h1.2, psFor_ok hps⟩
      · cases hc
  | makeSlice t l c =>
    simp only [cgOp, hop, Option.bind_eq_bind, Option.bind_eq_some_iff, Option.pure_def, Option.some.injEq] at hc
    obtain ⟨e, he, sz, hsz, z, hz, b, hb, hc⟩ := hc
    split at hc
    · rename_i h1
      simp only [Option.some.injEq] at hc
      subst hc
      exact ⟨t, l, c, hop, rfl, rfl, he, hsz, hb, zOKB_spec hz h1⟩
    · cases hc
  | indexAddr t x i =>
    simp only [cgOp, hop] at hc
    split at hc
    · rename_i n e he
      simp only [Option.bind_eq_bind, Option.bind_eq_some_iff, Option.pure_def, Option.some.injEq] at hc
      obtain ⟨sz, hsz, rfl⟩ := hc
      exact ⟨t, e, x, i, hop, rfl, rfl, he, hsz⟩
    · rename_i e _ he
      simp only [Option.bind_eq_bind, Option.bind_eq_some_iff, Option.pure_def, Option.some.injEq] at hc
      obtain ⟨sz, hsz, rfl⟩ := hc
      exact ⟨t, e, x, i, hop, rfl, rfl, he, hsz⟩
    · cases hc
  | index t x i =>
    simp only [cgOp, hop] at hc
    split at hc
    · rename_i n e he
      simp only [Option.bind_eq_bind, Option.bind_eq_some_iff, Option.pure_def, Option.some.injEq] at hc
      obtain ⟨g, hg, sz, hsz, rfl⟩ := hc
      exact ⟨t, e, x, i, hop, rfl, rfl, he, hg, hsz⟩
    · simp only [Option.pure_def, Option.some.injEq] at hc
      subst hc
      exact pure_ok fun cs b => by rw [hop]; simp
  | typeAssert x st t ok =>
    simp only [cgOp, hop] at hc
    split at hc
    · simp only [Option.pure_def, Option.some.injEq] at hc
      subst hc
      exact pure_ok fun cs b => by rw [hop]; simp
    · rename_i hi
      simp only [Option.bind_eq_bind, Option.bind_eq_some_iff, Option.pure_def, Option.some.injEq] at hc
      obtain ⟨z, hz, rfl⟩ := hc
      exact ⟨x, st, hop, rfl, hz, isIface_spec (by simpa using hi)⟩
  | convert t t' x =>
    simp only [cgOp, hop] at hc
    split at hc
    · rename_i k0 k h1 h2
      simp only [Option.pure_def, Option.some.injEq] at hc
      subst hc
      exact ⟨t, t', x, hop, rfl, by rw [h1]; rfl, by unfold kindOf; rw [h2]⟩
    · rename_i e h1 h2
      split at hc
      · rename_i he
        simp only [Option.pure_def, Option.some.injEq] at hc
        subst hc
        exact ⟨t, t', e, x, hop, rfl, by unfold sliOf; rw [h1], he, h2⟩
      · cases hc
    · rename_i e h1 h2
      split at hc
      · rename_i he
        simp only [Option.pure_def, Option.some.injEq] at hc
        subst hc
        exact ⟨t, t', e, x, hop, rfl, h1, by unfold sliOf; rw [h2], he⟩
      · cases hc
    · simp only [Option.pure_def, Option.some.injEq] at hc
      subst hc
      exact pure_ok fun cs b => by rw [hop]; simp
  | slice t x lo hi mx =>
    cases mx with
    | some m => simp [cgOp, hop] at hc
    | none =>
      simp only [cgOp, hop] at hc
      split at hc
      · rename_i e he
        simp only [Option.bind_eq_bind, Option.bind_eq_some_iff, Option.pure_def, Option.some.injEq] at hc
        obtain ⟨sz, hsz, rfl⟩ := hc
        exact ⟨t, e, x, lo, hi, hop, rfl, rfl, rfl, he, hsz⟩
      · simp only [Option.pure_def, Option.some.injEq] at hc
        subst hc
        exact pure_ok fun cs b => by rw [hop]; simp
  | makeFunc fn first caps =>
    cases fn with
    | func f =>
      simp only [cgOp, hop] at hc
      split at hc
      · rename_i hf
        simp only [Option.pure_def, Option.some.injEq] at hc
        subst hc
        exact ⟨caps, by rw [hop, Array.eq_empty_of_size_eq_zero hf], rfl⟩
      · cases hc
    | _ => simp [cgOp, hop] at hc
  | binOp op t x y t' =>
    simp only [cgOp, hop] at hc
    split at hc
    · simp only [Option.pure_def, Option.some.injEq] at hc
      subst hc
      exact ⟨t, x, y, t', hop, rfl, rfl⟩
    · rename_i e he
      have hpt : ptrOf P t = true := by unfold ptrOf; rw [he]
      split at hc
      · simp only [Option.pure_def, Option.some.injEq] at hc
        subst hc
        exact ⟨_, t, x, t', hop, rfl, rfl, hpt⟩
      · simp only [Option.pure_def, Option.some.injEq] at hc
        subst hc
        exact ⟨_, t, x, t', hop, rfl, rfl, hpt⟩
      · cases hc
    · split at hc
      · split at hc
        · rename_i hk
          simp only [Option.pure_def, Option.some.injEq] at hc
          subst hc
          exact ⟨_, t, x, t', hop, rfl, rfl, hk⟩
        · simp only [Option.pure_def, Option.some.injEq] at hc
          subst hc
          exact pure_ok fun cs b => by rw [hop]; simp
      · split at hc
        · rename_i hk
          simp only [Option.pure_def, Option.some.injEq] at hc
          subst hc
          exact ⟨_, t, x, t', hop, rfl, rfl, hk⟩
        · simp only [Option.pure_def, Option.some.injEq] at hc
          subst hc
          exact pure_ok fun cs b => by rw [hop]; simp
      · simp only [Option.pure_def, Option.some.injEq] at hc
        subst hc
        exact pure_ok fun cs b => by rw [hop]; simp
  | move x =>
    cases x with
    | const v =>
      cases v with
      | slice q n c =>
        cases q with
        | none =>
          cases n with
          | zero =>
            cases c with
            | zero =>
              simp only [cgOp, hop] at hc
              split at hc
              · simp only [Option.bind_eq_bind, Option.bind_eq_some_iff, Option.pure_def, Option.some.injEq] at hc
                obtain ⟨e, _, sz, _, rfl⟩ := hc
                exact .inr hop
              · simp only [Option.pure_def, Option.some.injEq] at hc
                subst hc
                exact ⟨_, .inl hop, rfl⟩
            | succ c => simp only [cgOp, hop, Option.pure_def, Option.some.injEq] at hc; subst hc; exact ⟨_, .inl hop, rfl⟩
          | succ n => simp only [cgOp, hop, Option.pure_def, Option.some.injEq] at hc; subst hc; exact ⟨_, .inl hop, rfl⟩
        | some q => simp only [cgOp, hop, Option.pure_def, Option.some.injEq] at hc; subst hc; exact ⟨_, .inl hop, rfl⟩
      | _ => simp only [cgOp, hop, Option.pure_def, Option.some.injEq] at hc; subst hc; exact ⟨_, .inl hop, rfl⟩
    | _ => simp only [cgOp, hop, Option.pure_def, Option.some.injEq] at hc; subst hc; exact ⟨_, .inl hop, rfl⟩
  | assign x =>
    cases x with
    | const v =>
      cases v with
      | slice q n c =>
        cases q with
        | none =>
          cases n with
          | zero =>
            cases c with
            | zero =>
              simp only [cgOp, hop] at hc
              split at hc
              · simp only [Option.bind_eq_bind, Option.bind_eq_some_iff, Option.pure_def, Option.some.injEq] at hc
                obtain ⟨e, _, sz, _, rfl⟩ := hc
                exact .inl hop
              · simp only [Option.pure_def, Option.some.injEq] at hc
                subst hc
                exact ⟨_, .inr hop, rfl⟩
            | succ c => simp only [cgOp, hop, Option.pure_def, Option.some.injEq] at hc; subst hc; exact ⟨_, .inr hop, rfl⟩
          | succ n => simp only [cgOp, hop, Option.pure_def, Option.some.injEq] at hc; subst hc; exact ⟨_, .inr hop, rfl⟩
        | some q => simp only [cgOp, hop, Option.pure_def, Option.some.injEq] at hc; subst hc; exact ⟨_, .inr hop, rfl⟩
      | _ => simp only [cgOp, hop, Option.pure_def, Option.some.injEq] at hc; subst hc; exact ⟨_, .inr hop, rfl⟩
    | _ => simp only [cgOp, hop, Option.pure_def, Option.some.injEq] at hc; subst hc; exact ⟨_, .inr hop, rfl⟩
  | call c =>
    obtain ⟨callee, args, tys⟩ := c
    cases callee with
    | builtin b =>
      cases b with
      | len =>
        simp only [cgOp, hop] at hc
        split at hc
        · rename_i x t h1 h2
          have h1' := one_toList h1
          have h2' := one_toList h2
          subst h1' h2'
          split at hc
          · rename_i hu
            simp only [Option.pure_def, Option.some.injEq] at hc
            subst hc
            exact ⟨t, x, hop, rfl, hu⟩
          · rename_i e hu
            simp only [Option.pure_def, Option.some.injEq] at hc
            subst hc
            exact ⟨t, x, hop, rfl, e, by unfold sliOf; rw [hu]⟩
          · cases hc
        · cases hc
      | append =>
        simp only [cgOp, hop] at hc
        split at hc
        · rename_i x y t t' h1 h2
          have h1' := two_toList h1
          have h2' := two_toList h2
          subst h1' h2'
          split at hc
          · cases hc
          · rename_i ht
            have ht' : t = t' := by simpa using ht
            subst ht'
            simp only [Option.bind_eq_bind, Option.bind_eq_some_iff, Option.pure_def, Option.some.injEq] at hc
            obtain ⟨e, he, sz, hsz, z, hz, b, hb, hc⟩ := hc
            split at hc
            · rename_i h3
              simp only [Bool.and_eq_true, decide_eq_true_eq] at h3
              simp only [Option.some.injEq] at hc
              subst hc
              exact ⟨t, x, y, z, hop, rfl, rfl, he, hsz, hb, hz, h3.1, h3.2⟩
            · cases hc
        · cases hc
      | clear =>
        simp only [cgOp, hop] at hc
        split at hc
        · rename_i x t h1 h2
          have h1' := one_toList h1
          have h2' := one_toList h2
          subst h1' h2'
          simp only [Option.bind_eq_bind, Option.bind_eq_some_iff, Option.pure_def, Option.some.injEq] at hc
          obtain ⟨e, he, z, hz, hc⟩ := hc
          split at hc
          · rename_i hz1
            injection hc with hc
            subst hc
            exact ⟨t, e, x, hop, rfl, he, hz, hz1⟩
          · cases hc
        · cases hc
      | min =>
        simp only [cgOp, hop, Option.pure_def, Option.some.injEq] at hc
        subst hc
        exact pure_ok fun cs b => by rw [hop]; simp
      | max =>
        simp only [cgOp, hop, Option.pure_def, Option.some.injEq] at hc
        subst hc
        exact pure_ok fun cs b => by rw [hop]; simp
      | _ => simp [cgOp, hop] at hc
    | _ => simp [cgOp, hop] at hc
  | _ => simp [cgOp, hop] at hc

theorem cgAct_ok {fz : Bool} {o : Oper} {a : AAct} (hc : cgAct P h fz o = some a) : a.okAct P o := by
  have rest : (cgOp P h fz o).map AAct.op = some a → a.okAct P o := by
    intro hq
    simp only [Option.map_eq_some_iff] at hq
    obtain ⟨b, hb, rfl⟩ := hq
    exact cgOp_ok hb
  unfold cgAct at hc
  split at hc
  · rename_i f args tys hop
    split at hc
    · rename_i fn hfn
      split at hc
      · injection hc with hc
        subst hc
        exact pure_ok (P := P) fun cs b => by rw [hop]; simp
      · rename_i hb
        split at hc
        · cases hc
        · rename_i hn
          injection hc with hc
          subst hc
          exact ⟨args, tys, hop, rfl, fn, hfn, by simpa using hn, by cases hq : fn.body with
            | none => rw [hq] at hb; exact absurd rfl hb
            | some _ => rfl⟩
    · cases hc
  · rename_i f args tys hne hop
    injection hc with hc
    subst hc
    exact ⟨f, args, tys, hop, rfl, rfl⟩
  · rename_i args tys hop
    split at hc
    · rename_i h0
      injection hc with hc
      subst hc
      exact ⟨tys, by rw [hop, Array.eq_empty_of_size_eq_zero h0]⟩
    · cases hc
  · rename_i x hop
    injection hc with hc
    subst hc
    exact ⟨x, hop, rfl⟩
  · rename_i f args tys hop
    split at hc
    · rename_i h0
      injection hc with hc
      subst hc
      exact ⟨f, tys, by rw [hop, Array.eq_empty_of_size_eq_zero h0], rfl⟩
    · cases hc
  · exact rest hc

theorem cgOper_ok {d : Bool} {ops : Array Oper} {o : Oper} {ao : AOper} (hc : cgOper P h d ops o = some ao) : ao.okOper P ops o ∧ ao.after = afterOf o := by
  unfold cgOper at hc
  simp only [Option.bind_eq_bind, Option.bind_eq_some_iff] at hc
  obtain ⟨act, hact, hc⟩ := hc
  have ha := cgAct_ok hact
  split at hc
  · rename_i hg
    simp only [Option.pure_def, Option.some.injEq] at hc
    subst hc
    exact ⟨⟨rfl, ha, by simp [hg]⟩, rfl⟩
  · rename_i j want hg
    simp only [Option.bind_eq_some_iff, Option.pure_def, Option.some.injEq] at hc
    obtain ⟨t, ht, rfl⟩ := hc
    exact ⟨⟨rfl, ha, by simp only [hg]; exact ⟨trivial, by simpa [Option.bind_eq_some_iff] using ht⟩⟩, rfl⟩

theorem zipIdx_get {α : Type} : ∀ (l : List α) (k j : Nat), (zipIdx l k)[j]? = (l[j]?).map fun x => (k + j, x)
  | [], k, j => by simp [zipIdx]
  | x :: l, k, 0 => by simp [zipIdx]
  | x :: l, k, j + 1 => by
    simp only [zipIdx, List.getElem?_cons_succ, zipIdx_get l (k + 1) j]
    rw [show k + 1 + j = k + (j + 1) by omega]

theorem freeOf_get {l : List AOper} {j : Nat} {ao : AOper} (hj : (freeOf l)[j]? = some ao) : ∃ ao', l[j]? = some ao' ∧ ao.dst = ao'.dst ∧ ao.guard = ao'.guard ∧ ao.act = ao'.act ∧ ao.after = ao'.after := by
  unfold freeOf at hj
  simp only [List.getElem?_map, zipIdx_get, Option.map_map, Option.map_eq_some_iff, Function.comp] at hj
  obtain ⟨x, hx, rfl⟩ := hj
  exact ⟨x, hx, rfl, rfl, rfl, rfl⟩

theorem freeOf_length (l : List AOper) : (freeOf l).length = l.length := by
  have : ∀ (l : List AOper) (k : Nat), (zipIdx l k).length = l.length := by
    intro l
    induction l with
    | nil => intro k; rfl
    | cons x l ih => intro k; simp [zipIdx, ih]
  unfold freeOf
  simp [this]

theorem ops_ok {d : Bool} {ops : Array Oper} {l : List AOper} (hl : ops.toList.mapM (cgOper P h d ops) = some l) : OpsOK P ops (List.range ops.size) l := by
  obtain ⟨h1, h2⟩ := mapM_get hl
  refine ⟨by simp [h1], fun j i ao hi hj => ?_⟩
  obtain ⟨o, ho, hoa⟩ := h2 j ao hj
  have hji : i = j := by
    have := (List.getElem?_eq_some_iff.1 hi).2
    simpa using this.symm
  subst hji
  obtain ⟨h3, h4⟩ := cgOper_ok hoa
  exact ⟨o, by rw [← Array.getElem?_toList]; exact ho, h3, h4⟩

theorem ops_free {ops : Array Oper} {l : List AOper} (hl : OpsOK P ops (List.range ops.size) l) : OpsOK P ops (List.range ops.size) (freeOf l) := by
  refine ⟨by rw [freeOf_length]; exact hl.1, fun j i ao hi hj => ?_⟩
  obtain ⟨ao', h1, h2, h3, h4, h5⟩ := freeOf_get hj
  obtain ⟨o, h6, h7, h8⟩ := hl.2 j i ao' hi h1
  refine ⟨o, h6, ?_, h5.trans h8⟩
  unfold AOper.okOper at h7 ⊢
  rw [h2, h3, h4]
  exact h7

theorem cg_ok : ∀ (c : Code) (a : ACode), cg P h c = some a → CodeOK P c a := by
  intro c
  induction c with
  | skip => intro a hc; simp only [cg, Option.some.injEq] at hc; subst hc; trivial
  | region id ops d =>
    intro a hc
    simp only [cg, Option.map_eq_some_iff] at hc
    obtain ⟨l, hl, rfl⟩ := hc
    refine ⟨rfl, ?_⟩
    cases d
    · exact ops_ok hl
    · exact ops_free (ops_ok hl)
  | seq a b iha ihb =>
    intro x hc
    simp only [cg, Option.bind_eq_bind, Option.bind_eq_some_iff, Option.pure_def, Option.some.injEq] at hc
    obtain ⟨y, hy, z, hz, rfl⟩ := hc
    exact ⟨iha y hy, ihb z hz⟩
  | cond c a b iha ihb =>
    intro x hc
    simp only [cg, Option.bind_eq_bind, Option.bind_eq_some_iff, Option.pure_def, Option.some.injEq] at hc
    obtain ⟨y, hy, z, hz, rfl⟩ := hc
    exact ⟨rfl, iha y hy, ihb z hz⟩
  | block i a ih =>
    intro x hc
    simp only [cg, Option.bind_eq_bind, Option.bind_eq_some_iff, Option.pure_def, Option.some.injEq] at hc
    obtain ⟨y, hy, rfl⟩ := hc
    exact ⟨rfl, ih y hy⟩
  | loop a ih =>
    intro x hc
    simp only [cg, Option.bind_eq_bind, Option.bind_eq_some_iff, Option.pure_def, Option.some.injEq] at hc
    obtain ⟨y, hy, rfl⟩ := hc
    exact ih y hy
  | exit i => intro a hc; simp only [cg, Option.some.injEq] at hc; subst hc; rfl
  | ret => intro a hc; simp only [cg, Option.some.injEq] at hc; subst hc; trivial
  | _ => intros; simp_all [cg]

theorem cgRes_ok {r : ResultVar} {a : ARes} (hc : cgRes P r = some a) : a.ok P r := by
  cases r with
  | tmp t => simp only [cgRes, Option.some.injEq] at hc; subst hc; rfl
  | cell i t =>
    simp only [cgRes, Option.bind_eq_bind, Option.bind_eq_some_iff, Option.pure_def, Option.some.injEq] at hc
    obtain ⟨g, hg, n, hn, rfl⟩ := hc
    exact ⟨t, rfl, hg, hn⟩

theorem cgFn_ok {f : FuncId} {afn : AFn} (hc : cgFn P h f = some afn) : FnOK P f afn := by
  simp only [cgFn, Option.bind_eq_bind, Option.bind_eq_some_iff, Option.pure_def, Option.some.injEq] at hc
  obtain ⟨fn, hfn, c, hb, rs, hrs, ac, hac, rfl⟩ := hc
  obtain ⟨h1, h2⟩ := mapM_get hrs
  refine ⟨⟨fn, c, hfn, hb, cg_ok c ac hac, rfl, by simp [h1], fun j r ar hr har => ?_⟩⟩
  obtain ⟨r', hr', hok⟩ := h2 j ar har
  rw [Array.getElem?_toList, hr] at hr'
  injection hr' with hr'
  subst hr'
  exact cgRes_ok hok

end
end
end Go.Proofs.Ytfcfdedbbhdioaa.AI
