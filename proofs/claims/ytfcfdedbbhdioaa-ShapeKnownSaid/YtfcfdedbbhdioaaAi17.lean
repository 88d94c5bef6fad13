/- AI 17: what an operation looks at. -/
import Derived.Test.YtfcfdedbbhdioaaAi15
namespace Go.Proofs.Ytfcfdedbbhdioaa.AI
noncomputable section
open Go
set_option linter.unusedVariables false
set_option linter.unusedSimpArgs false

def operTmps (o : Oper) : List Opd := o.op.operands.toList.map Opd.of

def AOp.opds : AOp → List Opd
  | .mv x | .box _ x | .fbox x | .load _ _ x | .nil x | .nilEq _ x | .un _ x | .conv _ x | .fa _ x | .extract _ x | .len _ x | .mkif _ x | .b2s x | .s2b x | .clr _ x => [x]
  | .pick c x y => [c, x, y]
  | .alloc .. | .nilrow .. | .bsl0 .. => []
  | .slc _ x lo hi => x :: (lo.toList ++ hi.toList)
  | .fld _ _ _ x | .tas _ _ _ x | .nilEq2 _ _ x => [x]
  | .ix _ _ _ x i => [x, i]
  | .build _ ps | .bsl _ _ _ _ _ ps => ps.map (·.2.2)
  | .store _ a x => [a, x]
  | .bin _ x y | .app _ _ _ x y | .make _ _ _ _ x y | .iaA _ _ x y | .iaS _ x y => [x, y]
  | .mkfn _ l => l
  | .pure o => operTmps o

/-- Does it turn the rows? -/
def AOp.loud : AOp → Bool
  | .box .. | .alloc .. | .store .. | .app .. | .make .. | .nilrow .. | .bsl0 .. | .clr .. => true
  | .bsl fz .. => !fz
  | _ => false

def topRow : AV → List Nat
  | .ptr k _ _ | .sl k _ _ _ | .mp k => [k]
  | _ => []

def AOp.fp (s : List AV) (a : AOp) : List Nat := a.opds.flatMap fun x => topRow (x.ev s)

section
variable {P : Program} {s s2 : List AV} {rows rows2 : List Row}

theorem fillAV_congr {ev ev2 : Opd → AV} : ∀ {ps : List (Nat × Nat × Opd)} {z : List AV}, (∀ y ∈ ps.map (·.2.2), ev2 y = ev y) → fillAV ev2 ps z = fillAV ev ps z
  | [], z, h => rfl
  | p :: ps, z, h => by
    obtain ⟨o, n, x⟩ := p
    have h1 := h x (by simp)
    have ih := fun z => fillAV_congr (ev := ev) (ev2 := ev2) (ps := ps) (z := z) fun y hy => h y (by simp only [List.map_cons, List.mem_cons]; exact .inr hy)
    simp only [fillAV, h1, ih]

theorem allVal_congr {ev ev2 : Opd → AV} {o : Oper} (h : ∀ y ∈ operTmps o, ev2 y = ev y) : allVal ev2 o = allVal ev o := by
  unfold allVal
  rw [← Array.all_toList, ← Array.all_toList]
  have : ∀ l : List Operand, (∀ y ∈ l.map Opd.of, ev2 y = ev y) → (l.all fun x => (ev2 (Opd.of x)).val.isSome) = (l.all fun x => (ev (Opd.of x)).val.isSome) := by
    intro l
    induction l with
    | nil => intro _; rfl
    | cons x l ih =>
      intro hl
      simp only [List.all_cons, hl (Opd.of x) (by simp), ih fun y hy => hl y (by simp only [List.map_cons, List.mem_cons]; exact .inr hy)]
  exact this _ h

theorem pure_congr {ev ev2 : Opd → AV} {o : Oper} (hs : ∀ cs b, o.op ≠ .select cs b) (h : ∀ y ∈ operTmps o, ev2 y = ev y) : execOp (rhoOf ev2) o = execOp (rhoOf ev) o := by
  refine execOp_congr o hs fun x hx => ?_
  have := h (Opd.of x) (by simp only [operTmps, List.mem_map, Array.mem_toList_iff]; exact ⟨x, hx, rfl⟩)
  simp only [rhoOf, this]

def AOp.noSel : AOp → Prop
  | .pure o => ∀ cs b, o.op ≠ .select cs b
  | _ => True

/-- The values of the operands are all that is seen of the slots. -/
theorem aop_slots {ao : AOp} (hn : ao.noSel) (h : ∀ y ∈ ao.opds, Opd.ev s2 y = Opd.ev s y) : aop P s2 rows ao = aop P s rows ao := by
  cases ao with
  | pure o =>
    simp only [aop, aopF, allVal_congr (ev := Opd.ev s) (ev2 := Opd.ev s2) h, pure_congr (ev := Opd.ev s) (ev2 := Opd.ev s2) hn h]
  | build z ps => simp only [aop, aopF, fillAV_congr (ev := Opd.ev s) (ev2 := Opd.ev s2) h]
  | bsl fz e sz n z ps => simp only [aop, aopF, bslCells, fillAV_congr (ev := Opd.ev s) (ev2 := Opd.ev s2) h]
  | mkfn f l =>
    have : l.map (Opd.ev s2) = l.map (Opd.ev s) := List.map_congr_left h
    simp only [aop, aopF, this]
  | alloc => rfl
  | nilrow => rfl
  | bsl0 => rfl
  | slc sz x lo hi =>
    have h1 := h x (by simp [AOp.opds])
    have h2 : lo.map (Opd.ev s2) = lo.map (Opd.ev s) := by
      cases lo with
      | none => rfl
      | some y => simp [h y (by simp [AOp.opds])]
    have h3 : hi.map (Opd.ev s2) = hi.map (Opd.ev s) := by
      cases hi with
      | none => rfl
      | some y => simp [h y (by simp [AOp.opds])]
    simp only [aop, aopF, h1, h2, h3]
  | ix agg l sz x i => simp only [AOp.opds, List.mem_cons, List.not_mem_nil, or_false, forall_eq_or_imp, forall_eq] at h; simp only [aop, aopF, h.1, h.2]
  | pick c x y =>
    simp only [AOp.opds, List.mem_cons, List.not_mem_nil, or_false, forall_eq_or_imp, forall_eq] at h
    simp only [aop, aopF, h.1, h.2.1, h.2.2]
  | store n a x => simp only [AOp.opds, List.mem_cons, List.not_mem_nil, or_false, forall_eq_or_imp, forall_eq] at h; simp only [aop, aopF, h.1, h.2]
  | bin n a x => simp only [AOp.opds, List.mem_cons, List.not_mem_nil, or_false, forall_eq_or_imp, forall_eq] at h; simp only [aop, aopF, h.1, h.2]
  | app e sz b x y => simp only [AOp.opds, List.mem_cons, List.not_mem_nil, or_false, forall_eq_or_imp, forall_eq] at h; simp only [aop, aopF, h.1, h.2]
  | make e sz b z x y => simp only [AOp.opds, List.mem_cons, List.not_mem_nil, or_false, forall_eq_or_imp, forall_eq] at h; simp only [aop, aopF, h.1, h.2]
  | iaA l sz x y => simp only [AOp.opds, List.mem_cons, List.not_mem_nil, or_false, forall_eq_or_imp, forall_eq] at h; simp only [aop, aopF, h.1, h.2]
  | iaS sz x y => simp only [AOp.opds, List.mem_cons, List.not_mem_nil, or_false, forall_eq_or_imp, forall_eq] at h; simp only [aop, aopF, h.1, h.2]
  | _ =>
    simp only [AOp.opds, List.mem_cons, List.not_mem_nil, or_false, forall_eq] at h
    simp only [aop, aopF, h]

theorem live_congr {k : Nat} (h : rows2[k]? = rows[k]?) : live rows2 k = live rows k := by simp only [live, h]

theorem liveP_congr {x : AV} (h : ∀ k ∈ topRow x, rows2[k]? = rows[k]?) : liveP rows2 x = liveP rows x := by
  cases x <;> simp only [liveP]
  exact live_congr (h _ (by simp [topRow]))

theorem topRow_fa {off : Nat} {x y : AV} (h : faAV off x = some y) : topRow y = topRow x := by
  cases x <;> simp [faAV] at h <;> subst h <;> rfl

theorem loadAV_congr {agg : Bool} {n : Nat} {p : AV} (h : ∀ k ∈ topRow p, rows2[k]? = rows[k]?) : loadAV agg n rows2 p = loadAV agg n rows p := by
  cases p
  case ptr k o i => simp only [loadAV, h k (by simp [topRow])]
  case c v =>
    cases v
    case pointer q => cases q <;> rfl
    case func q _ _ => cases q <;> rfl
    all_goals rfl
  all_goals rfl

theorem nilAV_congr {p : AV} (h : ∀ k ∈ topRow p, rows2[k]? = rows[k]?) : nilAV rows2 p = nilAV rows p := by
  cases p
  case ptr k o i => simp only [nilAV, live_congr (h k (by simp [topRow]))]
  case c v =>
    cases v
    case pointer q => cases q <;> rfl
    case func q _ _ => cases q <;> rfl
    all_goals rfl
  all_goals rfl

theorem nilEq_congr {p : AV} (h : ∀ k ∈ topRow p, rows2[k]? = rows[k]?) : nilEq rows2 p = nilEq rows p := by
  cases p
  case ptr k o i => simp only [nilEq, live_congr (h k (by simp [topRow]))]
  case c v =>
    cases v
    case pointer q => cases q <;> rfl
    case func q _ _ => cases q <;> rfl
    all_goals rfl
  all_goals rfl

theorem liveM_congr {k : Nat} (h : rows2[k]? = rows[k]?) : liveM rows2 k = liveM rows k := by simp only [liveM, h]

theorem nilEq2_congr {z : Value} {p : AV} (h : ∀ k ∈ topRow p, rows2[k]? = rows[k]?) : nilEq2 rows2 z p = nilEq2 rows z p := by
  unfold nilEq2
  split
  · rw [live_congr (h _ (by simp [topRow]))]
  · rfl
  · rfl
  · rfl
  · rfl
  · rfl
  · rfl
  · rw [liveM_congr (h _ (by simp [topRow]))]
  · rfl
  · rfl
  · rfl
  · rfl

theorem lenAV_congr {p : AV} (h : ∀ k ∈ topRow p, rows2[k]? = rows[k]?) : lenAV rows2 p = lenAV rows p := by
  cases p
  case sl k o l sz => simp only [lenAV, live_congr (h k (by simp [topRow]))]
  case c v =>
    cases v
    case pointer q => cases q <;> rfl
    case func q _ _ => cases q <;> rfl
    all_goals rfl
  all_goals rfl

theorem slcAV_congr {sz : Nat} {p : AV} {lo hi : Option AV} (h : ∀ k ∈ topRow p, rows2[k]? = rows[k]?) : slcAV rows2 sz p lo hi = slcAV rows sz p lo hi := by
  cases p
  case sl k o l sz' => simp only [slcAV, live_congr (h k (by simp [topRow]))]
  case c v =>
    cases v
    case slice q n c =>
      cases q
      · cases n
        · cases c <;> rfl
        · rfl
      · rfl
    all_goals rfl
  all_goals rfl

theorem iaS_congr {sz : Nat} {p i : AV} (h : ∀ k ∈ topRow p, rows2[k]? = rows[k]?) : iaS sz rows2 p i = iaS sz rows p i := by
  cases p with
  | sl k o l sz' =>
    have : oneSeg rows2 k = oneSeg rows k := by simp only [oneSeg, h k (by simp [topRow])]
    cases i with
    | c v => cases v <;> simp only [iaS, this]
    | _ => rfl
  | fsl n sz' b =>
    cases i with
    | c v => cases v <;> rfl
    | _ => rfl
  | _ => rfl

theorem topRow_iaS {sz : Nat} {p i y : AV} {b : Bool} (h : iaS sz rows p i = some (y, b)) : ∀ k ∈ topRow y, k ∈ topRow p := by
  unfold iaS at h
  split at h
  · injection h with h
    injection h with h
    subst h
    intro k hk
    split at hk <;> exact hk
  · injection h with h
    injection h with h
    subst h
    intro k hk
    split at hk <;> simp [topRow] at hk
  · cases h

theorem topRow_iaA {l sz : Nat} {p i y : AV} {b : Bool} (h : iaA l sz p i = some (y, b)) : ∀ k ∈ topRow y, k ∈ topRow p := by
  unfold iaA at h
  split at h
  · injection h with h
    injection h with h
    subst h
    intro k hk
    exact hk
  · injection h with h
    injection h with h
    subst h
    intro k hk
    simp [topRow] at hk
  · cases h

theorem contents_congr {sz : Nat} {x : AV} (h : ∀ k ∈ topRow x, rows2[k]? = rows[k]?) : contents rows2 sz x = contents rows sz x := by
  unfold contents
  split
  · rw [h _ (by simp [topRow])]
  · rfl
  · rfl
  · rfl

def noRows (p : AV × List Row × Bool) : AV × Bool := (p.1, p.2.2)

/-- A quiet operation: the rows that it looks at are all that it sees. -/
theorem aop_quiet {ao : AOp} (hq : ao.loud = false) {x : AV} {rows' : List Row} {c : Bool} (h : aop P s rows ao = some (x, rows', c)) (hk : ∀ k ∈ ao.fp s, rows2[k]? = rows[k]?) : rows' = rows ∧ aop P s rows2 ao = some (x, rows2, c) := by
  suffices key : (∀ r q, aop P s r ao = some q → q.2.1 = r) ∧ (aop P s rows2 ao).map noRows = (aop P s rows ao).map noRows by
    obtain ⟨h1, h2⟩ := key
    refine ⟨h1 rows _ h, ?_⟩
    rw [h] at h2
    simp only [Option.map_some, Option.map_eq_some_iff, noRows, Prod.mk.injEq] at h2
    obtain ⟨q, h3, h4, h5⟩ := h2
    have h6 := h1 rows2 q h3
    obtain ⟨q1, q2, q3⟩ := q
    simp only at h4 h5 h6
    rw [h3, h4, h5, h6]
  have top : ∀ x ∈ ao.opds, ∀ k ∈ topRow (x.ev s), rows2[k]? = rows[k]? := fun x hx k hkx => hk k (by simp only [AOp.fp, List.mem_flatMap]; exact ⟨x, hx, hkx⟩)
  cases ao with
  | mv x => exact ⟨fun r q h => by simp only [aop, aopF, Option.some.injEq] at h; subst h; rfl, rfl⟩
  | pick c x y => exact ⟨fun r q h => by simp only [aop, aopF] at h; split at h <;> cases h; rfl, by simp only [aop, aopF]; split <;> rfl⟩
  | fbox x => exact ⟨fun r q h => by simp only [aop, aopF] at h; split at h <;> cases h; rfl, by simp only [aop, aopF]; split <;> rfl⟩
  | build z ps => exact ⟨fun r q h => by simp only [aop, aopF] at h; split at h <;> cases h; rfl, by simp only [aop, aopF]; split <;> rfl⟩
  | bsl fz e sz n z ps =>
    simp only [AOp.loud, Bool.not_eq_false'] at hq
    subst hq
    exact ⟨fun r q h => by simp only [aop, aopF, if_true] at h; split at h <;> cases h; rfl, by simp only [aop, aopF, if_true]; split <;> rfl⟩
  | load agg n a =>
    refine ⟨fun r q h => by simp only [aop, aopF, Option.map_eq_some_iff] at h; obtain ⟨_, _, rfl⟩ := h; rfl, ?_⟩
    simp only [aop, aopF, loadAV_congr (top a (by simp [AOp.opds])), Option.map_map]
    rfl
  | nil x =>
    refine ⟨fun r q h => by simp only [aop, aopF, Option.some.injEq] at h; subst h; rfl, ?_⟩
    simp only [aop, aopF, nilAV_congr (top x (by simp [AOp.opds]))]
    rfl
  | bin op x y =>
    refine ⟨fun r q h => by simp only [aop, aopF, Option.map_eq_some_iff] at h; obtain ⟨_, _, rfl⟩ := h; rfl, ?_⟩
    simp only [aop, aopF, Option.map_map]
    rfl
  | nilEq eq x =>
    refine ⟨fun r q h => by simp only [aop, aopF, Option.map_eq_some_iff] at h; obtain ⟨_, _, rfl⟩ := h; rfl, ?_⟩
    simp only [aop, aopF, nilEq_congr (top x (by simp [AOp.opds])), Option.map_map]
    rfl
  | nilEq2 eq z x =>
    refine ⟨fun r q h => by simp only [aop, aopF, Option.map_eq_some_iff] at h; obtain ⟨_, _, rfl⟩ := h; rfl, ?_⟩
    simp only [aop, aopF, nilEq2_congr (top x (by simp [AOp.opds])), Option.map_map]
    rfl
  | un op x =>
    refine ⟨fun r q h => by simp only [aop, aopF, Option.map_eq_some_iff] at h; obtain ⟨_, _, rfl⟩ := h; rfl, ?_⟩
    simp only [aop, aopF, Option.map_map]
    rfl
  | conv k x => exact ⟨fun r q h => by simp only [aop, aopF] at h; split at h <;> cases h; rfl, by simp only [aop, aopF]; split <;> rfl⟩
  | fa off x =>
    refine ⟨fun r q h => by simp only [aop, aopF, andThen, Option.map_eq_some_iff] at h; obtain ⟨_, _, rfl⟩ := h; rfl, ?_⟩
    have ht := top x (by simp [AOp.opds])
    simp only [aop, aopF, andThen, Option.map_map]
    cases hf : faAV off (x.ev s) with
    | none => rfl
    | some y => simp only [Option.map_some, Function.comp, noRows, liveP_congr (x := y) fun k hk => ht k (topRow_fa hf ▸ hk)]
  | iaA l sz x i =>
    refine ⟨fun r q h => by simp only [aop, aopF, andThen, Option.map_eq_some_iff] at h; obtain ⟨_, _, rfl⟩ := h; rfl, ?_⟩
    have ht := top x (by simp [AOp.opds])
    simp only [aop, aopF, andThen, Option.map_map]
    cases hf : AI.iaA l sz (x.ev s) (i.ev s) with
    | none => rfl
    | some y => simp only [Option.map_some, Function.comp, noRows, liveP_congr (x := y.1) fun k hk => ht k (topRow_iaA hf k hk)]
  | iaS sz x i =>
    refine ⟨fun r q h => by simp only [aop, aopF, andThen, Option.map_eq_some_iff] at h; obtain ⟨_, _, rfl⟩ := h; rfl, ?_⟩
    have ht := top x (by simp [AOp.opds])
    simp only [aop, aopF, andThen, Option.map_map, iaS_congr (sz := sz) (i := i.ev s) ht]
    cases hf : AI.iaS sz rows (x.ev s) (i.ev s) with
    | none => rfl
    | some y => simp only [Option.map_some, Function.comp, noRows, liveP_congr (x := y.1) fun k hk => ht k (topRow_iaS hf k hk)]
  | slc sz x lo hi =>
    refine ⟨fun r q h => by simp only [aop, aopF, Option.map_eq_some_iff] at h; obtain ⟨_, _, rfl⟩ := h; rfl, ?_⟩
    simp only [aop, aopF, slcAV_congr (top x (by simp [AOp.opds])), Option.map_map]
    rfl
  | fld agg off n x =>
    refine ⟨fun r q h => by simp only [aop, aopF, Option.map_eq_some_iff] at h; obtain ⟨_, _, rfl⟩ := h; rfl, ?_⟩
    simp only [aop, aopF, Option.map_map]
    rfl
  | ix agg l sz x i =>
    refine ⟨fun r q h => by simp only [aop, aopF, Option.map_eq_some_iff] at h; obtain ⟨_, _, rfl⟩ := h; rfl, ?_⟩
    simp only [aop, aopF, Option.map_map]
    rfl
  | tas t z ok x =>
    refine ⟨fun r q h => by simp only [aop, aopF, Option.map_eq_some_iff] at h; obtain ⟨_, _, rfl⟩ := h; rfl, ?_⟩
    simp only [aop, aopF, Option.map_map]
    rfl
  | extract i x =>
    refine ⟨fun r q h => by simp only [aop, aopF, Option.map_eq_some_iff] at h; obtain ⟨_, _, rfl⟩ := h; rfl, ?_⟩
    simp only [aop, aopF, Option.map_map]
    rfl
  | len str x =>
    refine ⟨fun r q h => by simp only [aop, aopF, Option.map_eq_some_iff] at h; obtain ⟨_, _, rfl⟩ := h; rfl, ?_⟩
    simp only [aop, aopF, lenAV_congr (top x (by simp [AOp.opds])), Option.map_map]
    rfl
  | b2s x =>
    refine ⟨fun r q h => by simp only [aop, aopF, Option.map_eq_some_iff] at h; obtain ⟨_, _, rfl⟩ := h; rfl, ?_⟩
    simp only [aop, aopF, b2sAV, contents_congr (top x (by simp [AOp.opds])), Option.map_map]
    rfl
  | s2b x =>
    refine ⟨fun r q h => by simp only [aop, aopF, Option.map_eq_some_iff] at h; obtain ⟨_, _, rfl⟩ := h; rfl, ?_⟩
    simp only [aop, aopF, Option.map_map]
    rfl
  | mkfn f l => exact ⟨fun r q h => by simp only [aop, aopF, Option.some.injEq] at h; subst h; rfl, rfl⟩
  | mkif t x => exact ⟨fun r q h => by simp only [aop, aopF, Option.some.injEq] at h; subst h; rfl, rfl⟩
  | pure o =>
    refine ⟨fun r q h => ?_, ?_⟩
    · simp only [aop, aopF] at h
      split at h
      · split at h <;> cases h; rfl
      · cases h
    · simp only [aop, aopF]
      split
      · split <;> rfl
      · rfl
  | _ => simp [AOp.loud] at hq

/-- A loud operation: other rows stay. -/
theorem aop_loud {ao : AOp} {x : AV} {rows' : List Row} {b : Bool} (h : aop P s rows ao = some (x, rows', b)) (k : Nat) (hl : k < rows.length) (hk : k ∉ ao.fp s) : rows'[k]? = rows[k]? := by
  have new : ∀ r : Row, (rows ++ [r])[k]? = rows[k]? := fun r => List.getElem?_append_left hl
  have top : ∀ x ∈ ao.opds, k ∉ topRow (x.ev s) := fun x hx hkx => hk (by simp only [AOp.fp, List.mem_flatMap]; exact ⟨x, hx, hkx⟩)
  by_cases hq : ao.loud = true
  rotate_left
  · rw [(aop_quiet (rows2 := rows) (by simpa using hq) h fun _ _ => rfl).1]
  cases ao <;> simp only [AOp.loud, reduceCtorEq, Bool.not_eq_true'] at hq
  case box t x =>
    simp only [aop, aopF] at h
    split at h <;> simp at h
    obtain ⟨_, rfl, _⟩ := h
    exact new _
  case alloc t z =>
    simp only [aop, aopF] at h
    split at h <;> simp at h
    obtain ⟨_, rfl, _⟩ := h
    exact new _
  case bsl fz e sz n z ps =>
    simp only [aop, aopF, hq] at h
    split at h <;> simp at h
    obtain ⟨_, rfl, _⟩ := h
    exact new _
  case bsl0 =>
    simp only [aop, aopF, Option.some.injEq, Prod.mk.injEq] at h
    obtain ⟨_, rfl, _⟩ := h
    exact new _
  case nilrow =>
    simp only [aop, aopF, Option.some.injEq, Prod.mk.injEq] at h
    obtain ⟨_, rfl, _⟩ := h
    exact new _
  case make e sz bytes z l c =>
    simp only [aop, aopF, mkAV] at h
    split at h <;> simp at h
    obtain ⟨_, rfl, _⟩ := h
    exact new _
  case store n a y =>
    simp only [aop, aopF, Option.map_eq_some_iff, Prod.mk.injEq] at h
    obtain ⟨p, h1, _, rfl, _⟩ := h
    have ht := top a (by simp [AOp.opds])
    unfold storeAV at h1
    split at h1
    · rename_i q o ix hq'
      rw [hq'] at ht
      have hne : q ≠ k := fun e => ht (by simp [topRow, e])
      split at h1
      · split at h1
        · injection h1 with h1; subst h1; exact List.getElem?_set_ne hne
        · split at h1
          · injection h1 with h1; subst h1; exact List.getElem?_set_ne hne
          · cases h1
      · cases h1
    · cases h1
  case clr z y =>
    simp only [aop, aopF, Option.map_eq_some_iff, Prod.mk.injEq] at h
    obtain ⟨p, h1, _, rfl, _⟩ := h
    have ht := top y (by simp [AOp.opds])
    unfold clrAV at h1
    split at h1
    · injection h1 with h1; subst h1; rfl
    · injection h1 with h1; subst h1; rfl
    · rename_i q o len sz hq'
      rw [hq'] at ht
      have hne : q ≠ k := fun e => ht (by simp [topRow, e])
      split at h1
      · split at h1
        · injection h1 with h1; subst h1; rfl
        · injection h1 with h1; subst h1; exact List.getElem?_set_ne hne
      · cases h1
    · cases h1
  case app e sz bytes y z =>
    simp only [aop, aopF, appAV] at h
    have ht := top y (by simp [AOp.opds])
    split at h
    · split at h
      · rename_i q _ _ hq'
        rw [hq'] at ht
        have hne : q ≠ k := fun e => ht (by simp [topRow, e])
        split at h
        · simp at h
          obtain ⟨_, rfl, _⟩ := h
          rw [List.getElem?_append_left (by simpa using hl), List.getElem?_set_ne hne]
        · cases h
      · simp at h
        obtain ⟨_, rfl, _⟩ := h
        exact new _
      · cases h
    · cases h

end
end
end Go.Proofs.Ytfcfdedbbhdioaa.AI
