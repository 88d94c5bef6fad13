/- AI 10: the operations as data, what they do, and that this is so. -/
import Derived.Test.YtfcfdedbbhdioaaAiH
namespace Go.Proofs.Ytfcfdedbbhdioaa.AI
noncomputable section
open Go
set_option linter.unusedVariables false
set_option linter.unusedSimpArgs false

inductive AOp where
  | mv (x : Opd)
  | pick (c x y : Opd)
  | box (t : TypeId) (x : Opd)
  | fbox (x : Opd)
  | alloc (t : TypeId) (z : Value)
  | build (z : Value) (ps : List (Nat × Nat × Opd))
  | bsl (fz : Bool) (e : TypeId) (sz len : Nat) (z : Value) (ps : List (Nat × Nat × Opd))
  | load (agg : Bool) (n : Nat) (a : Opd)
  | store (n : Nat) (a x : Opd)
  | nil (x : Opd)
  | bin (op : BinOp) (x y : Opd)
  | nilEq (eq : Bool) (x : Opd)
  | un (op : UnOp) (x : Opd)
  | conv (k : IntKind) (x : Opd)
  | fa (off : Nat) (x : Opd)
  | iaA (len sz : Nat) (x i : Opd)
  | iaS (sz : Nat) (x i : Opd)
  | extract (i : Nat) (x : Opd)
  | len (str : Bool) (x : Opd)
  | app (e : TypeId) (sz bytes : Nat) (x y : Opd)
  | make (e : TypeId) (sz bytes : Nat) (z : Value) (l c : Opd)
  | mkfn (f : FuncId) (caps : List Opd)
  | mkif (t : TypeId) (x : Opd)
  | nilrow (t : TypeId) (sz : Nat)
  | nilEq2 (eq : Bool) (z : Value) (x : Opd)
  | slc (sz : Nat) (x : Opd) (lo hi : Option Opd)
  | fld (agg : Bool) (off n : Nat) (x : Opd)
  | ix (agg : Bool) (len sz : Nat) (x i : Opd)
  | tas (t : TypeId) (z : Value) (ok : Bool) (x : Opd)
  | bsl0 (e : TypeId) (sz : Nat)
  | b2s (x : Opd)
  | s2b (x : Opd)
  | clr (z : Value) (x : Opd)
  | pure (o : Oper)
  deriving Inhabited

/-- Does the row stand that a pointer goes into? -/
def liveP (rows : List Row) : AV → Bool
  | .ptr k _ _ => live rows k
  | _ => true

theorem liveP_ex {rows : List Row} {y : AV} (h : liveP rows y = true) : ∀ k o i, y = .ptr k o i → ∃ e b, rows[k]? = some (.blob e b) := by
  rintro k o i rfl
  exact live_ex h

def andThen (x : Option (AV × Bool)) (rows : List Row) (b : Bool) : Option (AV × List Row × Bool) := x.map fun p => (p.1, rows, p.2 && b && liveP rows p.1)

/-- What an operation does. -/
def aopF : AOp → Program → (Opd → AV) → List Row → Option (AV × List Row × Bool)
  | .mv x => fun P ev rows => some (ev x, rows, true)
  | .pick c x y => fun P ev rows => match ev c with | .c (.bool b) => some (if b then ev x else ev y, rows, true) | _ => none
  | .box t x => fun P ev rows => match (ev x).segs with | some b => some (.ptr rows.length 0 0, rows ++ [.blob t b], true) | none => none
  | .fbox x => fun P ev rows => match (ev x).segs with | some _ => some (.fptr (ev x) 0 0, rows, (ev x).pur 4) | none => none
  | .alloc t z => fun P ev rows => match (AV.c z).segs with | some b => some (.ptr rows.length 0 0, rows ++ [.blob t b], true) | none => none
  | .build z ps => fun P ev rows => match fillAV ev ps (z.cells.toList.map .c) with | some r => some (.agg (segsOf r), rows, true) | none => none
  | .bsl fz e sz ln z ps => fun P ev rows =>
    match bslCells ev sz ln z ps with
    | some r => if fz then some (.fsl ln sz (segsOf r), rows, r.all (AV.pur 4)) else some (.sl rows.length 0 ln sz, rows ++ [.blob e (segsOf r)], true)
    | none => none
  | .load agg n a => fun P ev rows => (loadAV agg n rows (ev a)).map fun p => (p.1, rows, p.2)
  | .store n a x => fun P ev rows => (storeAV n rows (ev a) (ev x)).map fun p => (.c undef, p.1, p.2)
  | .nil x => fun P ev rows => some (ev x, rows, nilAV rows (ev x))
  | .bin op x y => fun P ev rows => (binAV op (ev x) (ev y)).map fun r => (r, rows, true)
  | .nilEq eq x => fun P ev rows => (nilEq rows (ev x)).map fun b => (.c (.bool (if eq then b else !b)), rows, true)
  | .un op x => fun P ev rows => (unAV op (ev x)).map fun r => (r, rows, true)
  | .conv k x => fun P ev rows => match ev x with | .c (.int _ n) => some (.c (.int k (k.wrap n)), rows, true) | _ => none
  | .fa off x => fun P ev rows => andThen ((faAV off (ev x)).map fun y => (y, true)) rows true
  | .iaA ln sz x i => fun P ev rows => andThen (iaA ln sz (ev x) (ev i)) rows true
  | .iaS sz x i => fun P ev rows => andThen (iaS sz rows (ev x) (ev i)) rows true
  | .extract i x => fun P ev rows => (extractAV i (ev x)).map fun r => (r, rows, true)
  | .len str x => fun P ev rows => (lenAV rows (ev x)).map fun r => (r, rows, match ev x with | .c (.string _) => str | .c (.slice ..) | .sl .. | .fsl .. => !str | _ => false)
  | .app e sz bytes x y => fun P ev rows => appAV rows e sz bytes (ev x) (ev y)
  | .make e sz bytes z l c => fun P ev rows => mkAV rows e sz bytes z (ev l) (ev c)
  | .mkfn f caps => fun P ev rows => some (.fn f (caps.map (ev)), rows, true)
  | .mkif t x => fun P ev rows => some (.ifc t (ev x), rows, true)
  | .nilrow t sz => fun P ev rows => some (.sl rows.length 0 0 sz, rows ++ [.blob t []], true)
  | .nilEq2 eq z x => fun P ev rows => (AI.nilEq2 rows z (ev x)).map fun b => (.c (.bool (if eq then b else !b)), rows, true)
  | .slc sz x lo hi => fun P ev rows => (slcAV rows sz (ev x) (lo.map (ev)) (hi.map (ev))).map fun p => (p.1, rows, p.2)
  | .fld agg off n x => fun P ev rows => (fldAV agg off n (ev x)).map fun p => (p.1, rows, p.2)
  | .ix agg ln sz x i => fun P ev rows => (ixAV agg ln sz (ev x) (ev i)).map fun p => (p.1, rows, p.2)
  | .tas t z ok x => fun P ev rows => (tasAV t z ok (ev x)).map fun y => (y, rows, true)
  | .b2s x => fun P ev rows => (b2sAV rows (ev x)).map fun p => (p.1, rows, p.2)
  | .s2b x => fun P ev rows => (s2bAV (ev x)).map fun p => (p.1, rows, p.2)
  | .clr z x => fun P ev rows => (clrAV rows z (ev x)).map fun p => (.c (.tuple #[]), p.1, p.2)
  | .bsl0 e sz => fun P ev rows => some (.sl rows.length 0 0 sz, rows ++ [.blob e []], true)
  | .pure o => fun P ev rows => if allVal ev o then match pev P (execOp (rhoOf ev) o) with | some (.value v) => some (.c v, rows, true) | _ => none else none

def aop (P : Program) (s : List AV) (rows : List Row) (ao : AOp) : Option (AV × List Row × Bool) := aopF ao P (Opd.ev s) rows

/-- The kind of literals: ps are the parts. -/
def psOK (place : Nat → Option (Nat × Nat)) (parts : Array (Nat × Operand)) (ps : List (Nat × Nat × Opd)) : Prop :=
  (parts.toList.map fun p => (place p.1).map fun q => (q.1, q.2, Opd.of p.2)) = ps.map some

def zOK (P : Program) (e : TypeId) (sz : Nat) (z : Value) : Prop := zeroOf P e = some z ∧ z.cells.size = sz ∧ 0 < sz ∧ z.cells.all (·.oneCell') = true

/-- Is this operation of the model that one? -/
def AOp.ok (P : Program) (o : Oper) : AOp → Prop
  | .mv x => ∃ y, (o.op = .move y ∨ o.op = .assign y) ∧ x = Opd.of y
  | .pick c x y => ∃ c' x' y', o.op = .pick c' x' y' ∧ c = Opd.of c' ∧ x = Opd.of x' ∧ y = Opd.of y'
  | .box t x => ∃ x', o.op = .box t x' ∧ x = Opd.of x'
  | .fbox x => ∃ t x', o.op = .box t x' ∧ x = Opd.of x'
  | .alloc t z => o.op = .alloc t ∧ zeroOf P t = some z
  | .build z ps => ∃ t parts place, o.op = .build t parts ∧ zeroOf P t = some z ∧ z.cells.all (·.oneCell') = true ∧ placesOf P t = some place ∧ psOK place parts ps
  | .bsl _ e sz ln z ps => ∃ t parts, o.op = .buildSlice t ln parts ∧ sliOf P t = some e ∧ tySize P e = some sz ∧ zOK P e sz z ∧ 0 < ln ∧ ln * sz ≤ 16777216 ∧ psOK (fun i => some (i * sz, sz)) parts ps
  | .load agg n a => ∃ t a', o.op = .load t a' ∧ a = Opd.of a' ∧ tyAgg P t = some agg ∧ tySize P t = some n
  | .store n a x => ∃ t a' x', o.op = .store t a' x' ∧ a = Opd.of a' ∧ x = Opd.of x' ∧ tySize P t = some n
  | .nil x => ∃ x', o.op = .nilCheck x' ∧ x = Opd.of x'
  | .bin op x y => ∃ t x' y' t', o.op = .binOp op t x' y' t' ∧ x = Opd.of x' ∧ y = Opd.of y'
  | .nilEq eq x => ∃ op t x' t', o.op = .binOp op t x' (.const (.pointer none)) t' ∧ (op = if eq then .eql else .neq) ∧ x = Opd.of x' ∧ ptrOf P t = true
  | .un op x => ∃ t x', o.op = .unOp op t x' ∧ x = Opd.of x'
  | .conv k x => ∃ t t' x', o.op = .convert t t' x' ∧ x = Opd.of x' ∧ (P.underlying t).isSome = true ∧ kindOf P t' = some k
  | .fa off x => ∃ t x' f ft n, o.op = .fieldAddr t x' f ∧ x = Opd.of x' ∧ fldOf P t f = some (off, ft) ∧ tySize P ft = some n ∧ n ≠ 0
  | .iaA ln sz x i => ∃ t e x' i', o.op = .indexAddr t x' i' ∧ x = Opd.of x' ∧ i = Opd.of i' ∧ arrOf P t = some (ln, e) ∧ tySize P e = some sz
  | .iaS sz x i => ∃ t e x' i', o.op = .indexAddr t x' i' ∧ x = Opd.of x' ∧ i = Opd.of i' ∧ sliOf P t = some e ∧ tySize P e = some sz
  | .extract i x => ∃ x', o.op = .extract x' i ∧ x = Opd.of x'
  | .len str x => ∃ t x', o.op = .call { callee := .builtin .len, args := #[x'], argTypes := #[t] } ∧ x = Opd.of x' ∧ (if str then P.underlying t = some .string else ∃ e, sliOf P t = some e)
  | .app e sz bytes x y => ∃ t x' y' z, o.op = .call { callee := .builtin .append, args := #[x', y'], argTypes := #[t, t] } ∧ x = Opd.of x' ∧ y = Opd.of y' ∧ sliOf P t = some e ∧ tySize P e = some sz ∧ (P.info? e).map (·.bytes) = some bytes ∧ zeroOf P e = some z ∧ z.cells.size = sz ∧ 0 < sz
  | .make e sz bytes z l c => ∃ t l' c', o.op = .makeSlice t l' c' ∧ l = Opd.of l' ∧ c = Opd.of c' ∧ sliOf P t = some e ∧ tySize P e = some sz ∧ (P.info? e).map (·.bytes) = some bytes ∧ zOK P e sz z
  | .mkfn f caps => ∃ caps', o.op = .makeFunc (.func f) #[] caps' ∧ caps = caps'.toList.map Opd.of
  | .mkif t x => ∃ x', o.op = .makeInterface t x' ∧ x = Opd.of x' ∧ (match P.underlying t with | some (.interface _) | none => false | _ => true) = true
  | .nilrow _ _ => o.op = .assign (.const (.slice none 0 0)) ∨ o.op = .move (.const (.slice none 0 0))
  | .nilEq2 eq z x => ∃ op t x' t', o.op = .binOp op t x' (.const z) t' ∧ (op = if eq then .eql else .neq) ∧ x = Opd.of x' ∧ nilKind P t z = true
  | .slc sz x lo hi => ∃ t e x' lo' hi', o.op = .slice t x' lo' hi' none ∧ x = Opd.of x' ∧ lo = lo'.map Opd.of ∧ hi = hi'.map Opd.of ∧ sliOf P t = some e ∧ tySize P e = some sz
  | .fld agg off n x => ∃ t x' f ft, o.op = .field t x' f ∧ x = Opd.of x' ∧ fldOf P t f = some (off, ft) ∧ tyAgg P ft = some agg ∧ tySize P ft = some n
  | .ix agg ln sz x i => ∃ t e x' i', o.op = .index t x' i' ∧ x = Opd.of x' ∧ i = Opd.of i' ∧ arrOf P t = some (ln, e) ∧ tyAgg P e = some agg ∧ tySize P e = some sz
  | .tas t z ok x => ∃ x' st, o.op = .typeAssert x' st t ok ∧ x = Opd.of x' ∧ zeroOf P t = some z ∧ (match P.underlying t with | some (.interface _) | none => false | _ => true) = true
  | .b2s x => ∃ t t' e x', o.op = .convert t t' x' ∧ x = Opd.of x' ∧ sliOf P t = some e ∧ P.underlying e = some (.int .u8) ∧ P.underlying t' = some .string
  | .s2b x => ∃ t t' e x', o.op = .convert t t' x' ∧ x = Opd.of x' ∧ P.underlying t = some .string ∧ sliOf P t' = some e ∧ P.underlying e = some (.int .u8)
  | .clr z x => ∃ t e x', o.op = .call { callee := .builtin .clear, args := #[x'], argTypes := #[t] } ∧ x = Opd.of x' ∧ sliOf P t = some e ∧ zeroOf P e = some z ∧ z.oneCell' = true
  | .bsl0 e sz => ∃ t, o.op = .buildSlice t 0 #[] ∧ sliOf P t = some e ∧ tySize P e = some sz
  | .pure o' => o'.op = o.op ∧ o'.type = o.type ∧ (∀ cs b, o.op ≠ .select cs b)

section
variable {P : Program} {G : List (Nat × Obj)} {s : List AV} {rows : List Row}

theorem execOp_op {o o' : Oper} (h : o'.op = o.op) (ht : o'.type = o.type) (ρ : Operand → Value) : execOp ρ o' = execOp ρ o := by
  unfold execOp
  rw [h, ht]

theorem Does.congr {o o' : Oper} {x : AV} {rows' : List Row} (h : o'.op = o.op) (ht : o'.type = o.type) (hd : Does P G o' s rows x rows') : Does P G o s rows x rows' := by
  intro w R L a hs hr hg
  have := hd w R L a hs hr hg
  rw [execOp_op h ht] at this
  exact this

theorem does_nilrow {o : Oper} {t : TypeId} {sz : Nat} (ho : o.op = .assign (.const (.slice none 0 0)) ∨ o.op = .move (.const (.slice none 0 0))) : Does P G o s rows (.sl rows.length 0 0 sz) (rows ++ [.blob t []]) := by
  intro w R L a hs hr hg
  obtain ⟨h1, h2⟩ := step_nil hr t [] rfl
  refine ⟨.slice none 0 0, w, R, _, .inl ?_, .slNil _ _ (by simp), h2, h1⟩
  rcases ho with ho | ho <;> simp [execOp, ho, Act.eval]

theorem aop_does {o : Oper} {ao : AOp} {x : AV} {rows' : List Row} (ho : ao.ok P o) (h : aop P s rows ao = some (x, rows', true)) : Does P G o s rows x rows' := by
  cases ao with
  | mv y =>
    obtain ⟨y', h1, rfl⟩ := ho
    simp only [aop, aopF, Option.some.injEq, Prod.mk.injEq] at h
    obtain ⟨rfl, rfl, _⟩ := h
    exact does_mv h1
  | pick c y z =>
    obtain ⟨c', y', z', h1, rfl, rfl, rfl⟩ := ho
    simp only [aop, aopF] at h
    split at h
    · rename_i b hb
      simp only [Option.some.injEq, Prod.mk.injEq] at h
      obtain ⟨rfl, rfl, _⟩ := h
      exact does_pick h1 hb
    · cases h
  | box t y =>
    obtain ⟨y', h1, rfl⟩ := ho
    simp only [aop, aopF] at h
    split at h
    · rename_i b hb
      simp only [Option.some.injEq, Prod.mk.injEq] at h
      obtain ⟨rfl, rfl, _⟩ := h
      exact does_box h1 hb
    · cases h
  | fbox y =>
    obtain ⟨t, y', h1, rfl⟩ := ho
    simp only [aop, aopF] at h
    split at h
    · rename_i b hb
      simp only [Option.some.injEq, Prod.mk.injEq] at h
      obtain ⟨rfl, rfl, h2⟩ := h
      exact does_fbox h1 hb h2
    · cases h
  | alloc t z =>
    obtain ⟨h1, h2⟩ := ho
    simp only [aop, aopF] at h
    split at h
    · rename_i b hb
      simp only [Option.some.injEq, Prod.mk.injEq] at h
      obtain ⟨rfl, rfl, _⟩ := h
      exact does_alloc h1 h2 hb
    · cases h
  | build z ps =>
    obtain ⟨t, parts, place, h1, h2, h3, h4, h5⟩ := ho
    simp only [aop, aopF] at h
    split at h
    · rename_i r hr
      simp only [Option.some.injEq, Prod.mk.injEq] at h
      obtain ⟨rfl, rfl, _⟩ := h
      exact does_build h1 h2 h3 h4 h5 hr
    · cases h
  | bsl fz e sz len z ps =>
    obtain ⟨t, parts, h1, h2, h3, ⟨h4, h5, h6, h7⟩, h8, h9, h10⟩ := ho
    simp only [aop, aopF] at h
    split at h
    · rename_i r hr
      split at h
      · simp only [Option.some.injEq, Prod.mk.injEq] at h
        obtain ⟨rfl, rfl, h11⟩ := h
        exact does_fbsl h1 h2 h3 h4 h5 h6 h7 h8 h9 h10 hr h11
      · simp only [Option.some.injEq, Prod.mk.injEq] at h
        obtain ⟨rfl, rfl, _⟩ := h
        exact does_bsl h1 h2 h3 h4 h5 h6 h7 h8 h9 h10 hr
    · cases h
  | load agg n a =>
    obtain ⟨t, a', h1, rfl, h2, h3⟩ := ho
    simp only [aop, aopF, Option.map_eq_some_iff, Prod.mk.injEq] at h
    obtain ⟨⟨y, b⟩, h4, rfl, rfl, rfl⟩ := h
    exact does_load h1 h2 h3 h4
  | store n a y =>
    obtain ⟨t, a', y', h1, rfl, rfl, h2⟩ := ho
    simp only [aop, aopF, Option.map_eq_some_iff, Prod.mk.injEq] at h
    obtain ⟨⟨r, b⟩, h4, rfl, rfl, rfl⟩ := h
    exact does_store h1 h2 h4
  | nil y =>
    obtain ⟨y', h1, rfl⟩ := ho
    simp only [aop, aopF, Option.some.injEq, Prod.mk.injEq] at h
    obtain ⟨rfl, rfl, h2⟩ := h
    exact does_nil h1 h2
  | bin op y z =>
    obtain ⟨t, y', z', t', h1, rfl, rfl⟩ := ho
    simp only [aop, aopF, Option.map_eq_some_iff, Prod.mk.injEq] at h
    obtain ⟨r, h4, rfl, rfl, _⟩ := h
    exact does_bin h1 h4
  | nilEq eq y =>
    obtain ⟨op, t, y', t', h1, h2, rfl, h3⟩ := ho
    simp only [aop, aopF, Option.map_eq_some_iff, Prod.mk.injEq] at h
    obtain ⟨b, h4, rfl, rfl, _⟩ := h
    have := does_nilEq (G := G) (op := op) (by cases eq <;> simp_all) h1 h3 h4
    cases eq
    · simp only [Bool.false_eq_true, if_false] at h2
      subst h2
      exact this
    · simp only [if_true] at h2
      subst h2
      exact this
  | nilEq2 eq z y =>
    obtain ⟨op, t, y', t', h1, h2, rfl, h3⟩ := ho
    simp only [aop, aopF, Option.map_eq_some_iff, Prod.mk.injEq] at h
    obtain ⟨b, h4, rfl, rfl, _⟩ := h
    have := does_nilEq2 (G := G) (op := op) (by cases eq <;> simp_all) h1 h3 h4
    cases eq
    · simp only [Bool.false_eq_true, if_false] at h2
      subst h2
      exact this
    · simp only [if_true] at h2
      subst h2
      exact this
  | un op y =>
    obtain ⟨t, y', h1, rfl⟩ := ho
    simp only [aop, aopF, Option.map_eq_some_iff, Prod.mk.injEq] at h
    obtain ⟨r, h4, rfl, rfl, _⟩ := h
    exact does_un h1 h4
  | conv k y =>
    obtain ⟨t, t', y', h1, rfl, h2, h3⟩ := ho
    simp only [aop, aopF] at h
    split at h
    · rename_i k' n hn
      simp only [Option.some.injEq, Prod.mk.injEq] at h
      obtain ⟨rfl, rfl, _⟩ := h
      exact does_conv h1 h2 h3 hn
    · cases h
  | fa off y =>
    obtain ⟨t, y', f, ft, n, h1, rfl, h2, h3, h4⟩ := ho
    simp only [aop, aopF, andThen, Option.map_map, Option.map_eq_some_iff, Prod.mk.injEq, Function.comp, Bool.true_and] at h
    obtain ⟨r, h5, rfl, rfl, h6⟩ := h
    exact does_fa h1 h2 h3 h4 h5 (liveP_ex h6)
  | iaA len sz y i =>
    obtain ⟨t, e, y', i', h1, rfl, rfl, h2, h3⟩ := ho
    simp only [aop, aopF, andThen, Option.map_eq_some_iff, Prod.mk.injEq, Bool.and_eq_true, and_true] at h
    obtain ⟨⟨r, b⟩, h5, rfl, rfl, h6, h7⟩ := h
    simp only at h6
    subst h6
    exact does_iaA h1 h2 h3 h5 (liveP_ex h7)
  | iaS sz y i =>
    obtain ⟨t, e, y', i', h1, rfl, rfl, h2, h3⟩ := ho
    simp only [aop, aopF, andThen, Option.map_eq_some_iff, Prod.mk.injEq, Bool.and_eq_true, and_true] at h
    obtain ⟨⟨r, b⟩, h5, rfl, rfl, h6, h7⟩ := h
    simp only at h6
    subst h6
    exact does_iaS h1 h2 h3 h5 (liveP_ex h7)
  | extract i y =>
    obtain ⟨y', h1, rfl⟩ := ho
    simp only [aop, aopF, Option.map_eq_some_iff, Prod.mk.injEq] at h
    obtain ⟨r, h4, rfl, rfl, _⟩ := h
    exact does_extract h1 h4
  | len str y =>
    obtain ⟨t, y', h1, rfl, h2⟩ := ho
    simp only [aop, aopF, Option.map_eq_some_iff, Prod.mk.injEq] at h
    obtain ⟨r, h4, rfl, rfl, h5⟩ := h
    cases str with
    | true =>
      simp only [if_true] at h2
      refine does_len h1 (.inl h2) h4 ?_
      generalize (Opd.of y').ev s = p at h5 ⊢
      split at h5
      · exact h2
      all_goals first | (simp at h5; done) | trivial
    | false =>
      simp only [Bool.false_eq_true, if_false] at h2
      obtain ⟨e, he⟩ := h2
      refine does_len h1 (.inr ⟨e, sliOf_u he⟩) h4 ?_
      generalize (Opd.of y').ev s = p at h5 ⊢
      split at h5
      · cases h5
      · exact ⟨e, sliOf_u he⟩
      · exact ⟨e, sliOf_u he⟩
      · exact ⟨e, sliOf_u he⟩
      · cases h5
  | app e sz bytes y z =>
    obtain ⟨t, y', z', zz, h1, rfl, rfl, h2, h3, h4, h5, h6, h7⟩ := ho
    exact does_append h1 h2 h3 h4 h5 h6 h7 h
  | make e sz bytes z l c =>
    obtain ⟨t, l', c', h1, rfl, rfl, h2, h3, h4, h5, h6, h7, h8⟩ := ho
    exact does_make h1 h2 h3 h4 h5 h6 h7 h8 h
  | mkfn f caps =>
    obtain ⟨caps', h1, rfl⟩ := ho
    simp only [aop, aopF, Option.some.injEq, Prod.mk.injEq] at h
    obtain ⟨rfl, rfl, _⟩ := h
    have := does_mkfn (P := P) (G := G) (s := s) (rows := rows) h1
    rw [List.map_map]
    exact this
  | mkif t y =>
    obtain ⟨y', h1, rfl, h2⟩ := ho
    simp only [aop, aopF, Option.some.injEq, Prod.mk.injEq] at h
    obtain ⟨rfl, rfl, _⟩ := h
    exact does_mkif h1 h2
  | nilrow t sz =>
    simp only [aop, aopF, Option.some.injEq, Prod.mk.injEq] at h
    obtain ⟨rfl, rfl, _⟩ := h
    exact does_nilrow ho
  | b2s y =>
    obtain ⟨t, t', e, y', h1, rfl, h2, h3, h4⟩ := ho
    simp only [aop, aopF, Option.map_eq_some_iff, Prod.mk.injEq] at h
    obtain ⟨⟨r, b⟩, h5, rfl, rfl, rfl⟩ := h
    exact does_b2s h1 h2 h3 h4 h5
  | s2b y =>
    obtain ⟨t, t', e, y', h1, rfl, h2, h3, h4⟩ := ho
    simp only [aop, aopF, Option.map_eq_some_iff, Prod.mk.injEq] at h
    obtain ⟨⟨r, b⟩, h5, rfl, rfl, rfl⟩ := h
    exact does_s2b h1 h2 h3 h4 h5
  | clr z y =>
    obtain ⟨t, e, y', h1, rfl, h2, h3, h4⟩ := ho
    simp only [aop, aopF, Option.map_eq_some_iff, Prod.mk.injEq] at h
    obtain ⟨⟨r, b⟩, h5, rfl, rfl, rfl⟩ := h
    exact does_clr h1 h2 h3 h4 h5
  | slc sz x lo hi =>
    obtain ⟨t, e, x', lo', hi', h1, rfl, rfl, rfl, h2, h3⟩ := ho
    simp only [aop, aopF, Option.map_eq_some_iff, Prod.mk.injEq] at h
    obtain ⟨p, hp, rfl, rfl, hb⟩ := h
    refine does_slc h1 h2 h3 ?_
    simp only [Option.map_map] at hp
    rw [← hb]
    exact hp
  | fld agg off n x =>
    obtain ⟨t, x', f, ft, h1, rfl, h2, h3, h4⟩ := ho
    simp only [aop, aopF, Option.map_eq_some_iff, Prod.mk.injEq] at h
    obtain ⟨p, hp, rfl, rfl, hb⟩ := h
    exact does_fld h1 h2 h3 h4 (by rw [← hb]; exact hp)
  | ix agg ln sz x i =>
    obtain ⟨t, e, x', i', h1, rfl, rfl, h2, h3, h4⟩ := ho
    simp only [aop, aopF, Option.map_eq_some_iff, Prod.mk.injEq] at h
    obtain ⟨p, hp, rfl, rfl, hb⟩ := h
    exact does_ix h1 h2 h3 h4 (by rw [← hb]; exact hp)
  | tas t z ok x =>
    obtain ⟨x', st, h1, rfl, h2, h3⟩ := ho
    simp only [aop, aopF, Option.map_eq_some_iff, Prod.mk.injEq] at h
    obtain ⟨y, hy, rfl, rfl, _⟩ := h
    exact does_tas h1 h2 h3 hy
  | bsl0 e sz =>
    obtain ⟨t, h1, h2, h3⟩ := ho
    simp only [aop, aopF, Option.some.injEq, Prod.mk.injEq] at h
    obtain ⟨rfl, rfl, _⟩ := h
    exact does_bsl0 h1 h2 h3
  | pure o' =>
    obtain ⟨h1, h2, h3⟩ := ho
    simp only [aop, aopF] at h
    split at h
    · rename_i hall
      split at h
      · rename_i v hv
        simp only [Option.some.injEq, Prod.mk.injEq] at h
        obtain ⟨rfl, rfl, _⟩ := h
        exact (does_pure (by rw [h1]; exact h3) hall hv).congr h1 h2
      · cases h
    · cases h

end
end
end Go.Proofs.Ytfcfdedbbhdioaa.AI
