/- AI 8: operations on constants alone, by the model's own text; arithmetic; tuples; make; literals; parts of slices. -/
import Derived.Test.YtfcfdedbbhdioaaAi7
import Derived.Orders
namespace Go.Proofs.Ytfcfdedbbhdioaa.AI
noncomputable section
open Go
set_option linter.unusedVariables false
set_option linter.unusedSimpArgs false

/-- What a computation yields that looks at no memory and asks nothing. -/
def pev {α : Type} (P : Program) : Sem α → Option α
  | .pure a => some a
  | .program k => pev P (k P)
  | .mark _ k => pev P k
  | _ => none

theorem pev_run {α : Type} {P : Program} (e : Sem α) {a : α} (h : pev P e = some a) (w : World) : e.run P w = .ok a w := by
  induction e with
  | pure b => simp only [pev, Option.some.injEq] at h; subst h; rfl
  | program k ih => simp only [pev] at h; exact ih P h
  | mark m k ih => simp only [pev] at h; exact ih h
  | _ => simp [pev] at h

def AV.known : AV → Option Value
  | .c v => some v
  | _ => none

def Seg.vals : Seg → Option (List Value)
  | .ints k n l => if l.length = n then some (l.map (.int k)) else none
  | .bools n l => if l.length = n then some (l.map .bool) else none
  | .avs l => l.mapM AV.known
  | .recs .. => none

def segsVals : List Seg → Option (List Value)
  | [] => some []
  | s :: b =>
    match s.vals, segsVals b with
    | some x, some y => some (x ++ y)
    | _, _ => none

/-- The value itself, where it is known. -/
def AV.val : AV → Option Value
  | .c v => some v
  | .agg b => (segsVals b).map fun l => .agg l.toArray
  | .tup l => (l.mapM AV.known).map fun l => .tuple l.toArray
  | .ifc t (.c v) => some (.iface t v)
  | _ => none

theorem mapM_c {l : List AV} : ∀ {vs : List Value}, (l.mapM AV.known) = some vs → vs.length = l.length ∧ ∀ (j : Nat) (v : Value), vs[j]? = some v → l[j]? = some (.c v) := by
  induction l with
  | nil => intro vs h; simp at h; subst h; simp
  | cons x l ih =>
    intro vs h
    simp only [List.mapM_cons, Option.bind_eq_bind, Option.pure_def] at h
    cases x
    case c v =>
      cases hr : (l.mapM AV.known) with
      | none => simp [hr, AV.known] at h
      | some rest =>
        simp [hr, AV.known] at h
        subst h
        obtain ⟨h1, h2⟩ := ih hr
        refine ⟨by simp [h1], fun j v' hj => ?_⟩
        cases j with
        | zero => simpa using hj
        | succ j => simpa using h2 j v' (by simpa using hj)
    all_goals simp [AV.known] at h

theorem Seg.vals_spec {s : Seg} {vs : List Value} (h : s.vals = some vs) : vs.length = s.size ∧ ∀ (j : Nat) (v : Value), vs[j]? = some v → s.cell j = some (.c v) := by
  cases s with
  | ints k n l =>
    simp only [Seg.vals] at h
    split at h
    · rename_i hl
      injection h with h; subst h
      refine ⟨by simp [Seg.size, hl], fun j v hj => ?_⟩
      simp only [List.getElem?_map, Option.map_eq_some_iff] at hj
      obtain ⟨x, hx, rfl⟩ := hj
      have : j < n := by have := (List.getElem?_eq_some_iff.1 hx).1; omega
      simp [Seg.cell, this, hx]
    · cases h
  | bools n l =>
    simp only [Seg.vals] at h
    split at h
    · rename_i hl
      injection h with h; subst h
      refine ⟨by simp [Seg.size, hl], fun j v hj => ?_⟩
      simp only [List.getElem?_map, Option.map_eq_some_iff] at hj
      obtain ⟨x, hx, rfl⟩ := hj
      have : j < n := by have := (List.getElem?_eq_some_iff.1 hx).1; omega
      simp [Seg.cell, this, hx]
    · cases h
  | avs l =>
    simp only [Seg.vals] at h
    obtain ⟨h1, h2⟩ := mapM_c h
    exact ⟨h1, h2⟩
  | recs sz n f => simp [Seg.vals] at h

theorem segsVals_spec : ∀ {b : List Seg} {vs : List Value}, segsVals b = some vs → vs.length = segsSize b ∧ ∀ (j : Nat) (v : Value), vs[j]? = some v → segsCell b j = some (.c v)
  | [], vs, h => by simp only [segsVals, Option.some.injEq] at h; subst h; exact ⟨rfl, fun j v hj => by simp at hj⟩
  | s :: b, vs, h => by
    simp only [segsVals] at h
    split at h
    · rename_i x y hx hy
      injection h with h; subst h
      obtain ⟨h1, h2⟩ := Seg.vals_spec hx
      obtain ⟨h3, h4⟩ := segsVals_spec hy
      refine ⟨by simp [segsSize, h1, h3], fun j v hj => ?_⟩
      simp only [segsCell]
      by_cases hl : j < s.size
      · rw [if_pos hl]
        rw [List.getElem?_append_left (by omega)] at hj
        exact h2 j v hj
      · rw [if_neg hl]
        rw [List.getElem?_append_right (by omega), h1] at hj
        exact h4 _ v hj
    · cases h

section
variable {P : Program} {G : List (Nat × Obj)} {s : List AV} {rows : List Row}

theorem FR.of_c {w : World} {R : Nat → Prop} {u v : Value} (h : FR w R (.c u) v) : v = u := by cases h; rfl
theorem VR.of_c {w : World} {R : Nat → Prop} {L : Nat → Place} {u v : Value} (h : VR w R L (.c u) v) : v = u := by cases h with | fr _ _ h => exact h.of_c

theorem VR.val {w : World} {R : Nat → Prop} {L : Nat → Place} {x : AV} {u v : Value} (h : VR w R L x v) (hx : x.val = some u) : v = u := by
  unfold AV.val at hx
  split at hx
  · injection hx with hx; subst hx; exact h.of_c
  · rename_i b
    cases hq : segsVals b with
    | none => simp [hq] at hx
    | some vs =>
      simp only [hq, Option.map_some, Option.some.injEq] at hx
      subst hx
      obtain ⟨h1, h2⟩ := segsVals_spec hq
      have main : ∀ cs : Array Value, cs.size = segsSize b → (∀ (j : Nat) (y : AV) (v : Value), segsCell b j = some y → cs[j]? = some v → VR w R L y v) → Value.agg cs = .agg vs.toArray := by
        intro cs hs hv
        congr 1
        apply Array.ext'
        apply List.ext_getElem?
        intro j
        by_cases hj : j < segsSize b
        · have hj1 : j < vs.length := by omega
          have hj2 : j < cs.size := by omega
          have := hv j _ cs[j] (h2 j vs[j] (by simp [hj1])) (by simp [hj2])
          simp [hj1, hj2, this.of_c]
        · rw [List.getElem?_eq_none (by simp; omega), List.getElem?_eq_none (by simp; omega)]
      cases h with
      | fr _ _ h => cases h with | agg _ cs hs _ hv => exact main cs hs fun j y v hy hv' => .fr _ _ (hv j y v hy hv')
      | agg _ cs hs _ hv => exact main cs hs hv
  · rename_i l
    cases hq : (l.mapM AV.known) with
    | none => simp [hq] at hx
    | some vs =>
      simp only [hq, Option.map_some, Option.some.injEq] at hx
      subst hx
      obtain ⟨h1, h2⟩ := mapM_c hq
      have main : ∀ cs : Array Value, cs.size = l.length → (∀ (j : Nat) (y : AV) (v : Value), l[j]? = some y → cs[j]? = some v → VR w R L y v) → Value.tuple cs = .tuple vs.toArray := by
        intro cs hs hv
        congr 1
        apply Array.ext'
        apply List.ext_getElem?
        intro j
        by_cases hj : j < l.length
        · have hj1 : j < vs.length := by omega
          have hj2 : j < cs.size := by omega
          have := hv j _ cs[j] (h2 j vs[j] (by simp [hj1])) (by simp [hj2])
          simp [hj1, hj2, this.of_c]
        · rw [List.getElem?_eq_none (by simp; omega), List.getElem?_eq_none (by simp; omega)]
      cases h with
      | fr _ _ h => cases h with | tup _ cs hs hv => exact main cs hs fun j y v hy hv' => .fr _ _ (hv j y v hy hv')
      | tup _ cs hs hv => exact main cs hs hv
  · rename_i t v'
    injection hx with hx
    subst hx
    cases h with
    | fr _ _ h => cases h with | ifc _ _ _ h => rw [h.of_c]
    | ifc _ _ _ h => rw [h.of_c]
  · cases hx

def allVal (ev : Opd → AV) (o : Oper) : Bool := o.op.operands.all fun x => (ev (Opd.of x)).val.isSome
def rhoOf (ev : Opd → AV) (x : Operand) : Value := ((ev (Opd.of x)).val).getD undef

theorem does_pure {o : Oper} {v : Value} (hs : ∀ cs b, o.op ≠ .select cs b) (h : allVal (Opd.ev s) o = true) (hp : pev P (execOp (rhoOf (Opd.ev s)) o) = some (.value v)) : Does P G o s rows (.c v) rows := by
  refine Does.quiet fun w R L a hsl hr hg => ⟨v, ?_, .fr _ _ (.c v)⟩
  have he : execOp a.eval o = execOp (rhoOf (Opd.ev s)) o := execOp_congr o hs fun x hx => by
    unfold allVal at h
    rw [Array.all_eq_true] at h
    obtain ⟨i, hi, rfl⟩ := Array.mem_iff_getElem.1 hx
    have := h i hi
    obtain ⟨u, hu⟩ := Option.isSome_iff_exists.1 this
    have h2 := (hsl.ev o.op.operands[i]).val hu
    rw [h2]
    simp [rhoOf, hu]
  rw [he]
  exact pev_run _ hp w

/-! ### Values handed on -/

theorem does_mv {o : Oper} {x : Operand} (ho : o.op = .move x ∨ o.op = .assign x) : Does P G o s rows ((Opd.of x).ev s) rows :=
  Does.quiet fun w R L a hs hr hg => ⟨a.eval x, by rcases ho with ho | ho <;> simp [execOp, ho], hs.ev x⟩

theorem does_pick {o : Oper} {c x y : Operand} {b : Bool} (ho : o.op = .pick c x y) (h : (Opd.of c).ev s = .c (.bool b)) : Does P G o s rows (if b then (Opd.of x).ev s else (Opd.of y).ev s) rows := by
  refine Does.quiet fun w R L a hs hr hg => ⟨if b then a.eval x else a.eval y, ?_, ?_⟩
  · have hc := hs.ev c
    rw [h] at hc
    simp only [execOp, ho, hc.of_c, asBool]
    cases b <;> simp
  · cases b
    · exact hs.ev y
    · exact hs.ev x

def extractAV (i : Nat) : AV → Option AV
  | .tup l => l[i]?
  | .c (.tuple vs) => (vs[i]?).map .c
  | _ => none

theorem does_extract {o : Oper} {x : Operand} {i : Nat} {y : AV} (ho : o.op = .extract x i) (h : extractAV i ((Opd.of x).ev s) = some y) : Does P G o s rows y rows := by
  refine Does.quiet fun w R L a hs hr hg => ?_
  have hx := hs.ev x
  have key : ∀ vs v, a.eval x = .tuple vs → vs[i]? = some v → (execOp a.eval o).run P w = .ok (.value v) w := by
    intro vs v hv hi
    simp [execOp, ho, hv, Instr.extract, hi]
  generalize (Opd.of x).ev s = p at h hx
  generalize a.eval x = vx at hx key
  unfold extractAV at h
  split at h
  · rename_i l
    have hl := (List.getElem?_eq_some_iff.1 h).1
    cases hx with
    | fr _ _ h' => cases h' with | tup _ vs hsz hv =>
      have hi : vs[i]? = some vs[i] := by simp [hsz, hl]
      exact ⟨_, key _ _ rfl hi, .fr _ _ (hv i y _ h hi)⟩
    | tup _ vs hsz hv =>
      have hi : vs[i]? = some vs[i] := by simp [hsz, hl]
      exact ⟨_, key _ _ rfl hi, hv i y _ h hi⟩
  · rename_i vs
    have := hx.of_c
    subst this
    cases hq : vs[i]? with
    | none => simp [hq] at h
    | some v =>
      simp only [hq, Option.map_some, Option.some.injEq] at h
      subst h
      exact ⟨v, key _ _ rfl hq, .fr _ _ (.c v)⟩
  · cases h

def nilAV (rows : List Row) : AV → Bool
  | .ptr k _ _ => live rows k
  | .fptr .. => true
  | .c (.pointer (some _)) => true
  | .fn .. => true
  | .c (.func (.func _) _ _) => true
  | _ => false

theorem does_nil {o : Oper} {x : Operand} (ho : o.op = .nilCheck x) (h : nilAV rows ((Opd.of x).ev s) = true) : Does P G o s rows ((Opd.of x).ev s) rows := by
  refine Does.quiet fun w R L a hs hr hg => ?_
  have hx := hs.ev x
  have k1 : ∀ p, a.eval x = .pointer (some p) → (execOp a.eval o).run P w = .ok (.value (a.eval x)) w := by
    intro p hv
    simp [execOp, ho, hv]
  have k2 : ∀ f p q, a.eval x = .func (.func f) p q → (execOp a.eval o).run P w = .ok (.value (a.eval x)) w := by
    intro f p q hv
    simp [execOp, ho, hv]
  refine ⟨a.eval x, ?_, hx⟩
  generalize (Opd.of x).ev s = p at h hx
  generalize a.eval x = vx at hx k1 k2
  unfold nilAV at h
  split at h
  · rename_i k _ _
    obtain ⟨e, b, hk⟩ := live_ex h
    have hrow := hr.row k _ hk
    cases hx with
    | fr _ _ h' => cases h'
    | ptrGone _ _ _ _ hL => rw [hL] at hrow; exact hrow.elim
    | ptr => exact k1 _ rfl
  · cases hx with | fr _ _ h' => cases h'; exact k1 _ rfl
  · have := hx.of_c; subst this; exact k1 _ rfl
  · cases hx with
    | fr _ _ h' => cases h'; exact k2 _ _ _ rfl
    | fn => exact k2 _ _ _ rfl
  · have := hx.of_c; subst this; exact k2 _ _ _ rfl
  · cases h

/-! ### Integers -/

def intBin (op : BinOp) (k : IntKind) (a b : Int) : Option Value :=
  match op with
  | .add => some (.int k (k.wrap (a + b)))
  | .sub => some (.int k (k.wrap (a - b)))
  | .mul => some (.int k (k.wrap (a * b)))
  | .quo => if b = 0 then none else some (.int k (k.wrap (a.tdiv b)))
  | .rem => if b = 0 then none else some (.int k (a.tmod b))
  | .and => some (.int k (k.wrap (BitVec.ofInt k.bits a &&& BitVec.ofInt k.bits b).toNat))
  | .or => some (.int k (k.wrap (BitVec.ofInt k.bits a ||| BitVec.ofInt k.bits b).toNat))
  | .xor => some (.int k (k.wrap (BitVec.ofInt k.bits a ^^^ BitVec.ofInt k.bits b).toNat))
  | .andNot => some (.int k (k.wrap (BitVec.ofInt k.bits a &&& ~~~BitVec.ofInt k.bits b).toNat))
  | .eql => some (.bool (a == b))
  | .neq => some (.bool (a != b))
  | .lss => some (.bool (decide (a < b)))
  | .leq => some (.bool (decide (a ≤ b)))
  | .gtr => some (.bool (decide (a > b)))
  | .geq => some (.bool (decide (a ≥ b)))
  | _ => none

def intShift (op : BinOp) (k : IntKind) (a b : Int) : Option Value :=
  if b < 0 then none else
  match op with
  | .shl => some (.int k (k.wrap (a * 2 ^ (min b.toNat k.bits))))
  | .shr => some (.int k (a.fdiv (2 ^ (min b.toNat k.bits))))
  | _ => none

def binAV (op : BinOp) (x y : AV) : Option AV :=
  match x, y with
  | .c (.int k a), .c (.int k' b) =>
    (match op with
    | .shl | .shr => intShift op k a b
    | _ => if k = k' then intBin op k a b else none).map .c
  | _, _ => none

theorem does_bin {o : Oper} {op : BinOp} {t t' : TypeId} {x y : Operand} {r : AV} (ho : o.op = .binOp op t x y t') (h : binAV op ((Opd.of x).ev s) ((Opd.of y).ev s) = some r) : Does P G o s rows r rows := by
  refine Does.quiet fun w R L a hs hr hg => ?_
  have hx := hs.ev x
  have hy := hs.ev y
  unfold binAV at h
  split at h
  · rename_i k n k' n' e1 e2
    rw [e1] at hx
    rw [e2] at hy
    have hx := hx.of_c
    have hy := hy.of_c
    have hgd : (eqGuard op t x y (.int k n) (.int k' n')).run P w = .ok () w := by
      unfold eqGuard
      cases op <;> simp
    have key : ∀ v, (binOp op t (.int k n) (.int k' n')).run P w = .ok v w → (execOp a.eval o).run P w = .ok (.value v) w := by
      intro v hv
      simp [execOp, ho, hx, hy, hgd, hv]
    cases op
    case shl =>
      simp only [intShift] at h
      split at h
      · cases h
      · rename_i hb
        simp only [Option.map_some, Option.some.injEq] at h
        subst h
        exact ⟨_, key _ (by simp [binOp, Op.shift, hb]), .fr _ _ (.c _)⟩
    case shr =>
      simp only [intShift] at h
      split at h
      · cases h
      · rename_i hb
        simp only [Option.map_some, Option.some.injEq] at h
        subst h
        exact ⟨_, key _ (by simp [binOp, Op.shift, hb]), .fr _ _ (.c _)⟩
    all_goals
      simp only at h
      split at h
      rotate_left
      · cases h
      rename_i hk
      subst hk
      simp only [intBin] at h
    all_goals first
      | (simp only [Option.map_some, Option.some.injEq] at h
         subst h
         exact ⟨_, key _ (by simp [binOp, Op.intArith, Op.intBits, Op.intCmp]), .fr _ _ (.c _)⟩)
      | (split at h
         · cases h
         · rename_i hb
           simp only [Option.map_some, Option.some.injEq] at h
           subst h
           exact ⟨_, key _ (by simp [binOp, Op.intDiv, hb]), .fr _ _ (.c _)⟩)
  · cases h

def unAV (op : UnOp) (x : AV) : Option AV :=
  match op, x with
  | .not, .c (.bool b) => some (.c (.bool !b))
  | .neg, .c (.int k n) => some (.c (.int k (k.wrap (0 - n))))
  | .xor, .c (.int k n) => some (.c (.int k (k.wrap (BitVec.ofInt k.bits (if k.signed then -1 else k.max) ^^^ BitVec.ofInt k.bits n).toNat)))
  | _, _ => none

theorem does_un {o : Oper} {op : UnOp} {t : TypeId} {x : Operand} {r : AV} (ho : o.op = .unOp op t x) (h : unAV op ((Opd.of x).ev s) = some r) : Does P G o s rows r rows := by
  refine Does.quiet fun w R L a hs hr hg => ?_
  have hx := hs.ev x
  unfold unAV at h
  split at h
  · rename_i b e
    rw [e] at hx
    injection h with h; subst h
    exact ⟨_, by simp [execOp, ho, hx.of_c, Op.unary], .fr _ _ (.c _)⟩
  · rename_i k n e
    rw [e] at hx
    injection h with h; subst h
    exact ⟨_, by simp only [execOp, ho, hx.of_c, Op.unary, Op.intArith, Sem.run_bind, Sem.run_pure, Result.andThen_ok], .fr _ _ (.c _)⟩
  · rename_i k n e
    rw [e] at hx
    injection h with h; subst h
    exact ⟨_, by simp only [execOp, ho, hx.of_c, Op.unary, Op.intBits, Sem.run_bind, Sem.run_pure, Result.andThen_ok], .fr _ _ (.c _)⟩
  · cases h

def kindOf (P : Program) (t : TypeId) : Option IntKind :=
  match P.underlying t with
  | some (.int k) => some k
  | _ => none

theorem does_conv {o : Oper} {t t' : TypeId} {x : Operand} {k k' : IntKind} {n : Int} (ho : o.op = .convert t t' x) (ht : (P.underlying t).isSome = true) (hk : kindOf P t' = some k) (h : (Opd.of x).ev s = .c (.int k' n)) :
    Does P G o s rows (.c (.int k (k.wrap n))) rows := by
  refine Does.quiet fun w R L a hs hr hg => ?_
  have hx := hs.ev x
  rw [h] at hx
  have hu : P.underlying t' = some (.int k) := by
    unfold kindOf at hk
    split at hk
    · rename_i hu; simp only [Option.some.injEq] at hk; subst hk; exact hu
    · cases hk
  obtain ⟨d, hd⟩ := Option.isSome_iff_exists.1 ht
  exact ⟨_, by simp [execOp, ho, hx.of_c, convert, run_underlying hu, run_underlying hd, Conv.intToInt], .fr _ _ (.c _)⟩

theorem run_eqNil (d : Nat) {t e : TypeId} (hu : P.underlying t = some (.pointer e)) (p : Option Addr) (w : World) : (Op.equalIn (d + 1) t (.pointer p) (.pointer none)).run P w = .ok p.isNone w := by
  cases p <;> simp [Op.equalIn, run_underlying hu]

/-- x == nil, where x is a pointer. -/
def nilEq (rows : List Row) (x : AV) : Option Bool :=
  match x with
  | .ptr k _ _ => if live rows k then some false else none
  | .fptr .. => some false
  | .c (.pointer none) => some true
  | _ => none

def ptrOf (P : Program) (t : TypeId) : Bool :=
  match P.underlying t with
  | some (.pointer _) => true
  | _ => false

theorem does_nilEq {o : Oper} {op : BinOp} {t t' : TypeId} {x : Operand} {b : Bool} (hop : op = .eql ∨ op = .neq) (ho : o.op = .binOp op t x (.const (.pointer none)) t') (ht : ptrOf P t = true)
    (h : nilEq rows ((Opd.of x).ev s) = some b) : Does P G o s rows (.c (.bool (if op matches .eql then b else !b))) rows := by
  refine Does.quiet fun w R L a hs hr hg => ?_
  have hx := hs.ev x
  have hp : ∃ p, a.eval x = .pointer p ∧ p.isNone = b := by
    generalize (Opd.of x).ev s = p at h hx
    generalize a.eval x = vx at hx
    unfold nilEq at h
    split at h
    · rename_i k _ _
      split at h
      · rename_i hl
        injection h with h; subst h
        obtain ⟨e, bb, hk⟩ := live_ex hl
        have hrow := hr.row k _ hk
        cases hx with
        | fr _ _ h' => cases h'
        | ptrGone _ _ _ _ hL => rw [hL] at hrow; exact hrow.elim
        | ptr => exact ⟨_, rfl, rfl⟩
      · cases h
    · injection h with h; subst h
      cases hx with | fr _ _ h' => cases h'; exact ⟨_, rfl, rfl⟩
    · injection h with h; subst h
      have := hx.of_c; subst this; exact ⟨_, rfl, rfl⟩
    · cases h
  obtain ⟨p, hv, rfl⟩ := hp
  obtain ⟨e, hu⟩ : ∃ e, P.underlying t = some (.pointer e) := by
    unfold ptrOf at ht
    split at ht
    · exact ⟨_, ‹_›⟩
    · cases ht
  have heq : (Op.equal t (.pointer p) (.pointer none)).run P w = .ok p.isNone w := run_eqNil 9999 hu p w
  have hne : a.eval (.const (.pointer none)) = .pointer none := rfl
  rcases hop with rfl | rfl
  · exact ⟨_, by simp [execOp, ho, hv, hne, eqGuard, binOp, heq], .fr _ _ (.c _)⟩
  · exact ⟨_, by simp [execOp, ho, hv, hne, eqGuard, binOp, heq], .fr _ _ (.c _)⟩

end
end
end Go.Proofs.Ytfcfdedbbhdioaa.AI
