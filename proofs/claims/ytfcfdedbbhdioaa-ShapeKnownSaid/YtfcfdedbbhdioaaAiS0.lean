/- AI S0: operations on values that are known by their make: strings, truth values. -/
import Derived.Test.YtfcfdedbbhdioaaAi25
import Derived.Laws.Strings
namespace Go.Proofs.Ytfcfdedbbhdioaa.AI
noncomputable section
open Go
set_option linter.unusedVariables false
set_option linter.unusedSimpArgs false

def sIx (t : Option TypeDesc) (x i : AV) (rows : List Row) : Option (AV × List Row × Bool) :=
  match t, x, i with
  | some .string, .c (.string b), .c (.int _ j) => some (.c (.int .u8 ((b.data.toList.getD j.toNat 0).toNat : Nat)), rows, decide (0 ≤ j) && decide (j < b.size))
  | _, _, _ => none

def sLo : Option AV → Option Int
  | none => some 0
  | some (.c (.int _ n)) => some n
  | _ => none

def sHi (n : Nat) : Option AV → Option Int
  | none => some n
  | some (.c (.int _ m)) => some m
  | _ => none

def sSl (t : Option TypeDesc) (x : AV) (lo hi : Option AV) (rows : List Row) : Option (AV × List Row × Bool) :=
  match t, x with
  | some .string, .c (.string b) =>
    match sLo lo, sHi b.size hi with
    | some l, some h => some (.c (.string (b.extract l.toNat h.toNat)), rows, decide (0 ≤ l) && decide (l ≤ h) && decide (h ≤ b.size))
    | _, _ => none
  | _, _ => none

def sBin (op : BinOp) (t : Option TypeDesc) (x y : AV) (rows : List Row) : Option (AV × List Row × Bool) :=
  match t, x, y with
  | some .string, .c (.string a), .c (.string b) =>
    match op with
    | .eql => some (.c (.bool (decide (a = b))), rows, true)
    | .neq => some (.c (.bool (!decide (a = b))), rows, true)
    | .add => some (.c (.string (a ++ b)), rows, decide (a.size + b.size ≤ 9223372036854775807))
    | _ => none
  | some .bool, .c (.bool a), .c (.bool b) =>
    match op with
    | .eql => some (.c (.bool (a == b)), rows, true)
    | .neq => some (.c (.bool (a != b)), rows, true)
    | _ => none
  | _, _, _ => none

/-- As aopF; strings and truth values by their make. -/
def aopS (a : AOp) (P : Program) (ev : Opd → AV) (rows : List Row) : Option (AV × List Row × Bool) :=
  match a with
  | .pure o =>
    match o.op with
    | .index t x i => sIx (P.underlying t) (ev (Opd.of x)) (ev (Opd.of i)) rows
    | .slice t x lo hi none => sSl (P.underlying t) (ev (Opd.of x)) (lo.map fun y => ev (Opd.of y)) (hi.map fun y => ev (Opd.of y)) rows
    | .binOp op t x y _ => sBin op (P.underlying t) (ev (Opd.of x)) (ev (Opd.of y)) rows
    | _ => aopF a P ev rows
  | _ => aopF a P ev rows

section
variable {P : Program} {ev : Opd → AV} {rows : List Row}

theorem pure_by {o : Oper} {v : Value} (hv : allVal ev o = true) (hp : pev P (execOp (rhoOf ev) o) = some (.value v)) : aopF (.pure o) P ev rows = some (.c v, rows, true) := by
  simp only [aopF, hv, hp, if_true]

theorem ba_eq (a b : ByteArray) : (a.toList == b.toList) = decide (a = b) := by
  have key : a.toList = b.toList ↔ a = b := by
    constructor
    · intro h
      have e : ∀ x : ByteArray, x.toList = x.data.toList := fun x => ByteArray.toList_eq x
      rw [e, e] at h
      cases a; cases b
      congr 1
      exact Array.ext' h
    · intro h; rw [h]
  by_cases h : a = b
  · simp [h]
  · have : ¬ a.toList = b.toList := fun q => h (key.1 q)
    simp [h, this]

theorem pev_bind {α β : Type} (e : Sem α) (f : α → Sem β) : pev P (e >>= f) = (pev P e).bind fun a => pev P (f a) := by
  show pev P (Sem.bind e f) = _
  induction e with
  | pure a => rfl
  | program k ih => simp only [Sem.bind, pev]; exact ih P
  | mark m k ih => simp only [Sem.bind, pev]; exact ih
  | _ => simp [Sem.bind, pev]

theorem pev_pure {α : Type} (a : α) : pev P (Pure.pure a : Sem α) = some a := rfl

theorem pev_map {α β : Type} (f : α → β) (e : Sem α) : pev P (f <$> e) = (pev P e).map f := by
  show pev P (e >>= fun a => Pure.pure (f a)) = _
  rw [pev_bind]
  cases pev P e <;> rfl

theorem pev_underlying {t : TypeId} {d : TypeDesc} (h : P.underlying t = some d) : pev P (underlying t) = some d := by
  unfold underlying
  rw [pev_bind]
  show (some P).bind _ = _
  simp only [Option.bind_some, h]
  rfl

theorem pev_program : pev P (program : Sem Program) = some P := rfl

theorem pev_sliceBound {k : IntKind} {n : Int} {bound : Nat} {c : BoundsCode} (h0 : 0 ≤ n) (h1 : n ≤ bound) : pev P (Instr.sliceBound (.int k n) bound c) = some n.toNat := by
  unfold Instr.sliceBound
  simp [pev_bind, pev_pure, asIntOf, h0, h1]

theorem aopS_sound {a : AOp} {x : AV} {rows' : List Row} (h : aopS a P ev rows = some (x, rows', true)) : aopF a P ev rows = some (x, rows', true) := by
  unfold aopS at h
  split at h
  rotate_left
  · exact h
  rename_i o
  split at h
  · rename_i t x i hop
    unfold sIx at h
    split at h
    · rename_i b k j ht hx hi
      simp only [Option.some.injEq, Prod.mk.injEq, Bool.and_eq_true, decide_eq_true_eq] at h
      obtain ⟨rfl, rfl, h0, h1⟩ := h
      refine pure_by ?_ ?_
      · simp [allVal, hop, Op.operands, hx, hi, AV.val]
      · have hj : j.toNat < b.size := by omega
        have e : b[j.toNat]? = some (b.data.toList.getD j.toNat 0) := by
          rw [getElem?_pos b j.toNat hj]
          have hj2 : j.toNat < b.data.size := hj
          have : b.data[j.toNat]? = some b.data[j.toNat] := by simp [hj2]
          simp [ByteArray.getElem_eq_getElem_data, List.getD, this]
        simp only [execOp, hop, rhoOf, hx, hi, AV.val, Option.getD_some, Instr.index, asIntOf, pev_map, pev_bind, pev_pure, pev_underlying ht, Option.bind_some, h0, if_true, e, Option.map_some]
    · cases h
  · rename_i t x lo hi hop
    unfold sSl at h
    split at h
    · rename_i b ht hx
      split at h
      · rename_i l hh hl hhi
        simp only [Option.some.injEq, Prod.mk.injEq, Bool.and_eq_true, decide_eq_true_eq] at h
        obtain ⟨rfl, rfl, ⟨h0, h1⟩, h2⟩ := h
        have hhi' : (∃ y k, hi = some y ∧ ev (Opd.of y) = .c (.int k hh)) ∨ (hi = none ∧ hh = b.size) := by
          cases hi with
          | none => simp only [Option.map_none, sHi, Option.some.injEq] at hhi; exact .inr ⟨rfl, hhi.symm⟩
          | some y =>
            simp only [Option.map_some, sHi] at hhi
            split at hhi
            · rename_i e; cases e
            · rename_i k m e
              injection e with e
              injection hhi with hhi
              exact .inl ⟨y, k, rfl, hhi ▸ e⟩
            · cases hhi
        have hlo' : (∃ y k, lo = some y ∧ ev (Opd.of y) = .c (.int k l)) ∨ (lo = none ∧ l = 0) := by
          cases lo with
          | none => simp only [Option.map_none, sLo, Option.some.injEq] at hl; exact .inr ⟨rfl, hl.symm⟩
          | some y =>
            simp only [Option.map_some, sLo] at hl
            split at hl
            · rename_i e; cases e
            · rename_i k m e
              injection e with e
              injection hl with hl
              exact .inl ⟨y, k, rfl, hl ▸ e⟩
            · cases hl
        have hrho : ∀ (y : Operand) (k : IntKind) (n : Int), ev (Opd.of y) = .c (.int k n) → rhoOf ev y = .int k n := fun y k n e => by simp [rhoOf, e, AV.val]
        refine pure_by ?_ ?_
        · rcases hhi' with ⟨y, k, rfl, ey⟩ | ⟨rfl, rfl⟩ <;> rcases hlo' with ⟨z, k', rfl, ez⟩ | ⟨rfl, rfl⟩ <;> simp_all [allVal, Op.operands, AV.val]
        · have hrx : rhoOf ev x = .string b := by simp [rhoOf, hx, AV.val]
          have hb : pev P (Instr.sliceBounds false b.size b.size (lo.map (rhoOf ev)) (hi.map (rhoOf ev)) none) = some (l.toNat, hh.toNat, b.size) := by
            unfold Instr.sliceBounds
            rcases hhi' with ⟨y, k, rfl, ey⟩ | ⟨rfl, rfl⟩ <;> rcases hlo' with ⟨z, k', rfl, ez⟩ | ⟨rfl, rfl⟩ <;>
              simp only [Option.map_some, Option.map_none, pev_bind, pev_pure, Option.bind_some]
            · rw [hrho _ _ _ ey, hrho _ _ _ ez, pev_sliceBound (by omega) h2]
              simp only [Option.bind_some]
              rw [pev_sliceBound h0 (by omega)]
              rfl
            · rw [hrho _ _ _ ey, pev_sliceBound (by omega) h2]
              rfl
            · rw [hrho _ _ _ ez, pev_sliceBound h0 h1]
              simp
            · simp
          simp only [execOp, hop, hrx, Instr.slice, Instr.sliceAt, pev_map, pev_bind, pev_pure, pev_underlying ht, Option.bind_some]
          simp [pev_map, pev_bind, pev_pure, hb]
      · cases h
    · cases h
  · rename_i op t x y t' hop
    unfold sBin at h
    split at h
    · rename_i a b ht hx hy
      have hv : allVal ev o = true := by simp [allVal, hop, Op.operands, hx, hy, AV.val]
      have hp : ∀ v, pev P (binOp op t (.string a) (.string b)) = some v → pev P (execOp (rhoOf ev) o) = some (.value v) := by
        intro v h1
        simp only [execOp, hop, rhoOf, hx, hy, AV.val, Option.getD_some, pev_map, pev_bind]
        have : pev P (eqGuard op t x y (.string a) (.string b)) = some () := by
          unfold eqGuard
          cases op <;> rfl
        rw [this]
        simp only [Option.bind_some, h1, Option.map_some, pev_pure]
      split at h
      · simp only [Option.some.injEq, Prod.mk.injEq] at h
        obtain ⟨rfl, rfl, _⟩ := h
        refine pure_by hv (hp _ ?_)
        simp only [binOp, Op.stringOp, ba_eq]
        rfl
      · simp only [Option.some.injEq, Prod.mk.injEq] at h
        obtain ⟨rfl, rfl, _⟩ := h
        refine pure_by hv (hp _ ?_)
        simp only [binOp, Op.stringOp, ba_eq]
        rfl
      · simp only [Option.some.injEq, Prod.mk.injEq, decide_eq_true_eq] at h
        obtain ⟨rfl, rfl, h1⟩ := h
        refine pure_by hv (hp _ ?_)
        simp only [binOp, Op.stringOp]
        rw [if_neg (by simp only [IntKind.max, IntKind.signed, IntKind.bits]; simp; omega)]
        rfl
      · cases h
    · rename_i a b ht hx hy
      have hv : allVal ev o = true := by simp [allVal, hop, Op.operands, hx, hy, AV.val]
      have hp : ∀ v, pev P (binOp op t (.bool a) (.bool b)) = some v → pev P (execOp (rhoOf ev) o) = some (.value v) := by
        intro v h1
        simp only [execOp, hop, rhoOf, hx, hy, AV.val, Option.getD_some, pev_map, pev_bind]
        have : pev P (eqGuard op t x y (.bool a) (.bool b)) = some () := by
          unfold eqGuard
          cases op <;> rfl
        rw [this]
        simp only [Option.bind_some, h1, Option.map_some, pev_pure]
      have heq : pev P (Op.equal t (.bool a) (.bool b)) = some (a == b) := by
        have : ∀ d, pev P (Op.equalIn (d + 1) t (.bool a) (.bool b)) = some (a == b) := fun d => by
          unfold Op.equalIn
          rw [pev_bind, pev_underlying ht]
          rfl
        exact this 9999
      split at h
      · simp only [Option.some.injEq, Prod.mk.injEq] at h
        obtain ⟨rfl, rfl, _⟩ := h
        refine pure_by hv (hp _ ?_)
        simp only [binOp, pev_bind, heq, Option.bind_some, pev_pure]
      · simp only [Option.some.injEq, Prod.mk.injEq] at h
        obtain ⟨rfl, rfl, _⟩ := h
        refine pure_by hv (hp _ ?_)
        simp only [binOp, pev_bind, heq, Option.bind_some, pev_pure]
        rfl
      · cases h
    · cases h
  · exact h

end
end
end Go.Proofs.Ytfcfdedbbhdioaa.AI
