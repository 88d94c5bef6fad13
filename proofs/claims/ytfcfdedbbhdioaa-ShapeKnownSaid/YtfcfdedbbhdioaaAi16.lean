/- AI 16: the abstract code of code, and its run. -/
import Derived.Test.YtfcfdedbbhdioaaAi17
namespace Go.Proofs.Ytfcfdedbbhdioaa.AI
noncomputable section
open Go
set_option linter.unusedVariables false
set_option linter.unusedSimpArgs false

structure Hint where
  fz : List Nat := []
  nofz : List Nat := []
  nils : List Nat := []
  modes : List (Nat × Nat) := []

def bytesOf (P : Program) (t : TypeId) : Option Nat := (P.info? t).map (·.bytes)

def isIface (P : Program) (t : TypeId) : Bool := match P.underlying t with | some (.interface _) | none => true | _ => false

def psFor (place : Nat → Option (Nat × Nat)) (parts : List (Nat × Operand)) : Option (List (Nat × Nat × Opd)) :=
  parts.mapM fun p => (place p.1).map fun q => (q.1, q.2, Opd.of p.2)

def zOKB (sz : Nat) (z : Value) : Bool := decide (z.cells.size = sz) && decide (0 < sz) && z.cells.all (·.oneCell')

/-- A slice that is made for an append alone. -/
def forAppend (ops : Array Oper) (d : Option Nat) : Bool :=
  ops.any fun o => match o.op with
    | .call { callee := .builtin .append, args, .. } => match (args[1]? : Option Operand), d with | some (Operand.tmp t), some d => t == d | _, _ => false
    | _ => false

/-- An operation, without what only its region sees. -/
def bareOp (o : Oper) : Oper := { dst := none, op := o.op, type := o.type, pos := "", after := #[], guard := none }

def cgOp (P : Program) (h : Hint) (fz : Bool) (o : Oper) : Option AOp :=
  match o.op with
  | .move (.const (.slice none 0 0)) | .assign (.const (.slice none 0 0)) =>
    if h.nils.contains (o.dst.getD 0) then do
      let e ← sliOf P o.type
      let sz ← tySize P e
      return .nilrow e sz
    else return .mv (.cst (.slice none 0 0))
  | .move x | .assign x => return .mv (.of x)
  | .pick c x y => return .pick (.of c) (.of x) (.of y)
  | .box t x => if h.fz.contains (o.dst.getD 0) then return .fbox (.of x) else return .box t (.of x)
  | .alloc t => do return .alloc t (← zeroOf P t)
  | .build t parts => do
    let place ← placesOf P t
    let z ← zeroOf P t
    let ps ← psFor place parts.toList
    if z.cells.all (·.oneCell') then return .build z ps else none
  | .buildSlice t len parts => do
    let e ← sliOf P t
    let sz ← tySize P e
    let z ← zeroOf P e
    if len = 0 then (if parts.size = 0 then return .bsl0 e sz else none) else do
      let ps ← psFor (fun i => some (i * sz, sz)) parts.toList
      if zOKB sz z && decide (len * sz ≤ 16777216) then return .bsl (fz || h.fz.contains (o.dst.getD 0)) e sz len z ps else none
  | .load t a => do return .load (← tyAgg P t) (← tySize P t) (.of a)
  | .store t a x => do return .store (← tySize P t) (.of a) (.of x)
  | .nilCheck x => return .nil (.of x)
  | .binOp op t x y _ =>
    match P.underlying t with
    | some (.int _) => return .bin op (.of x) (.of y)
    | some (.pointer _) =>
      match op, y with
      | .eql, .const (.pointer none) => return .nilEq true (.of x)
      | .neq, .const (.pointer none) => return .nilEq false (.of x)
      | _, _ => none
    | _ =>
      match op, y with
      | .eql, .const z => if nilKind P t z then return .nilEq2 true z (.of x) else return .pure (bareOp o)
      | .neq, .const z => if nilKind P t z then return .nilEq2 false z (.of x) else return .pure (bareOp o)
      | _, _ => return .pure (bareOp o)
  | .unOp op _ x => return .un op (.of x)
  | .convert t t' x =>
    match P.underlying t, P.underlying t' with
    | some (.int _), some (.int k) => return .conv k (.of x)
    | some (.slice e), some .string => match P.underlying e with | some (.int .u8) => return .b2s (.of x) | _ => none
    | some .string, some (.slice e) => match P.underlying e with | some (.int .u8) => return .s2b (.of x) | _ => none
    | _, _ => return .pure (bareOp o)
  | .fieldAddr t x f => do
    let (off, ft) ← fldOf P t f
    let n ← tySize P ft
    if n = 0 then none else return .fa off (.of x)
  | .indexAddr t x i =>
    match arrOf P t, sliOf P t with
    | some (len, e), _ => do return .iaA len (← tySize P e) (.of x) (.of i)
    | none, some e => do return .iaS (← tySize P e) (.of x) (.of i)
    | none, none => none
  | .extract x i => return .extract i (.of x)
  | .makeSlice t l c => do
    let e ← sliOf P t
    let sz ← tySize P e
    let z ← zeroOf P e
    let b ← bytesOf P e
    if zOKB sz z then return .make e sz b z (.of l) (.of c) else none
  | .makeFunc (.func f) first caps => if first.size = 0 then return .mkfn f (caps.toList.map Opd.of) else none
  | .makeInterface t x => if isIface P t then none else return .mkif t (.of x)
  | .call { callee := .builtin .len, args, argTypes } =>
    match args.toList, argTypes.toList with
    | [x], [t] =>
      match P.underlying t with
      | some .string => return .len true (.of x)
      | some (.slice _) => return .len false (.of x)
      | _ => none
    | _, _ => none
  | .call { callee := .builtin .append, args, argTypes } =>
    match args.toList, argTypes.toList with
    | [x, y], [t, t'] => do
      if t ≠ t' then none else
      let e ← sliOf P t
      let sz ← tySize P e
      let z ← zeroOf P e
      let b ← bytesOf P e
      if decide (z.cells.size = sz) && decide (0 < sz) then return .app e sz b (.of x) (.of y) else none
    | _, _ => none
  | .call { callee := .builtin .clear, args, argTypes } =>
    match args.toList, argTypes.toList with
    | [x], [t] => do
      let e ← sliOf P t
      let z ← zeroOf P e
      if z.oneCell' then return .clr z (.of x) else none
    | _, _ => none
  | .call { callee := .builtin .min, .. } | .call { callee := .builtin .max, .. } => return .pure (bareOp o)
  | .index t x i =>
    match arrOf P t with
    | some (len, e) => do return .ix (← tyAgg P e) len (← tySize P e) (.of x) (.of i)
    | none => return .pure (bareOp o)
  | .field t x f => do
    let (off, ft) ← fldOf P t f
    return .fld (← tyAgg P ft) off (← tySize P ft) (.of x)
  | .typeAssert x _ t ok => if isIface P t then return .pure (bareOp o) else do return .tas t (← zeroOf P t) ok (.of x)
  | .slice t x lo hi none =>
    match sliOf P t with
    | some e => do return .slc (← tySize P e) (.of x) (lo.map Opd.of) (hi.map Opd.of)
    | none => return .pure (bareOp o)
  | _ => none

def cgAct (P : Program) (h : Hint) (fz : Bool) (o : Oper) : Option AAct :=
  match o.op with
  | .call { callee := .value (.func f), args, .. } =>
    match P.funcs[f]? with
    | some fn => if fn.body.isNone then some (.op (.pure (bareOp o))) else if fn.name == "runtime.NumGoroutine" then none else some (.call f (args.toList.map Opd.of))
    | none => none
  | .call { callee := .value f, args, .. } => some (.callv (.of f) (args.toList.map Opd.of))
  | .call { callee := .builtin .recover, args, .. } => if args.size = 0 then some .recov else none
  | .panic x => some (.panic (.of x))
  | .defer { callee := .value f, args, .. } => if args.size = 0 then some (.defer (.of f)) else none
  | _ => (cgOp P h fz o).map .op

/-- Types whose values hold no memory. -/
def flatT (P : Program) : Nat → TypeId → Bool
  | 0, _ => false
  | n + 1, t =>
    match P.underlying t with
    | some .bool | some (.int _) | some .string => true
    | some (.array _ e) => flatT P n e
    | some (.struct fs) => fs.toList.all fun f => flatT P n f.type
    | some (.tuple ts) => ts.toList.all fun t => flatT P n t
    | _ => false

/-- A call of values alone: it may be run beside all rows. -/
def flatCall (P : Program) (o : Oper) : Bool :=
  match o.op with
  | .call { callee := .value _, args := _, argTypes } => argTypes.toList.all (flatT P 6) && flatT P 6 o.type
  | _ => false

def flatElem (P : Program) (o : Oper) : Bool :=
  match o.op with
  | .buildSlice t _ _ => match sliOf P t with | some e => flatT P 6 e | none => false
  | _ => false

def cgOper (P : Program) (h : Hint) (d : Bool) (ops : Array Oper) (o : Oper) : Option AOper := do
  let act ← cgAct P h (d && forAppend ops o.dst && flatElem P o && !h.nofz.contains (o.dst.getD 0)) o
  let mode := ((h.modes.find? fun p => some p.1 == o.dst).map (·.2)).getD (if d then (if flatCall P o then 1 else 3) else 0)
  match o.guard with
  | none => return { dst := o.dst, guard := none, act, after := afterOf o, mode }
  | some (j, want) => do
    let t ← (ops[j]?).bind (·.dst)
    return { dst := o.dst, guard := some (t, want), act, after := afterOf o, mode }

def AAct.loud (mode : Nat) : AAct → Bool
  | .op a => a.loud
  | .call .. | .callv .. => mode == 0 || mode == 3
  | _ => true

def AAct.opds : AAct → List Opd
  | .op a => a.opds
  | .call _ l => l
  | .callv f l => f :: l
  | .panic x | .defer x => [x]
  | .recov => []

def AOper.reads (o : AOper) : List Opd := (match o.guard with | some (t, _) => [.tm t] | none => []) ++ o.act.opds

/-- Those that come before each operation: bits. -/
def ancs : List AOper → List Nat → List Nat
  | [], acc => acc
  | o :: l, acc => ancs l (acc ++ [o.after.foldl (fun m k => m ||| (1 <<< k) ||| acc.getD k 0) 0])

def hasBit (m k : Nat) : Bool := (m >>> k) % 2 == 1

def zipIdx {α : Type} : List α → Nat → List (Nat × α)
  | [], _ => []
  | x :: l, i => (i, x) :: zipIdx l (i + 1)

/-- With each operation of a region that draws, the loud ones that may come before it or behind it. -/
def freeOf (l : List AOper) : List AOper :=
  let an := ancs l []
  (zipIdx l 0).map fun p => { p.2 with free := if p.2.act.loud p.2.mode then [] else (zipIdx l 0).filterMap fun q => if q.2.act.loud q.2.mode && !hasBit (an.getD p.1 0) q.1 && !hasBit (an.getD q.1 0) p.1 then some q.1 else none }

def apart2 (an : List Nat) (i j : Nat) (x y : AOper) : Bool :=
  hasBit (an.getD j 0) i ||
    ((match x.dst with | some d => !(y.dst == some d) && !(y.reads.any fun r => match r with | .tm t => t == d | _ => false) | none => true) &&
     (match y.dst with | some d => !(x.reads.any fun r => match r with | .tm t => t == d | _ => false) | none => true) &&
     !(x.act.loud x.mode && y.act.loud y.mode) && (!y.act.loud y.mode || x.free.contains j) && (!x.act.loud x.mode || y.free.contains i))

def noSelB : AAct → Bool
  | .op (.pure o) => match o.op with | .select .. => false | _ => true
  | _ => true

/-- A region that draws: what is not ordered is apart. -/
def regOK (l : List AOper) : Bool :=
  let an := ancs l []
  (zipIdx l 0).all fun p => p.2.after.all (fun k => decide (k < p.1)) && noSelB p.2.act && (zipIdx l 0).all fun q => decide (q.1 ≤ p.1) || apart2 an p.1 q.1 p.2 q.2

def codeOKB : ACode → Bool
  | .reg true l => regOK l
  | .seq a b => codeOKB a && codeOKB b
  | .cond _ a b => codeOKB a && codeOKB b
  | .block _ a => codeOKB a
  | .loop _ a => codeOKB a
  | _ => true

def cg (P : Program) (h : Hint) : Code → Option ACode
  | .skip => some .skip
  | .region _ ops d => (ops.toList.mapM (cgOper P h d ops)).map fun l => .reg d (if d then freeOf l else l)
  | .seq a b => do return .seq (← cg P h a) (← cg P h b)
  | .cond c a b => do return .cond (.of c) (← cg P h a) (← cg P h b)
  | .block i a => do return .block i (← cg P h a)
  | .loop a => do return .loop none (← cg P h a)
  | .exit i => some (.exit i)
  | .ret => some .ret
  | _ => none

def cgRes (P : Program) : ResultVar → Option ARes
  | .tmp t => some (.tm t)
  | .cell a t => do return .cell a (← tyAgg P t) (← tySize P t)

def cgFn (P : Program) (h : Hint) (f : FuncId) : Option AFn := do
  let fn ← P.funcs[f]?
  let c ← fn.body
  return { ntmps := fn.ntmps, results := ← fn.results.toList.mapM (cgRes P), code := ← cg P h c }

/-! ### Slots in pieces of eight: the kernel is quicker at them -/

noncomputable def nthL (l : List (List AV)) (n : Nat) : List AV :=
  Nat.rec (motive := fun _ => List (List AV) → List AV) (fun l => List.rec (motive := fun _ => List AV) [] (fun x _ _ => x) l) (fun _ ih l => ih (List.rec (motive := fun _ => List (List AV)) [] (fun _ t _ => t) l)) n l

def nthLC (l : List (List AV)) (n : Nat) : List AV := l.getD n []

theorem nthL_eq : @nthL = @nthLC := by
  funext l n
  induction n generalizing l with
  | zero => cases l <;> rfl
  | succ n ih =>
    cases l with
    | nil => exact (ih []).trans (by simp [nthLC])
    | cons x l => exact (ih l).trans (by simp [nthLC])

noncomputable def modL (l : List (List AV)) (n : Nat) (f : List AV → List AV) : List (List AV) :=
  Nat.rec (motive := fun _ => List (List AV) → List (List AV)) (fun l => List.rec (motive := fun _ => List (List AV)) [] (fun x t _ => f x :: t) l) (fun _ ih l => List.rec (motive := fun _ => List (List AV)) [] (fun y t _ => y :: ih t) l) n l

def modLC (l : List (List AV)) (n : Nat) (f : List AV → List AV) : List (List AV) := l.modify n f

theorem modL_eq : @modL = @modLC := by
  funext l n f
  induction n generalizing l with
  | zero => cases l <;> rfl
  | succ n ih =>
    cases l with
    | nil => rfl
    | cons y l => exact congrArg (y :: ·) (ih l)

def cget (ss : List (List AV)) (i : Nat) : AV := lget (nthL ss (Nat.div i 8)) (Nat.mod i 8)
def cset (ss : List (List AV)) (i : Nat) (x : AV) : List (List AV) := modL ss (Nat.div i 8) fun c => lset c (Nat.mod i 8) x

def evC (ss : List (List AV)) : Opd → AV
  | .tm i => cget ss i
  | .cst v => .c v

def chunks : Nat → List AV → List (List AV)
  | 0, _ => []
  | n + 1, l => l.take 8 :: chunks n (l.drop 8)

def chunksOf (l : List AV) : List (List AV) := chunks (l.length / 8 + 1) l

def guardE (ev : Opd → AV) : Option (Nat × Bool) → Option Bool
  | none => some true
  | some (t, want) =>
    match ev (.tm t) with
    | .c (.bool b) => some (b == want)
    | .c (.tuple _) => some false
    | _ => none

def resE (ev : Opd → AV) (rows : List Row) : ARes → Option AV
  | .tm i => some (ev (.tm i))
  | .cell i agg n =>
    match loadAV agg n rows (ev (.tm i)) with
    | some (x, true) => some x
    | _ => none

def resEs (ev : Opd → AV) (rows : List Row) (l : List ARes) : Option AV :=
  match l with
  | [r] => resE ev rows r
  | l => (l.mapM (resE ev rows)).map .tup

/-- A state of the run. -/
structure RSt where
  ss : List (List AV)
  rows : List Row
  np : Nat
  ds : List (FuncId × List AV)

/-! ### The run -/

inductive Why where
  | op (f : Nat) (o : AOper) (xs : List AV)
  | fuel | cond (x : AV) | nofn (f : Nat) | res (f : Nat) (x : AV) | draw (o : AOper) | ids | lend (f : Nat) (xs : List AV) | back (f : Nat) (x : AV) | inF (f : Nat) (w : Why)

inductive Out (α : Type) where
  | ok (a : α)
  | no (w : Why)

structure Cfg where
  P : Program
  fn : FuncId → Option AFn
  prim : FuncId → List AV → List Row → Option CRes
  keep : FuncId → Bool

def autoMode (keep : Bool) (xs : List AV) (mode : Nat) : Nat := if Nat.beq mode 4 then 4 else if keep && (Nat.beq mode 0 || Nat.beq mode 3) then mode else if xs.all (AV.pur 6) then 1 else mode

/-- The rows that some values reach. -/
def reachOf (rows : List Row) (xs : List AV) : List Nat := reach 100000 rows (xs.flatMap (AV.refs 6)) []

/-- A call with the rows that it reaches. -/
def subCall (call : FuncId → List AV → List Row → Out CRes) (f : FuncId) (xs : List AV) (rows : List Row) : Out CRes :=
  if idsOK rows.length (reachOf rows xs) then
    match call f (xs.map fun x => x.ren 6 (posIn (reachOf rows xs))) (subRows rows (reachOf rows xs)) with
    | .ok (.ret r rows1) => .ok (.ret (r.ren 6 (backRen (reachOf rows xs) rows.length)) (backRows rows (reachOf rows xs) rows1))
    | .ok (.panic r _) => .no (.back f r)
    | .no w => .no w
  else .no .ids

/-- A call that leaves the rows: it sees quiet memory, or is lent them. -/
def lentCall (call : FuncId → List AV → List Row → Out CRes) (m : Nat) (f : FuncId) (xs : List AV) (rows : List Row) : Out CRes :=
  match xs.mapM (lend (lentOf m) rows) with
  | some xs' =>
    match call f xs' [] with
    | .ok (.ret r rows1) =>
      match lentBack m r rows1 with
      | some r' => .ok (.ret r' rows)
      | none => .no (.back f r)
    | .ok (.panic r _) => .no (.back f r)
    | .no w => .no w
  | none => .no (.lend f xs)

/-- A call by its mode: 0: with all rows; 1: of quiet memory; 2: rows are lent; 3: with the rows that it reaches; 4: rows are lent, the result is of new memory. -/
def doCall (C : Cfg) (call : FuncId → List AV → List Row → Out CRes) (mode : Nat) (f : FuncId) (xs : List AV) (rows : List Row) : Out CRes :=
  match autoMode (C.keep f) xs mode with
  | 0 => call f xs rows
  | 3 => subCall call f xs rows
  | m => lentCall call m f xs rows

/-- The same value? (It may say no.) -/
def Value.eqB : Value → Value → Bool
  | .int k n, .int k' n' => decide (k = k') && decide (n = n')
  | .bool b, .bool b' => b == b'
  | .slice none a b, .slice none a' b' => Nat.beq a a' && Nat.beq b b'
  | .pointer none, .pointer none => true
  | .string s, .string s' => decide (s.data.toList = s'.data.toList)
  | .nilIface, .nilIface => true
  | .nilFunc, .nilFunc => true
  | .map none, .map none => true
  | _, _ => false

def listB {α : Type} (f : α → α → Bool) : List α → List α → Bool
  | [], [] => true
  | x :: l, y :: l' => f x y && listB f l l'
  | _, _ => false

def Seg.eqB (f : AV → AV → Bool) : Seg → Seg → Bool
  | .ints k n l, .ints k' n' l' => decide (k = k') && Nat.beq n n' && decide (l = l')
  | .bools n l, .bools n' l' => Nat.beq n n' && decide (l = l')
  | .avs l, .avs l' => listB f l l'
  | _, _ => false

def AV.eqB : Nat → AV → AV → Bool
  | 0, _, _ => false
  | d + 1, x, y =>
    match x, y with
    | .c v, .c v' => Value.eqB v v'
    | .ptr k o i, .ptr k' o' i' => Nat.beq k k' && Nat.beq o o' && Nat.beq i i'
    | .sl k o l z, .sl k' o' l' z' => Nat.beq k k' && Nat.beq o o' && Nat.beq l l' && Nat.beq z z'
    | .mp k, .mp k' => Nat.beq k k'
    | .fsl n z b, .fsl n' z' b' => Nat.beq n n' && Nat.beq z z' && listB (Seg.eqB (AV.eqB d)) b b'
    | .fptr x o i, .fptr x' o' i' => AV.eqB d x x' && Nat.beq o o' && Nat.beq i i'
    | .agg b, .agg b' => listB (Seg.eqB (AV.eqB d)) b b'
    | .tup l, .tup l' => listB (AV.eqB d) l l'
    | .fz x, .fz x' => AV.eqB d x x'
    | _, _ => false

theorem Value.eqB_eq {x y : Value} (h : Value.eqB x y = true) : x = y := by
  unfold Value.eqB at h
  split at h
  case h_5 =>
    rename_i s s'
    have := of_decide_eq_true h
    congr 1
    cases s; cases s'
    congr 1
    exact Array.ext' this
  all_goals simp_all

theorem listB_eq {α : Type} {f : α → α → Bool} (hf : ∀ x y, f x y = true → x = y) : ∀ {l l' : List α}, listB f l l' = true → l = l'
  | [], [], _ => rfl
  | x :: l, y :: l', h => by
    simp only [listB, Bool.and_eq_true] at h
    rw [hf x y h.1, listB_eq hf h.2]
  | [], _ :: _, h => by simp [listB] at h
  | _ :: _, [], h => by simp [listB] at h

theorem Seg.eqB_eq {f : AV → AV → Bool} (hf : ∀ x y, f x y = true → x = y) {x y : Seg} (h : Seg.eqB f x y = true) : x = y := by
  unfold Seg.eqB at h
  split at h
  · simp only [Bool.and_eq_true, decide_eq_true_eq, Nat.beq_eq] at h; obtain ⟨⟨rfl, rfl⟩, rfl⟩ := h; rfl
  · simp only [Bool.and_eq_true, decide_eq_true_eq, Nat.beq_eq] at h; obtain ⟨rfl, rfl⟩ := h; rfl
  · rw [listB_eq hf h]
  · cases h

theorem AV.eqB_eq : ∀ {d : Nat} {x y : AV}, AV.eqB d x y = true → x = y
  | 0, _, _, h => by simp [AV.eqB] at h
  | d + 1, x, y, h => by
    have ih : ∀ x y, AV.eqB d x y = true → x = y := fun x y h => AV.eqB_eq h
    unfold AV.eqB at h
    split at h
    · rw [Value.eqB_eq h]
    · simp only [Bool.and_eq_true, Nat.beq_eq] at h; obtain ⟨⟨rfl, rfl⟩, rfl⟩ := h; rfl
    · simp only [Bool.and_eq_true, Nat.beq_eq] at h; obtain ⟨⟨⟨rfl, rfl⟩, rfl⟩, rfl⟩ := h; rfl
    · simp only [Nat.beq_eq] at h; rw [h]
    · simp only [Bool.and_eq_true, Nat.beq_eq] at h; obtain ⟨⟨rfl, rfl⟩, h⟩ := h; rw [listB_eq (fun _ _ => Seg.eqB_eq ih) h]
    · simp only [Bool.and_eq_true, Nat.beq_eq] at h; obtain ⟨⟨h, rfl⟩, rfl⟩ := h; rw [ih _ _ h]
    · rw [listB_eq (fun _ _ => Seg.eqB_eq ih) h]
    · rw [listB_eq ih h]
    · rw [ih _ _ h]
    · cases h

inductive Act1 where
  | val (x : AV) (rows : List Row)
  | pan (x : AV) (rows : List Row)
  | dfr (f : FuncId) (caps : List AV)

section
variable (C : Cfg) (call : FuncId → List AV → List Row → Out CRes)

/-- One operation. -/
def actF : AAct → Cfg → (FuncId → List AV → List Row → Out CRes) → AOper → (Opd → AV) → List Row → Out Act1
  | .op a => fun C call o ev rows =>
    match aopF a C.P ev rows with
    | some (x, rows', true) => .ok (.val x rows')
    | _ => .no (.op 0 o (a.opds.map ev))
  | .call f args => fun C call o ev rows =>
    match doCall C call o.mode f (args.map ev) rows with
    | .ok (.ret r rows') => .ok (.val r rows')
    | .ok (.panic r rows') => .ok (.pan r rows')
    | .no w => .no w
  | .callv fx args => fun C call o ev rows =>
    match fnOf (ev fx) with
    | some (f, caps) =>
      if (C.fn f).isSome then
        match doCall C call o.mode f (args.map ev ++ caps) rows with
        | .ok (.ret r rows') => .ok (.val r rows')
        | .ok (.panic r rows') => .ok (.pan r rows')
        | .no w => .no w
      else .no (.nofn f)
    | none => .no (.op 1 o [])
  | .panic x => fun C call o ev rows =>
    match ev x with
    | .ifc t y => .ok (.pan (.ifc t y) rows)
    | _ => .no (.op 2 o [])
  | .defer fx => fun C call o ev rows =>
    match fnOf (ev fx) with
    | some (f, caps) => .ok (.dfr f caps)
    | none => .no (.op 3 o [])
  | .recov => fun C call o ev rows => .no (.op 4 o [])

def act1 (o : AOper) (ev : Opd → AV) (rows : List Row) : Out Act1 :=
  match guardE ev o.guard with
  | some true => actF o.act C call o ev rows
  | some false => .ok (.val (.c undef) rows)
  | none => .no (.op 5 o [])

def putS (ss : List (List AV)) (d : Option Nat) (x : AV) : List (List AV) := match d with | some d => cset ss d x | none => ss

def runOps : List AOper → List (List AV) → List Row → Nat → List (FuncId × List AV) → Out (AEx × RSt)
  | [], s, rows, np, ds => .ok (.normal, ⟨s, rows, np, ds⟩)
  | o :: rest, s, rows, np, ds =>
    match act1 C call o (evC s) rows with
    | .ok (.val x rows') => runOps rest (putS s o.dst x) rows' np ds
    | .ok (.pan x rows') => .ok (.panic x, ⟨s, rows', np, ds⟩)
    | .ok (.dfr f caps) => runOps rest (putS s o.dst (.c undef)) rows np ((f, caps) :: ds)
    | .no w => .no w

/-- The rows that an operation of a region that draws looked at. -/
def AAct.fp (mode : Nat) (ev : Opd → AV) (rows : List Row) (a : AAct) : List Nat :=
  match a with
  | .op a => a.opds.flatMap fun x => topRow (ev x)
  | .call _ args => match mode with
    | 1 => []
    | 3 => reachOf rows (args.map ev)
    | _ => List.range rows.length
  | .callv fx args => match mode with
    | 1 => []
    | 3 => match fnOf (ev fx) with | some (_, caps) => reachOf rows (args.map ev ++ caps) | none => []
    | _ => List.range rows.length
  | _ => List.range rows.length

/-- What a part of a region that draws looked at, where it stood, what it gave. -/
structure Trc where
  fp : List Nat
  n : Nat
  ss : List (List AV)
  rows : List Row
  x : AV

/-- The parts of a region that draws, one behind the other, with what each looked at. -/
def runSeq : List AOper → List (List AV) → List Row → List Trc → Out (List (List AV) × List Row × List Trc)
  | [], s, rows, tr => .ok (s, rows, tr)
  | o :: rest, s, rows, tr =>
    match act1 C call o (evC s) rows with
    | .ok (.val x rows') => runSeq rest (putS s o.dst x) rows' (tr ++ [⟨o.act.fp o.mode (evC s) rows, rows.length, s, rows, x⟩])
    | .ok _ => .no (.draw o)
    | .no w => .no w

/-- Its footprint does not hang on the rows. -/
def AOper.fpFree (o : AOper) : Bool := match o.act with | .op _ => true | _ => o.mode == 1

/-- It gives the same, with other rows. -/
def again (o : AOper) (t : Trc) (r : List Row) : Bool := match act1 C call o (evC t.ss) r with | .ok (.val y _) => AV.eqB 8 y t.x | _ => false

def rowsAt (tr : List Trc) (fin : List Row) (j : Nat) : List Row := match tr[j]? with | some t => t.rows | none => fin

def apartC (tr : List Trc) (fin : List Row) : Nat → List AOper → Bool
  | _, [] => true
  | i, o :: rest => (o.free.all fun j =>
      match tr[i]?, tr[j]? with
      | some ti, some tj => (o.fpFree && ti.fp.all fun k => !tj.fp.contains k && decide (k < tj.n)) || (again C call o ti tj.rows && again C call o ti (rowsAt tr fin (j + 1)))
      | _, _ => false) && apartC tr fin (i + 1) rest

end

/-- By footprints alone. -/
def apartB (tr : List (List Nat × Nat)) : Nat → List AOper → Bool
  | _, [] => true
  | i, o :: rest => (o.free.all fun j =>
      match tr[i]?, tr[j]? with
      | some (fi, _), some (fj, nj) => fi.all fun k => !fj.contains k && decide (k < nj)
      | _, _ => false) && apartB tr (i + 1) rest

/-- What is handed out. -/
def exportRes (keep : Bool) (st : RSt) (r : AV) : Out (AV × List Row) :=
  if st.np = 0 && r.pur 6 then .ok (r, [])
  else if st.np = 0 && !keep then
    match frz 8 st.rows r with
    | some r' => .ok (r', [])
    | none => .no (.res 0 r)
  else
    if st.rows.length ≤ st.np + 8 then .ok (r, st.rows) else
    let ids := reach 100000 st.rows (r.refs 6 ++ (st.rows.take st.np).flatMap Row.refs) (List.range st.np).reverse
    if idsOK st.rows.length ids && headOK st.np ids then .ok (r.ren 6 (posIn ids), subRows st.rows ids) else .no .ids

def firstRecov : ACode → Option (AOper × List AOper × ACode)
  | .seq (.reg false (o :: more)) rest => match o.act, o.guard with | .recov, none => some (o, more, rest) | _, _ => none
  | _ => none

def finish (keep : Bool) (st : RSt) (results : List ARes) : Out CRes :=
  match resEs (evC st.ss) st.rows results with
  | some r => match exportRes keep st r with | .ok (r', rows') => .ok (.ret r' rows') | .no w => .no w
  | none => .no (.res 1 .junk)

/-- Code, by what its parts do. -/
def codeF : ACode → Cfg → (ACode → List (List AV) → List Row → Nat → List (FuncId × List AV) → Out (AEx × RSt)) → (FuncId → List AV → List Row → Out CRes) → List (List AV) → List Row → Nat → List (FuncId × List AV) → Out (AEx × RSt)
  | .skip => fun C rec call s rows np ds => .ok (.normal, ⟨s, rows, np, ds⟩)
  | .reg d l => fun C rec call s rows np ds =>
    match d with
    | false => runOps C call l s rows np ds
    | true =>
      match runSeq C call l s rows [] with
      | .ok (s', rows', tr) => if apartC C call tr rows' 0 l then .ok (.normal, ⟨s', rows', np, ds⟩) else .no (.draw default)
      | .no w => .no w
  | .seq a b => fun C rec call s rows np ds =>
    match rec a s rows np ds with
    | .ok (.normal, ⟨s1, rows1, np1, ds1⟩) => rec b s1 rows1 np1 ds1
    | r => r
  | .cond c a b => fun C rec call s rows np ds =>
    match evC s c with
    | .c (.bool true) => rec a s rows np ds
    | .c (.bool false) => rec b s rows np ds
    | x => .no (.cond x)
  | .block i a => fun C rec call s rows np ds =>
    match rec a s rows np ds with
    | .ok (.exit j, st1) => if j = i then .ok (.normal, st1) else .ok (.exit j, st1)
    | r => r
  | .loop m a => fun C rec call s rows np ds =>
    match rec a s rows np ds with
    | .ok (.normal, ⟨s1, rows1, np1, ds1⟩) => rec (.loop m a) s1 rows1 np1 ds1
    | r => r
  | .exit i => fun C rec call s rows np ds => .ok (.exit i, ⟨s, rows, np, ds⟩)
  | .ret => fun C rec call s rows np ds => .ok (.ret, ⟨s, rows, np, ds⟩)

mutual
def runC (C : Cfg) : Nat → ACode → List (List AV) → List Row → Nat → List (FuncId × List AV) → Out (AEx × RSt)
  | 0, _, _, _, _, _ => .no .fuel
  | n + 1, c, s, rows, np, ds => codeF c C (runC C n) (runCall C n) s rows np ds
def runCall (C : Cfg) : Nat → FuncId → List AV → List Row → Out CRes
  | 0, _, _, _ => .no .fuel
  | n + 1, f, args, rows =>
    match C.prim f args rows with
    | some r => .ok r
    | none =>
      match C.fn f with
      | none => .no (.nofn f)
      | some afn =>
        if args.length ≤ afn.ntmps then
        match runC C n afn.code (chunksOf (args ++ List.replicate (afn.ntmps - args.length) (.c undef))) rows rows.length [] with
        | .ok (e, ⟨s1, rows1, np1, ds1⟩) =>
          match ds1 with
          | [] =>
            match e with
            | .normal | .ret => finish (C.keep f) ⟨s1, rows1, np1, ds1⟩ afn.results
            | .panic x => match exportRes (C.keep f) ⟨s1, rows1, np1, ds1⟩ x with | .ok (x', rows') => .ok (.panic x' rows') | .no w => .no w
            | .exit _ => .no (.res 2 .junk)
          | [(g, caps)] =>
            match C.fn g with
            | some gfn =>
              match firstRecov gfn.code, (match e with | .normal | .ret => some (AV.c .nilIface) | .panic y => some y | .exit _ => none) with
              | some (o, more, rest), some y =>
                match runOps C (runCall C n) more (putS (chunksOf (caps ++ List.replicate (gfn.ntmps - caps.length) (.c undef))) o.dst y) rows1 rows1.length [] with
                | .ok (.normal, ⟨s2, rows2, np2, ds2⟩) =>
                  match runC C n rest s2 rows2 np2 ds2 with
                  | .ok (.normal, st2) | .ok (.ret, st2) => if st2.ds.isEmpty && gfn.results.isEmpty && decide (caps.length ≤ gfn.ntmps) then finish (C.keep f) ⟨s1, st2.rows, np1, []⟩ afn.results else .no (.res 3 .junk)
                  | .ok _ => .no (.res 4 .junk)
                  | .no w => .no w
                | .ok _ => .no (.res 5 .junk)
                | .no w => .no w
              | _, _ => .no (.res 6 .junk)
            | none => .no (.nofn g)
          | _ => .no (.res 7 .junk)
        | .no w => .no (.inF f w)
        else .no (.nofn f)
end

end
end Go.Proofs.Ytfcfdedbbhdioaa.AI
