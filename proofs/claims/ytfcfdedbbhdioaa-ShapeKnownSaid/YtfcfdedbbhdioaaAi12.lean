/- AI 12: what code does, abstractly; that this is so. -/
import Derived.Test.YtfcfdedbbhdioaaAiF
namespace Go.Proofs.Ytfcfdedbbhdioaa.AI
noncomputable section
open Go
set_option linter.unusedVariables false
set_option linter.unusedSimpArgs false

inductive AAct where
  | op (a : AOp)
  | call (f : FuncId) (args : List Opd)
  | callv (f : Opd) (args : List Opd)
  | panic (x : Opd)
  | defer (f : Opd)
  | recov
  deriving Inhabited

structure AOper where
  dst : Option Nat
  guard : Option (Nat × Bool)
  act : AAct
  after : List Nat
  mode : Nat := 0
  free : List Nat := []
  deriving Inhabited

inductive ACode where
  | skip
  | reg (draw : Bool) (ops : List AOper)
  | seq (a b : ACode)
  | cond (c : Opd) (a b : ACode)
  | block (id : Nat) (a : ACode)
  | loop (mask : Option Nat) (a : ACode)
  | exit (id : Nat)
  | ret
  deriving Inhabited

structure St where
  slots : List AV
  rows : List Row
  np : Nat
  defers : List (FuncId × List AV)

def St.put (st : St) (d : Option Nat) (x : AV) : St :=
  match d with
  | some d => { st with slots := lset st.slots d x }
  | none => st

/-- How code leaves. -/
inductive AEx where
  | normal | exit (id : Nat) | ret | panic (x : AV)

/-- How a call ends. -/
inductive CRes where
  | ret (r : AV) (rows : List Row)
  | panic (x : AV) (rows : List Row)

/-- Where an act stands in the model. -/
def calleeOK (P : Program) (f : FuncId) : Prop := ∃ fn, P.funcs[f]? = some fn ∧ (fn.name == "runtime.NumGoroutine") = false ∧ fn.body.isNone = false

def AAct.okAct (P : Program) (o : Oper) : AAct → Prop
  | .op a => a.ok P o
  | .call f args => ∃ args' tys, o.op = .call { callee := .value (.func f), args := args', argTypes := tys } ∧ args = args'.toList.map Opd.of ∧ calleeOK P f
  | .callv f args => ∃ f' args' tys, o.op = .call { callee := .value f', args := args', argTypes := tys } ∧ f = Opd.of f' ∧ args = args'.toList.map Opd.of
  | .panic x => ∃ x', o.op = .panic x' ∧ x = Opd.of x'
  | .defer f => ∃ f' tys, o.op = .defer { callee := .value f', args := #[], argTypes := tys } ∧ f = Opd.of f'
  | .recov => ∃ tys, o.op = .call { callee := .builtin .recover, args := #[], argTypes := tys }

def AOper.okOper (P : Program) (ops : Array Oper) (o : Oper) (ao : AOper) : Prop :=
  o.dst = ao.dst ∧ ao.act.okAct P o ∧
  match o.guard, ao.guard with
  | none, none => True
  | some (j, want), some (t, want') => want = want' ∧ (ops[j]?).bind (·.dst) = some t
  | _, _ => False

def afterOf (o : Oper) : List Nat := (o.after.toList.filter (Region.binds .any)).map (·.on)

/-- l are the operations with the numbers is. -/
def OpsOK (P : Program) (ops : Array Oper) (is : List Nat) (l : List AOper) : Prop :=
  is.length = l.length ∧ ∀ (j i : Nat) (ao : AOper), is[j]? = some i → l[j]? = some ao → ∃ o, ops[i]? = some o ∧ ao.okOper P ops o ∧ ao.after = afterOf o

def CodeOK (P : Program) : Code → ACode → Prop
  | .skip, .skip => True
  | .region _ ops d, .reg d' l => d = d' ∧ OpsOK P ops (List.range ops.size) l
  | .seq a b, .seq x y => CodeOK P a x ∧ CodeOK P b y
  | .cond c a b, .cond c' x y => c' = Opd.of c ∧ CodeOK P a x ∧ CodeOK P b y
  | .block i a, .block i' x => i = i' ∧ CodeOK P a x
  | .loop a, .loop _ x => CodeOK P a x
  | .exit i, .exit i' => i = i'
  | .ret, .ret => True
  | _, _ => False

/-- Does an operation come up? -/
def guardSays (s : List AV) : Option (Nat × Bool) → Option Bool
  | none => some true
  | some (t, want) =>
    match lget s t with
    | .c (.bool b) => some (b == want)
    | .c (.tuple _) => some false
    | _ => none

def DefsOK (w : World) (R : Nat → Prop) (L : Nat → Place) (ds : List (FuncId × List AV)) (ads : List Deferred) : Prop :=
  ads.length = ds.length ∧ ∀ (i : Nat) (d : FuncId × List AV) (ad : Deferred), ds[i]? = some d → ads[i]? = some ad →
    ∃ vs : Array Value, ad = { target := .fn (.func d.1) vs, args := #[] } ∧ vs.size = d.2.length ∧ ∀ (j : Nat) (y : AV) (v : Value), d.2[j]? = some y → vs[j]? = some v → VR w R L y v

/-- A state within a call that began in w0. -/
def Inv (G : List (Nat × Obj)) (w0 : World) (R0 : Nat → Prop) (L0 : Nat → Place) (st : St) (a : Act) (w : World) (xs : List (AV × Value)) : Prop :=
  ∃ R L, SlotsOK w R L st.slots a.tmps ∧ RowsOK w R L st.rows ∧ GlobOK G w R ∧ Step w0 R0 L0 w R L ∧ DefsOK w R L st.defers a.defers ∧ (∀ k, st.np ≤ k → L0 k = .unborn) ∧ ∀ p ∈ xs, VR w R L p.1 p.2

/-- st' says no more than st. -/
def Weaker (G : List (Nat × Obj)) (st st' : St) : Prop := ∀ w0 R0 L0 a w xs, Inv G w0 R0 L0 st a w xs → Inv G w0 R0 L0 st' a w []

/-- How a call ends, in the model. -/
def CallPost (G : List (Nat × Obj)) (w : World) (R : Nat → Prop) (L : Nat → Place) (res : CRes) (e : Ending) (w' : World) : Prop :=
  ∃ R' L', Step w R L w' R' L' ∧ GlobOK G w' R' ∧
    match res with
    | .ret r rows' => ∃ v, e = .returned v ∧ VR w' R' L' r v ∧ RowsOK w' R' L' rows'
    | .panic x rows' => ∃ v, e = .panicked [{ v, recovered := false }] ∧ VR w' R' L' x v ∧ RowsOK w' R' L' rows'

def VRs (w : World) (R : Nat → Prop) (L : Nat → Place) (l : List AV) (vs : Array Value) : Prop :=
  vs.size = l.length ∧ ∀ (j : Nat) (y : AV) (v : Value), l[j]? = some y → vs[j]? = some v → VR w R L y v

/-- What a call does. -/
def CallOK (P : Program) (G : List (Nat × Obj)) (f : FuncId) (args : List AV) (rows : List Row) (res : CRes) : Prop :=
  ∀ (w : World) (R : Nat → Prop) (L : Nat → Place) (vs : Array Value), VRs w R L args vs → RowsOK w R L rows → GlobOK G w R → Calls P f vs w (CallPost G w R L res)

/-- The rows that go into a call. -/
def callOut (args : List AV) (rows : List Row) : List Nat := reach 100000 rows (args.flatMap (AV.refs 6)) []

/-- A function's results. -/
inductive ARes where
  | tm (i : Nat)
  | cell (i : Nat) (agg : Bool) (n : Nat)
  deriving Inhabited

structure AFn where
  ntmps : Nat
  results : List ARes
  code : ACode
  deriving Inhabited

def resOf (st : St) : ARes → Option AV
  | .tm i => some (lget st.slots i)
  | .cell i agg n =>
    match loadAV agg n st.rows (lget st.slots i) with
    | some (x, true) => some x
    | _ => none

def resAV (st : St) (l : List ARes) : Option AV :=
  match l with
  | [r] => resOf st r
  | l => (l.mapM (resOf st)).map .tup

def ARes.ok (P : Program) (r : ResultVar) : ARes → Prop
  | .tm i => r = .tmp i
  | .cell i agg n => ∃ t, r = .cell i t ∧ tyAgg P t = some agg ∧ tySize P t = some n

structure FnOK (P : Program) (f : FuncId) (afn : AFn) : Prop where
  ex : ∃ fn c, P.funcs[f]? = some fn ∧ fn.body = some c ∧ CodeOK P c afn.code ∧ fn.ntmps = afn.ntmps ∧ fn.results.size = afn.results.length ∧
    ∀ (j : Nat) (r : ResultVar) (ar : ARes), fn.results[j]? = some r → afn.results[j]? = some ar → ar.ok P r

def entry (afn : AFn) (args : List AV) (rows : List Row) : St :=
  { slots := args ++ List.replicate (afn.ntmps - args.length) (.c undef), rows, np := rows.length, defers := [] }

inductive Job where
  | ops (l : List AOper) (st : St) (e : AEx) (st' : St)
  | code (c : ACode) (st : St) (e : AEx) (st' : St)
  | call (f : FuncId) (args : List AV) (rows : List Row) (res : CRes)

/-- What is handed out of a call: from the rows at its end. -/
def Exports (G : List (Nat × Obj)) (st : St) (r : AV) (r' : AV) (rows' : List Row) : Prop :=
  ∀ w0 R0 L0 a w v, Inv G w0 R0 L0 st a w [(r, v)] → ∃ R' L', Step w0 R0 L0 w R' L' ∧ GlobOK G w R' ∧ VR w R' L' r' v ∧ RowsOK w R' L' rows'

def fnOf (x : AV) : Option (FuncId × List AV) :=
  match x with
  | .fn f caps => some (f, caps)
  | .c (.func (.func f) p q) => if p.size = 0 ∧ q.size = 0 then some (f, []) else none
  | _ => none

/-- Done operations: with each, what it comes after. -/
def DownS (l : List AOper) (S : Nat → Bool) : Prop := ∀ (i : Nat) (o : AOper), l[i]? = some o → S i = true → ∀ k ∈ o.after, S k = true

inductive Ev (P : Program) (G : List (Nat × Obj)) : Job → Prop
  | nil (st : St) : Ev P G (.ops [] st .normal st)
  | skip (o : AOper) (rest : List AOper) (st st' : St) (e : AEx) (hg : guardSays st.slots o.guard = some false) (h : Ev P G (.ops rest (st.put o.dst (.c undef)) e st')) : Ev P G (.ops (o :: rest) st e st')
  | op (o : AOper) (a : AOp) (rest : List AOper) (st st' : St) (e : AEx) (x : AV) (rows' : List Row) (hg : guardSays st.slots o.guard = some true) (ho : o.act = .op a) (ha : aop P st.slots st.rows a = some (x, rows', true))
      (h : Ev P G (.ops rest ({ st with rows := rows' }.put o.dst x) e st')) : Ev P G (.ops (o :: rest) st e st')
  | call (o : AOper) (f : FuncId) (args : List Opd) (rest : List AOper) (st st' : St) (e : AEx) (ids : List Nat) (r : AV) (rows1 : List Row) (hg : guardSays st.slots o.guard = some true) (ho : o.act = .call f args)
      (hi : idsOK st.rows.length ids = true) (hc : Ev P G (.call f (args.map fun x => (x.ev st.slots).ren 6 (posIn ids)) (subRows st.rows ids) (.ret r rows1)))
      (h : Ev P G (.ops rest ({ st with rows := backRows st.rows ids rows1 }.put o.dst (r.ren 6 (backRen ids st.rows.length))) e st')) : Ev P G (.ops (o :: rest) st e st')
  | callA (o : AOper) (f : FuncId) (args : List Opd) (rest : List AOper) (st st' : St) (e : AEx) (r : AV) (rows1 : List Row) (hg : guardSays st.slots o.guard = some true) (ho : o.act = .call f args)
      (hc : Ev P G (.call f (args.map (Opd.ev st.slots)) st.rows (.ret r rows1))) (h : Ev P G (.ops rest ({ st with rows := rows1 }.put o.dst r) e st')) : Ev P G (.ops (o :: rest) st e st')
  | callAPanic (o : AOper) (f : FuncId) (args : List Opd) (rest : List AOper) (st : St) (x : AV) (rows1 : List Row) (hg : guardSays st.slots o.guard = some true) (ho : o.act = .call f args)
      (hc : Ev P G (.call f (args.map (Opd.ev st.slots)) st.rows (.panic x rows1))) : Ev P G (.ops (o :: rest) st (.panic x) { st with rows := rows1 })
  | callvA (o : AOper) (fx : Opd) (f : FuncId) (caps : List AV) (args : List Opd) (rest : List AOper) (st st' : St) (e : AEx) (r : AV) (rows1 : List Row) (hg : guardSays st.slots o.guard = some true) (ho : o.act = .callv fx args)
      (hf : fnOf (fx.ev st.slots) = some (f, caps)) (hcal : calleeOK P f) (hc : Ev P G (.call f (args.map (Opd.ev st.slots) ++ caps) st.rows (.ret r rows1)))
      (h : Ev P G (.ops rest ({ st with rows := rows1 }.put o.dst r) e st')) : Ev P G (.ops (o :: rest) st e st')
  | callvAPanic (o : AOper) (fx : Opd) (f : FuncId) (caps : List AV) (args : List Opd) (rest : List AOper) (st : St) (x : AV) (rows1 : List Row) (hg : guardSays st.slots o.guard = some true) (ho : o.act = .callv fx args)
      (hf : fnOf (fx.ev st.slots) = some (f, caps)) (hcal : calleeOK P f) (hc : Ev P G (.call f (args.map (Opd.ev st.slots) ++ caps) st.rows (.panic x rows1))) : Ev P G (.ops (o :: rest) st (.panic x) { st with rows := rows1 })
  | callPanic (o : AOper) (f : FuncId) (args : List Opd) (rest : List AOper) (st : St) (ids : List Nat) (x : AV) (rows1 : List Row) (hg : guardSays st.slots o.guard = some true) (ho : o.act = .call f args)
      (hi : idsOK st.rows.length ids = true) (hc : Ev P G (.call f (args.map fun x => (x.ev st.slots).ren 6 (posIn ids)) (subRows st.rows ids) (.panic x rows1))) :
      Ev P G (.ops (o :: rest) st (.panic (x.ren 6 (backRen ids st.rows.length))) { st with rows := backRows st.rows ids rows1 })
  | callv (o : AOper) (fx : Opd) (f : FuncId) (caps : List AV) (args : List Opd) (rest : List AOper) (st st' : St) (e : AEx) (ids : List Nat) (r : AV) (rows1 : List Row) (hg : guardSays st.slots o.guard = some true) (ho : o.act = .callv fx args)
      (hf : fnOf (fx.ev st.slots) = some (f, caps)) (hcal : calleeOK P f) (hi : idsOK st.rows.length ids = true)
      (hc : Ev P G (.call f ((args.map (Opd.ev st.slots) ++ caps).map fun x => x.ren 6 (posIn ids)) (subRows st.rows ids) (.ret r rows1)))
      (h : Ev P G (.ops rest ({ st with rows := backRows st.rows ids rows1 }.put o.dst (r.ren 6 (backRen ids st.rows.length))) e st')) : Ev P G (.ops (o :: rest) st e st')
  | callL (o : AOper) (f : FuncId) (args : List Opd) (args' : List AV) (m : Nat) (rest : List AOper) (st st' : St) (e : AEx) (r r' : AV) (rows1 : List Row) (hg : guardSays st.slots o.guard = some true) (ho : o.act = .call f args)
      (hl : (args.map (Opd.ev st.slots)).mapM (lend (lentOf m) st.rows) = some args') (hc : Ev P G (.call f args' [] (.ret r rows1))) (hp : lentBack m r rows1 = some r')
      (h : Ev P G (.ops rest (st.put o.dst r') e st')) : Ev P G (.ops (o :: rest) st e st')
  | callvL (o : AOper) (fx : Opd) (f : FuncId) (caps : List AV) (args : List Opd) (args' : List AV) (m : Nat) (rest : List AOper) (st st' : St) (e : AEx) (r r' : AV) (rows1 : List Row) (hg : guardSays st.slots o.guard = some true) (ho : o.act = .callv fx args)
      (hf : fnOf (fx.ev st.slots) = some (f, caps)) (hcal : calleeOK P f)
      (hl : (args.map (Opd.ev st.slots) ++ caps).mapM (lend (lentOf m) st.rows) = some args') (hc : Ev P G (.call f args' [] (.ret r rows1))) (hp : lentBack m r rows1 = some r')
      (h : Ev P G (.ops rest (st.put o.dst r') e st')) : Ev P G (.ops (o :: rest) st e st')
  | panic (o : AOper) (x : Opd) (t : TypeId) (y : AV) (rest : List AOper) (st : St) (hg : guardSays st.slots o.guard = some true) (ho : o.act = .panic x) (hx : x.ev st.slots = .ifc t y) : Ev P G (.ops (o :: rest) st (.panic (.ifc t y)) st)
  | defer (o : AOper) (fx : Opd) (f : FuncId) (caps : List AV) (rest : List AOper) (st st' : St) (e : AEx) (hg : guardSays st.slots o.guard = some true) (ho : o.act = .defer fx) (hf : fnOf (fx.ev st.slots) = some (f, caps))
      (h : Ev P G (.ops rest ({ st with defers := (f, caps) :: st.defers }.put o.dst (.c undef)) e st')) : Ev P G (.ops (o :: rest) st e st')
  | weakOps (l : List AOper) (st st1 st' : St) (e : AEx) (hw : Weaker G st st1) (h : Ev P G (.ops l st1 e st')) : Ev P G (.ops l st e st')
  | cskip (st : St) : Ev P G (.code .skip st .normal st)
  | reg (l : List AOper) (st st' : St) (e : AEx) (h : Ev P G (.ops l st e st')) : Ev P G (.code (.reg false l) st e st')
  | drawn (l : List AOper) (st st' : St) (σ : (Nat → Bool) → St) (hm : P.follows .mixedOrders = true) (hdn : ∀ (i : Nat) (o : AOper), l[i]? = some o → ∀ k ∈ o.after, k < i)
      (h0 : σ (fun _ => false) = st) (h1 : ∀ S, (∀ i, i < l.length → S i = true) → σ S = st')
      (h : ∀ (S : Nat → Bool) (i : Nat) (o : AOper), l[i]? = some o → S i = false → (∀ k ∈ o.after, S k = true) → DownS l S → Ev P G (.ops [o] (σ S) .normal (σ fun k => if k = i then true else S k))) :
      Ev P G (.code (.reg true l) st .normal st')
  | seq (x y : ACode) (st st1 st' : St) (e : AEx) (h : Ev P G (.code x st .normal st1)) (h' : Ev P G (.code y st1 e st')) : Ev P G (.code (.seq x y) st e st')
  | seqX (x y : ACode) (st st' : St) (e : AEx) (he : e ≠ .normal) (h : Ev P G (.code x st e st')) : Ev P G (.code (.seq x y) st e st')
  | cond (c : Opd) (x y : ACode) (b : Bool) (st st' : St) (e : AEx) (hc : c.ev st.slots = .c (.bool b)) (h : Ev P G (.code (if b then x else y) st e st')) : Ev P G (.code (.cond c x y) st e st')
  | block (i : Nat) (x : ACode) (st st' : St) (e : AEx) (he : ∀ j, e = .exit j → j ≠ i) (h : Ev P G (.code x st e st')) : Ev P G (.code (.block i x) st e st')
  | blockX (i : Nat) (x : ACode) (st st' : St) (h : Ev P G (.code x st (.exit i) st')) : Ev P G (.code (.block i x) st .normal st')
  | loop (m : Option Nat) (x : ACode) (st st1 st2 st' : St) (e : AEx) (h : Ev P G (.code x st .normal st1)) (hw : Weaker G st1 st2) (h' : Ev P G (.code (.loop m x) st2 e st')) : Ev P G (.code (.loop m x) st e st')
  | loopX (m : Option Nat) (x : ACode) (st st' : St) (e : AEx) (he : e ≠ .normal) (h : Ev P G (.code x st e st')) : Ev P G (.code (.loop m x) st e st')
  | exit (i : Nat) (st : St) : Ev P G (.code (.exit i) st (.exit i) st)
  | cret (st : St) : Ev P G (.code .ret st .ret st)
  | weak (c : ACode) (st st1 st' : St) (e : AEx) (hw : Weaker G st st1) (h : Ev P G (.code c st1 e st')) : Ev P G (.code c st e st')
  | weakEnd (c : ACode) (st st1 st' : St) (h : Ev P G (.code c st .normal st1)) (hw : Weaker G st1 st') : Ev P G (.code c st .normal st')
  | body (f : FuncId) (afn : AFn) (args : List AV) (rows : List Row) (st' : St) (e : AEx) (r r' : AV) (rows' : List Row) (hf : FnOK P f afn) (hn : args.length ≤ afn.ntmps) (h : Ev P G (.code afn.code (entry afn args rows) e st')) (he : e = .normal ∨ e = .ret)
      (hd : st'.defers = []) (hr : resAV st' afn.results = some r) (hx : Exports G st' r r' rows') : Ev P G (.call f args rows (.ret r' rows'))
  | bodyPanic (f : FuncId) (afn : AFn) (args : List AV) (rows : List Row) (st' : St) (x x' : AV) (rows' : List Row) (hf : FnOK P f afn) (hn : args.length ≤ afn.ntmps) (h : Ev P G (.code afn.code (entry afn args rows) (.panic x) st'))
      (hd : st'.defers = []) (hx : Exports G st' x x' rows') : Ev P G (.call f args rows (.panic x' rows'))
  | bodyD (f : FuncId) (afn : AFn) (args : List AV) (rows : List Row) (st1 : St) (e : AEx) (y : AV) (g : FuncId) (caps : List AV) (gfn : AFn) (o : AOper) (more : List AOper) (rest : ACode) (sg st2 : St) (e2 : AEx) (r r' : AV) (rows' : List Row)
      (hf : FnOK P f afn) (hn : args.length ≤ afn.ntmps) (h : Ev P G (.code afn.code (entry afn args rows) e st1)) (he : ((e = .normal ∨ e = .ret) ∧ y = .c .nilIface) ∨ e = .panic y)
      (hd : st1.defers = [(g, caps)]) (hcal : calleeOK P g) (hg : FnOK P g gfn) (hgc : gfn.code = .seq (.reg false (o :: more)) rest) (hgo : o.act = .recov) (hgg : o.guard = none) (hgr : gfn.results = []) (hng : caps.length ≤ gfn.ntmps)
      (h1 : Ev P G (.ops more ((entry gfn caps st1.rows).put o.dst y) .normal sg)) (h2 : Ev P G (.code rest sg e2 st2)) (he2 : e2 = .normal ∨ e2 = .ret) (hd2 : st2.defers = [])
      (hr : resAV { slots := st1.slots, rows := st2.rows, np := st1.np, defers := [] } afn.results = some r) (hx : Exports G { slots := st1.slots, rows := st2.rows, np := st1.np, defers := [] } r r' rows') : Ev P G (.call f args rows (.ret r' rows'))
  | prim (f : FuncId) (args : List AV) (rows : List Row) (res : CRes) (h : CallOK P G f args rows res) : Ev P G (.call f args rows res)

/-- The model's way of leaving. -/
def XOK : AEx → Exit → List (AV × Value) → Prop
  | .normal, .normal, xs => xs = []
  | .exit i, .exit j, xs => i = j ∧ xs = []
  | .ret, .ret, xs => xs = []
  | .panic x, .panic ch, xs => ∃ v, ch = [{ v, recovered := false }] ∧ xs = [(x, v)]
  | _, _, _ => False

def Post (G : List (Nat × Obj)) (w0 : World) (R0 : Nat → Prop) (L0 : Nat → Place) (e : AEx) (st' : St) (e' : Exit) (a' : Act) (w' : World) : Prop := ∃ xs, XOK e e' xs ∧ Inv G w0 R0 L0 st' a' w' xs

def Holds (P : Program) (G : List (Nat × Obj)) : Job → Prop
  | .ops l st e st' => ∀ (ops : Array Oper) (is : List Nat), OpsOK P ops is l → ∀ w0 R0 L0 a w, Inv G w0 R0 L0 st a w [] → wpOps P ops (Post G w0 R0 L0 e st') is a w
  | .code c st e st' => ∀ (code : Code), CodeOK P code c → ∀ w0 R0 L0 a w, Inv G w0 R0 L0 st a w [] → code.wp P (Post G w0 R0 L0 e st') a w
  | .call f args rows res => CallOK P G f args rows res

end
end Go.Proofs.Ytfcfdedbbhdioaa.AI
