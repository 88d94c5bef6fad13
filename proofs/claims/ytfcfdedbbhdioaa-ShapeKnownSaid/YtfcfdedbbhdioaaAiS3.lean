/- AI S3: how simp goes through code: step by step, not into what comes behind. -/
import Derived.Test.YtfcfdedbbhdioaaAiS2
namespace Go.Proofs.Ytfcfdedbbhdioaa.AI
noncomputable section
open Go
set_option linter.unusedVariables false
set_option linter.unusedSimpArgs false

section
variable {P : Program} {G : List (Nat × Obj)} {n np : Nat} {ds : List (FuncId × List AV)}

@[congr] theorem wB_congr {r r' : Option (AV × List Row × Bool)} {k : AV → List Row → Prop} (h : r = r') : wB r k = wB r' k := by rw [h]
@[congr] theorem wDB_congr {fp fp' : List Nat} {r r' : Option (AV × List Row × Bool)} {k : AV → List Row → List Nat → Prop} (hf : fp = fp') (h : r = r') : wDB fp r k = wDB fp' r' k := by rw [hf, h]
@[congr] theorem wCall_congr {f : FuncId} {xs xs' : List AV} {rows rows' : List Row} {k : AV → List Row → Prop} {kp : AEx → List Row → Prop} (h : xs = xs') (hr : rows = rows') : wCall P G f xs rows k kp = wCall P G f xs' rows' k kp := by rw [h, hr]
@[congr] theorem wCallv_congr {fx fx' : AV} {xs xs' : List AV} {rows rows' : List Row} {k : AV → List Row → Prop} (hf : fx = fx') (h : xs = xs') (hr : rows = rows') : wCallv P G fx xs rows k = wCallv P G fx' xs' rows' k := by rw [hf, h, hr]
@[congr] theorem wDC_congr {l l' : Bool} {f : FuncId} {xs xs' : List AV} {rows rows' : List Row} {k : AV → List Row → List Nat → Prop} (hl : l = l') (h : xs = xs') (hr : rows = rows') : wDC P G l f xs rows k = wDC P G l' f xs' rows' k := by rw [hl, h, hr]
@[congr] theorem wDV_congr {l l' : Bool} {fx fx' : AV} {xs xs' : List AV} {rows rows' : List Row} {k : AV → List Row → List Nat → Prop} (hl : l = l') (hf : fx = fx') (h : xs = xs') (hr : rows = rows') : wDV P G l fx xs rows k = wDV P G l' fx' xs' rows' k := by rw [hl, hf, h, hr]
@[congr] theorem wCond_congr {x x' : AV} {a b : Prop} (h : x = x') : wCond x a b = wCond x' a b := by rw [h]
@[congr] theorem wG_congr {x x' : AV} {w : Bool} {a b : Prop} (h : x = x') : wG x w a b = wG x' w a b := by rw [h]
@[congr] theorem wO_congr {l : List AOper} {e e' : Env} {rows rows' : List Row} {K : Kont} (h : e = e') (hr : rows = rows') : wO P G l e rows K = wO P G l e' rows' K := by rw [h, hr]
@[congr] theorem wD_congr {l : List AOper} {e e' : Env} {rows rows' : List Row} {tr tr' : List (List Nat × Nat)} {K : Env → List Row → List (List Nat × Nat) → Prop} (h : e = e') (hr : rows = rows') (ht : tr = tr') : wD P G l e rows tr K = wD P G l e' rows' tr' K := by rw [h, hr, ht]
@[congr] theorem wDN_congr {l : List AOper} {e e' : Env} {rows rows' : List Row} {K : Env → List Row → Prop} (h : e = e') (hr : rows = rows') : wDN P G l e rows K = wDN P G l e' rows' K := by rw [h, hr]
@[congr] theorem wC_congr {c : ACode} {e e' : Env} {rows rows' : List Row} {K : Kont} (h : e = e') (hr : rows = rows') : wC P G n np ds c e rows K = wC P G n np ds c e' rows' K := by rw [h, hr]
@[congr] theorem SC_congr {c : ACode} {e e' : Env} {rows rows' : List Row} {K : Kont} (h : e = e') (hr : rows = rows') : SC P G n np ds c e rows K = SC P G n np ds c e' rows' K := by rw [h, hr]
@[congr] theorem wSeq_congr {k : Env → List Row → Prop} {K : Kont} {ex ex' : AEx} {e e' : Env} {rows rows' : List Row} (hx : ex = ex') (h : e = e') (hr : rows = rows') : wSeq k K ex e rows = wSeq k K ex' e' rows' := by rw [hx, h, hr]
@[congr] theorem wBlock_congr {i : Nat} {K : Kont} {ex ex' : AEx} {e e' : Env} {rows rows' : List Row} (hx : ex = ex') (h : e = e') (hr : rows = rows') : wBlock i K ex e rows = wBlock i K ex' e' rows' := by rw [hx, h, hr]
@[congr] theorem wEnd_congr {how : Nat} {l : List ARes} {Q : AV → List Row → Prop} {ex ex' : AEx} {e e' : Env} {rows rows' : List Row} (hx : ex = ex') (h : e = e') (hr : rows = rows') : wEnd np how l Q ex e rows = wEnd np how l Q ex' e' rows' := by rw [hx, h, hr]

theorem look_hit (i : Nat) (x : AV) (e : Env) : look ((i, x) :: e) i = x := by simp [look]
theorem look_miss {j i : Nat} (h : ¬ j = i) (x : AV) (e : Env) : look ((j, x) :: e) i = look e i := by simp [look, h]
theorem look_nil (i : Nat) : look [] i = .junk := rfl
theorem upd_some (e : Env) (d : Nat) (x : AV) : upd e (some d) x = (d, x) :: e := rfl
theorem upd_none (e : Env) (x : AV) : upd e none x = e := rfl
theorem evE_tm (e : Env) (i : Nat) : evE e (.tm i) = look e i := rfl
theorem evE_cst (e : Env) (v : Value) : evE e (.cst v) = .c v := rfl

theorem wB_some (x : AV) (rows : List Row) (b : Bool) (k : AV → List Row → Prop) : wB (some (x, rows, b)) k = (b = true ∧ k x rows) := rfl
theorem wB_map {α : Type} (f : α → AV × List Row × Bool) (y : α) (k : AV → List Row → Prop) : wB (Option.map f (some y)) k = wB (some (f y)) k := rfl
theorem wDB_some (fp : List Nat) (x : AV) (rows : List Row) (b : Bool) (k : AV → List Row → List Nat → Prop) : wDB fp (some (x, rows, b)) k = (b = true ∧ k x rows fp) := rfl
theorem wCond_bool (v : Bool) (a b : Prop) : wCond (.c (.bool v)) a b = ((v = true → a) ∧ (v = false → b)) := rfl
theorem wG_bool (v w : Bool) (a b : Prop) : wG (.c (.bool v)) w a b = (((v == w) = true → a) ∧ ((v == w) = false → b)) := rfl
theorem wG_tup (vs : Array Value) (w : Bool) (a b : Prop) : wG (.c (.tuple vs)) w a b = b := rfl
theorem wSeq_normal (k : Env → List Row → Prop) (K : Kont) (e : Env) (rows : List Row) : wSeq k K .normal e rows = k e rows := rfl
theorem wSeq_ret (k : Env → List Row → Prop) (K : Kont) (e : Env) (rows : List Row) : wSeq k K .ret e rows = K .ret e rows := rfl
theorem wSeq_exit (k : Env → List Row → Prop) (K : Kont) (i : Nat) (e : Env) (rows : List Row) : wSeq k K (.exit i) e rows = K (.exit i) e rows := rfl
theorem wSeq_panic (k : Env → List Row → Prop) (K : Kont) (x : AV) (e : Env) (rows : List Row) : wSeq k K (.panic x) e rows = K (.panic x) e rows := rfl
theorem wBlock_normal (i : Nat) (K : Kont) (e : Env) (rows : List Row) : wBlock i K .normal e rows = K .normal e rows := rfl
theorem wBlock_ret (i : Nat) (K : Kont) (e : Env) (rows : List Row) : wBlock i K .ret e rows = K .ret e rows := rfl
theorem wBlock_exit (i j : Nat) (K : Kont) (e : Env) (rows : List Row) : wBlock i K (.exit j) e rows = if j = i then K .normal e rows else K (.exit j) e rows := rfl
theorem wBlock_panic (i : Nat) (K : Kont) (x : AV) (e : Env) (rows : List Row) : wBlock i K (.panic x) e rows = K (.panic x) e rows := rfl
theorem wEnd_normal (how : Nat) (l : List ARes) (Q : AV → List Row → Prop) (e : Env) (rows : List Row) : wEnd np how l Q .normal e rows = ∃ r r' rows', wRes e rows l = some r ∧ endOK how np r rows r' rows' ∧ Q r' rows' := by simp [wEnd, isEnd]
theorem wEnd_ret (how : Nat) (l : List ARes) (Q : AV → List Row → Prop) (e : Env) (rows : List Row) : wEnd np how l Q .ret e rows = ∃ r r' rows', wRes e rows l = some r ∧ endOK how np r rows r' rows' ∧ Q r' rows' := by simp [wEnd, isEnd]

/-- A loop by its name. -/
theorem SC_rec {c a : ACode} (hc : c = .loop none a) (hm : P.follows .mixedOrders = true) (hg : goodC n a = true) {e : Env} {rows : List Row} {K : Kont} (h : wC P G n np ds a e rows (wSeq (fun e' rows' => SC P G n np ds c e' rows' K) K)) : SC P G n np ds c e rows K := by
  subst hc
  exact SC_loop (wC_sound hm hg h)

/-- A call by what is known of it. -/
theorem wCall_ret {f : FuncId} {xs : List AV} {rows : List Row} {k : AV → List Row → Prop} {kp : AEx → List Row → Prop} {r : AV} {rows1 : List Row} (h : Ev P G (.call f xs rows (.ret r rows1))) (hk : k r rows1) : wCall P G f xs rows k kp := .inl ⟨r, rows1, h, hk⟩
theorem wCall_pan {f : FuncId} {xs : List AV} {rows : List Row} {k : AV → List Row → Prop} {kp : AEx → List Row → Prop} {x : AV} {rows1 : List Row} (h : Ev P G (.call f xs rows (.panic x rows1))) (hk : kp (.panic x) rows1) : wCall P G f xs rows k kp := .inr ⟨x, rows1, h, hk⟩
/-- Within a region that draws: a call that leaves the rows; `all`: with whatever rows. -/
theorem wDC_same {l : Bool} {f : FuncId} {xs : List AV} {rows : List Row} {k : AV → List Row → List Nat → Prop} {r : AV} (h : ∀ rows, Ev P G (.call f xs rows (.ret r rows))) (hk : k r rows []) : wDC P G l f xs rows k := by
  cases l
  · exact ⟨r, h, hk⟩
  · exact ⟨r, rows, [], h rows, fun _ _ _ => rfl, hk⟩
theorem wDC_loud {f : FuncId} {xs : List AV} {rows : List Row} {k : AV → List Row → List Nat → Prop} {r : AV} {rows1 : List Row} (fp : List Nat) (h : Ev P G (.call f xs rows (.ret r rows1))) (hf : ∀ k, k < rows.length → k ∉ fp → rows1[k]? = rows[k]?) (hk : k r rows1 fp) : wDC P G true f xs rows k := ⟨r, rows1, fp, h, hf, hk⟩

/-- A function whose result is told: with all rows. -/
theorem fn_same {f : FuncId} {afn : AFn} {args : List AV} {rows : List Row} {r : AV} (hm : P.follows .mixedOrders = true) (hf : FnOK P f afn) (hlen : Nat.ble args.length afn.ntmps = true) (hgood : goodF afn = true)
    (h : wC P G afn.ntmps rows.length [] afn.code (enumE 0 args) rows (wEnd rows.length 0 afn.results fun r' rows' => r' = r ∧ rows' = rows)) : Ev P G (.call f args rows (.ret r rows)) := by
  obtain ⟨r', rows', h1, rfl, rfl⟩ := fn_call 0 hm hf hlen hgood h
  exact h1

/-- A function of quiet memory, beside whatever rows; how: 1: its result is of quiet memory; 2: frozen. -/
theorem fn_beside {f : FuncId} {afn : AFn} {args : List AV} {r : AV} (how : Nat) (hh : how = 1 ∨ how = 2) (hm : P.follows .mixedOrders = true) (hf : FnOK P f afn) (hlen : Nat.ble args.length afn.ntmps = true) (hgood : goodF afn = true)
    (ha : args.all (AV.pur 6) = true) (hp : r.pur 6 = true)
    (h : wC P G afn.ntmps 0 [] afn.code (enumE 0 args) [] (wEnd 0 how afn.results fun r' rows' => r' = r)) (rows : List Row) : Ev P G (.call f args rows (.ret r rows)) := by
  simp only [goodF, Bool.and_eq_true] at hgood
  obtain ⟨ex, e, rows1, h1, h2, r0, r', rows', h3, h4, rfl⟩ := wC_sound hm hgood.1 h
  have hrows : rows' = [] := by
    rcases hh with rfl | rfl
    · exact h4.2.2.2
    · exact h4.2.2
  subst hrows
  have hend : ex = .normal ∨ ex = .ret := by cases ex <;> simp_all [isEnd]
  have hcall : Ev P G (.call f args [] (.ret r' [])) := .body f afn args [] _ ex r0 r' [] hf (Nat.ble_eq.mp hlen) (.weak _ _ _ _ _ (weaker_entry (Nat.ble_eq.mp hlen)) h1) hend rfl (by rw [wRes_dense hgood.2]; exact h3) (endOK_spec h4)
  exact .prim f args rows _ (call_beside (call_holds hcall) ha hp rows)

end
end
end Go.Proofs.Ytfcfdedbbhdioaa.AI
