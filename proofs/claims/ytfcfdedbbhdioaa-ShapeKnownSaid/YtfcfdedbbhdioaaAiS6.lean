/- AI S6: what is proved once of functions of Go's library: slices.Clone. -/
import Derived.Test.YtfcfdedbbhdioaaAiS5
import Derived.Test.YtfcfdedbbhdioaaAi25
namespace Go.Proofs.Ytfcfdedbbhdioaa.AI
noncomputable section
open Go
set_option linter.unusedVariables false
set_option linter.unusedSimpArgs false

/-- What slices.Clone does. -/
def cloneRes (e : TypeId) (sz bytes : Nat) (rows : List Row) : AV → Option CRes
  | .c (.slice none _ _) => some (.ret (.c (.slice none 0 0)) rows)
  | y => match contents rows sz y with
    | some (m, c, true) => if m * bytes ≤ 140737488355328 ∧ m ≤ 9223372036854775807 then some (.ret (.sl (rows.length + 1) 0 m sz) (rows ++ [.dead, .blob e (if m = 0 then [] else c)])) else none
    | _ => none

def clone_V : List Nat := [0, 2, 4]
def clone_r0 : List AOper := [
  ⟨(some 2), none, (.op (.mv (.cst (.slice none 0 0)))), [], 0, []⟩]
def clone_r1 : List AOper := [
  ⟨(some 3), none, (.op (.mv (.tm 0))), [], 0, []⟩,
  ⟨(some 4), none, (.op (.nilEq2 true (.slice none 0 0) (.tm 3))), [0], 0, []⟩]
def clone_r3 (e : TypeId) (sz bytes : Nat) : List AOper := [
  ⟨(some 5), none, (.op (.bsl0 e sz)), [], 0, []⟩,
  ⟨(some 6), none, (.op (.mv (.tm 0))), [], 0, []⟩,
  ⟨(some 7), none, (.op (.app e sz bytes (.tm 5) (.tm 6))), [0, 1], 0, []⟩,
  ⟨(some 2), none, (.op (.mv (.tm 7))), [2, 2, 0, 1, 2], 0, []⟩]
def cloneFn (e : TypeId) (sz bytes : Nat) : AFn := { ntmps := 8, results := [.tm 2], code :=
  (.seq (.reg false clone_r0)
  (.seq (.seq (.reg false clone_r1)
  (.cond (.tm 4)
   (.seq (.reg false clone_r0)
   .ret)
   .skip))
  (.seq (.reg false (clone_r3 e sz bytes))
  .ret))) }

section
variable {P : Program} {G : List (Nat × Obj)}

theorem clone_R0 (x0 x2 x4 : AV) (rows : List Row) (K : Kon) : wReg P G clone_V false clone_r0 [x0, x2, x4] rows K =
   (K .normal [x0, (AV.c (.slice none 0 0)), x4] rows) := rfl
theorem clone_R1 (x0 x2 x4 : AV) (rows : List Row) (K : Kon) : wReg P G clone_V false clone_r1 [x0, x2, x4] rows K =
   (wB (hNilEq2 true (.slice none 0 0) x0 rows) fun t4_0 r0 =>
    K .normal [x0, x2, t4_0] r0) := rfl
theorem clone_R3 (e : TypeId) (sz bytes : Nat) (x0 x2 x4 : AV) (rows : List Row) (K : Kon) : wReg P G clone_V false (clone_r3 e sz bytes) [x0, x2, x4] rows K =
   (wB (hBsl0 e sz rows) fun t5_0 r0 =>
    wB (hApp e sz bytes t5_0 x0 r0) fun t7_1 r1 =>
    K .normal [x0, t7_1, x4] r1) := rfl
theorem clone_E4 (x0 x2 x4 : AV) : evE (clone_V.zip [x0, x2, x4]) (.tm 4) = x4 := rfl
theorem clone_in (a0 : AV) : clone_V.map (look (enumE 0 [a0])) = [a0, AV.junk, AV.junk] := rfl
theorem clone_res (x0 x2 x4 : AV) (rows : List Row) : wRes (clone_V.zip [x0, x2, x4]) rows [.tm 2] = some x2 := rfl

theorem clone_nil {f : FuncId} {e : TypeId} {sz bytes : Nat} (hm : P.follows .mixedOrders = true) (hf : FnOK P f (cloneFn e sz bytes)) (rows : List Row) (n cap : Nat) :
    Ev P G (.call f [.c (.slice none n cap)] rows (.ret (.c (.slice none 0 0)) rows)) := by
  refine fnV_same (V := clone_V) hm hf rfl rfl (clone_in _) ?_
  simp [-BitVec.toNat_and, -BitVec.ofInt_natCast, -List.getD_eq_getElem?_getD, -BitVec.toNat_or, -BitVec.toNat_xor, wV, wB_some, wDB_some, wCond_bool, wG_bool, wG_tup, vSeq_normal, vSeq_ret, vSeq_exit, vSeq_panic, vBlock_normal, vBlock_ret, vBlock_exit, vBlock_panic, vEnd_normal, vEnd_ret, endOK, evE_cst, hBox, hFbox, hAlloc, hPick, hLoad, hStore, hNil, hBin, hNilEq, hNilEq2, hUn, hConv, hFa, hIaA, hIaS, hExtract, hLen, hMkfn, hMkif, hNilrow, hFld, hIx, hBsl0, hS2b, sIx, sSl, sBin, sLo, sHi, binAV, intBin, intShift, unAV, extractAV, iaA, iaS, oneSeg, andThen, liveP, live, loadAV, storeAV, AV.segs, pickAt, cellAt, subAt, setAt, Seg.at_, Seg.set_, AV.unfz, AV.one, lenAV, faAV, fldAV, ixAV, enumE, look_hit, look_miss, look_nil, strA_pur, pur4_c, pur6_c, pur4_ints, pur6_ints, pur6_fints, pur6_fbools, evE_hit, evE_miss, Value.oneCell', aopF_bsl, aopF_build, segsCell, Seg.cell, List.all_cons, List.all_nil, bslCells, fillAV, cellsOf, segsOf, segsSize, Seg.size, Value.cells, cloneFn, clone_R0, clone_R1, clone_R3, clone_E4, clone_res, nilEq2]

theorem contents_old {sz m : Nat} {y : AV} {c : List Seg} {ok : Bool} {rows : List Row} (h : contents rows sz y = some (m, c, ok)) (more : List Row) : contents (rows ++ more) sz y = some (m, c, ok) := by
  unfold contents at h ⊢
  cases y with
  | sl k o n sz' =>
    simp only at h ⊢
    cases hk : rows[k]? with
    | none => rw [hk] at h; cases h
    | some r =>
      have hl : k < rows.length := (List.getElem?_eq_some_iff.1 hk).1
      rw [List.getElem?_append_left hl, hk]
      rw [hk] at h
      exact h
  | c v =>
    cases v with
    | slice a n cap => cases n <;> exact h
    | _ => exact h
  | _ => exact h

theorem clone_run {f : FuncId} {e : TypeId} {sz bytes : Nat} (hm : P.follows .mixedOrders = true) (hf : FnOK P f (cloneFn e sz bytes)) {rows : List Row} {y : AV} {m : Nat} {c : List Seg}
    (hy : nilEq2 rows (.slice none 0 0) y = some false) (hc : contents rows sz y = some (m, c, true)) (hb : m * bytes ≤ 140737488355328) (hl : m ≤ 9223372036854775807) :
    Ev P G (.call f [y] rows (.ret (.sl (rows.length + 1) 0 m sz) (rows ++ [.dead, .blob e c]))) := by
  have hc' := contents_old hc [.blob e []]
  have hx : contents (rows ++ [.blob e []]) sz (.sl rows.length 0 0 sz) = some (0, [], true) := by
    simp [contents, subAt, segsTake, segsDrop]
  have ha : appAV (rows ++ [.blob e []]) e sz bytes (.sl rows.length 0 0 sz) y = some (.sl (rows.length + 1) 0 m sz, rows ++ [.dead, .blob e c], true) := by
    unfold appAV
    rw [hx, hc']
    simp only [segsApp, Nat.zero_add, Bool.true_and, Bool.and_true]
    simp [maxLen, hb, hl]
  obtain ⟨r', rows', h1, h2, h3⟩ := fn_V (Q := fun r' rows' => r' = .sl (rows.length + 1) 0 m sz ∧ rows' = rows ++ [.dead, .blob e c]) (G := G) (V := clone_V) (rows := rows) (args := [y]) 0 hm hf rfl rfl (clone_in _) (by
    simp [-BitVec.toNat_and, -BitVec.ofInt_natCast, -List.getD_eq_getElem?_getD, -BitVec.toNat_or, -BitVec.toNat_xor, wV, wB_some, wDB_some, wCond_bool, wG_bool, wG_tup, vSeq_normal, vSeq_ret, vSeq_exit, vSeq_panic, vBlock_normal, vBlock_ret, vBlock_exit, vBlock_panic, vEnd_normal, vEnd_ret, endOK, evE_cst, hBox, hFbox, hAlloc, hPick, hLoad, hStore, hNil, hBin, hNilEq, hNilEq2, hUn, hConv, hFa, hIaA, hIaS, hExtract, hLen, hMkfn, hMkif, hNilrow, hFld, hIx, hBsl0, hS2b, sIx, sSl, sBin, sLo, sHi, binAV, intBin, intShift, unAV, extractAV, iaA, iaS, oneSeg, andThen, liveP, live, loadAV, storeAV, AV.segs, pickAt, cellAt, subAt, setAt, Seg.at_, Seg.set_, AV.unfz, AV.one, lenAV, faAV, fldAV, ixAV, enumE, look_hit, look_miss, look_nil, strA_pur, pur4_c, pur6_c, pur4_ints, pur6_ints, pur6_fints, pur6_fbools, evE_hit, evE_miss, Value.oneCell', aopF_bsl, aopF_build, segsCell, Seg.cell, List.all_cons, List.all_nil, bslCells, fillAV, cellsOf, segsOf, segsSize, Seg.size, Value.cells, cloneFn, clone_R0, clone_R1, clone_R3, clone_E4, clone_res, hy]
    rw [hApp, ha]
    simp [-BitVec.toNat_and, -BitVec.ofInt_natCast, -List.getD_eq_getElem?_getD, -BitVec.toNat_or, -BitVec.toNat_xor, wV, wB_some, wDB_some, wCond_bool, wG_bool, wG_tup, vSeq_normal, vSeq_ret, vSeq_exit, vSeq_panic, vBlock_normal, vBlock_ret, vBlock_exit, vBlock_panic, vEnd_normal, vEnd_ret, endOK, evE_cst, hBox, hFbox, hAlloc, hPick, hLoad, hStore, hNil, hBin, hNilEq, hNilEq2, hUn, hConv, hFa, hIaA, hIaS, hExtract, hLen, hMkfn, hMkif, hNilrow, hFld, hIx, hBsl0, hS2b, sIx, sSl, sBin, sLo, sHi, binAV, intBin, intShift, unAV, extractAV, iaA, iaS, oneSeg, andThen, liveP, live, loadAV, storeAV, AV.segs, pickAt, cellAt, subAt, setAt, Seg.at_, Seg.set_, AV.unfz, AV.one, lenAV, faAV, fldAV, ixAV, enumE, look_hit, look_miss, look_nil, strA_pur, pur4_c, pur6_c, pur4_ints, pur6_ints, pur6_fints, pur6_fbools, evE_hit, evE_miss, Value.oneCell', aopF_bsl, aopF_build, segsCell, Seg.cell, List.all_cons, List.all_nil, bslCells, fillAV, cellsOf, segsOf, segsSize, Seg.size, Value.cells, clone_R0, clone_R1, clone_R3, clone_E4, clone_res, hy])
  subst h2 h3
  exact h1

/-- A nil result, told as an empty one. -/
theorem post_nil {w w' : World} {R : Nat → Prop} {L : Nat → Place} {rows : List Row} {e : TypeId} {sz : Nat} {x : Ending} (h : CallPost G w R L (.ret (.c (.slice none 0 0)) rows) x w') :
    CallPost G w R L (.ret (.sl (rows.length + 1) 0 0 sz) (rows ++ [.dead, .blob e []])) x w' := by
  obtain ⟨R', L', hs, hg, v, rfl, hv, hr⟩ := h
  have hv : v = .slice none 0 0 := by cases hv with | fr _ _ hf => cases hf; rfl
  subst hv
  obtain ⟨hs1, hr1⟩ := step_nil hr e [] rfl
  obtain ⟨hs2, hr2⟩ := step_use hr1 (k := rows.length) (by simp) .nil (fun b hb => by cases hb) (.inl rfl) (Nat.le_refl _) (w1 := w') (fun _ _ _ => rfl) rfl rfl rfl
  have hr3 := hr2 (.blob e []) rfl
  refine ⟨R', _, (hs.trans hs1).trans hs2, hg, .slice none 0 0, rfl, .slNil _ _ (by simp), ?_⟩
  have e1 : (rows ++ [Row.blob e []]).set rows.length .dead ++ [Row.blob e []] = rows ++ [.dead, .blob e []] := by simp
  rw [e1] at hr3
  exact hr3

theorem vrs_one {w : World} {R : Nat → Prop} {L : Nat → Place} {y : AV} {vs : Array Value} (h : VRs w R L [y] vs) : ∃ v, vs = #[v] ∧ VR w R L y v := by
  obtain ⟨h1, h2⟩ := h
  have h1 : vs.size = 1 := h1
  obtain ⟨v, rfl⟩ : ∃ v, vs = #[v] := by
    rcases vs with ⟨_ | ⟨v, _ | ⟨_, _⟩⟩⟩ <;> simp at h1
    exact ⟨v, rfl⟩
  exact ⟨v, rfl, h2 0 y v rfl rfl⟩

theorem one_vrs {w : World} {R : Nat → Prop} {L : Nat → Place} (v : Value) : VRs w R L [.c v] #[v] := by
  refine ⟨rfl, fun j y u hy hu => ?_⟩
  cases j with
  | zero => cases hy; cases hu; exact .fr _ _ (.c v)
  | succ j => simp at hy

/-- slices.Clone. -/
theorem clone_ok {f : FuncId} {e : TypeId} {sz bytes : Nat} (hm : P.follows .mixedOrders = true) (hf : FnOK P f (cloneFn e sz bytes)) {rows : List Row} {y : AV} {res : CRes} (h : cloneRes e sz bytes rows y = some res) : CallOK P G f [y] rows res := by
  have empty : ∀ (w : World) (R : Nat → Prop) (L : Nat → Place) (a : Option Addr) (cap : Nat), RowsOK w R L rows → GlobOK G w R →
      Calls P f #[.slice a 0 cap] w (CallPost G w R L (.ret (.sl (rows.length + 1) 0 0 sz) (rows ++ [.dead, .blob e []]))) := by
    intro w R L a cap hr hg
    cases a with
    | none => exact (call_holds (clone_nil hm hf rows 0 cap) w R L _ (one_vrs _) hr hg).mono fun x w' hp => post_nil hp
    | some a => exact call_holds (clone_run hm hf (y := .c (.slice (some a) 0 cap)) rfl rfl (by omega) (by omega)) w R L _ (one_vrs _) hr hg
  have gen : ∀ (m : Nat) (c : List Seg), contents rows sz y = some (m, c, true) → (m * bytes ≤ 140737488355328 ∧ m ≤ 9223372036854775807) → (0 < m → nilEq2 rows (.slice none 0 0) y = some false) →
      (m = 0 → ∀ (w : World) (R : Nat → Prop) (L : Nat → Place) (v : Value), RowsOK w R L rows → VR w R L y v → ∃ a cap, v = .slice a 0 cap) →
      CallOK P G f [y] rows (.ret (.sl (rows.length + 1) 0 m sz) (rows ++ [.dead, .blob e (if m = 0 then [] else c)])) := by
    intro m c hc hb hn h0
    by_cases hm0 : m = 0
    · subst hm0
      intro w R L vs hvs hr hg
      obtain ⟨v, rfl, hv⟩ := vrs_one hvs
      obtain ⟨a, cap, rfl⟩ := h0 rfl w R L v hr hv
      exact empty w R L a cap hr hg
    · rw [if_neg hm0]
      exact call_holds (clone_run hm hf (hn (by omega)) hc hb.1 hb.2)
  cases y with
  | c v =>
    cases v with
    | slice a n cap =>
      cases a with
      | none =>
        injection h with h
        subst h
        exact call_holds (clone_nil hm hf rows n cap)
      | some a =>
        cases n with
        | zero =>
          simp only [cloneRes, contents] at h
          split at h
          · injection h with h
            subst h
            exact gen 0 [] rfl (by omega) (fun h => by omega) fun _ w R L v hr hv => by
              cases hv with
              | fr _ _ hf => cases hf; exact ⟨_, _, rfl⟩
          · cases h
        | succ n => simp [cloneRes, contents] at h
    | _ => simp [cloneRes, contents] at h
  | sl k o n sz' =>
    simp only [cloneRes] at h
    cases hc : contents rows sz (.sl k o n sz') with
    | none => rw [hc] at h; cases h
    | some x =>
      obtain ⟨m, c, ok⟩ := x
      rw [hc] at h
      cases ok with
      | false => cases h
      | true =>
        simp only at h
        split at h
        · rename_i hb
          injection h with h
          subst h
          have hrow : ∃ t b, rows[k]? = some (.blob t b) ∧ n = m := by
            simp only [contents] at hc
            split at hc
            · rename_i t b hk
              simp only [Option.some.injEq, Prod.mk.injEq] at hc
              exact ⟨t, b, hk, hc.1⟩
            · cases hc
          obtain ⟨t, b, hk, rfl⟩ := hrow
          refine gen n c hc hb (fun h => by simp [nilEq2, live, hk, h]) fun h0 w R L v hr hv => ?_
          subst h0
          have hh := hr.row k _ hk
          cases hv with
          | fr _ _ hf => cases hf
          | slGone _ _ _ _ a n cap hL => rw [hL] at hh; exact absurd hh id
          | slNil => exact ⟨_, _, rfl⟩
          | sl => exact ⟨_, _, rfl⟩
        · cases h
  | fsl n sz' b =>
    simp only [cloneRes, contents] at h
    split at h
    · rename_i m c hc
      simp only [Option.some.injEq, Prod.mk.injEq] at hc
      obtain ⟨rfl, rfl, hc⟩ := hc
      split at h
      · rename_i hb
        injection h with h
        subst h
        refine gen n b (by simp only [contents, hc]) hb (fun h => by simp [nilEq2, h]) fun h0 w R L v hr hv => ?_
        subst h0
        cases hv with
        | fr _ _ hf =>
          cases hf with
          | fsl => exact ⟨_, _, rfl⟩
          | fslNil => exact ⟨_, _, rfl⟩
      · cases h
    · cases h
  | _ => simp [cloneRes, contents] at h

end

end
end Go.Proofs.Ytfcfdedbbhdioaa.AI
