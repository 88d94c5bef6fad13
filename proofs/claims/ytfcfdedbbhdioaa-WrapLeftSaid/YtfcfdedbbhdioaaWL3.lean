/- The document's Stays. -/
import Derived.Test.YtfcfdedbbhdioaaWL2
namespace Go.Proofs.Ytfcfdedbbhdioaa.AI
open Go
set_option linter.unusedVariables false
set_option linter.unusedSimpArgs false
set_option maxRecDepth 100000

/-- How far to the right, from i on. -/
def ahead (p : UInt8 → Bool) (l : List UInt8) : Nat → Nat → Nat
  | 0, i => i
  | k + 1, i => if p (l.getD i 0) then ahead p l k (i + 1) else i

/-- How far to the left, down to i. -/
def back (p : UInt8 → Bool) (l : List UInt8) (i : Nat) : Nat → Nat
  | 0 => i
  | k + 1 => if p (l.getD (i + k) 0) then back p l i k else i + k + 1

theorem stays_l0 {L : List Nat} (hL : okSet L) {np : Nat} {rows : List Row} {K : Kon} {x1 x2 x3 x6 x7 x8 x9 x11 x12 x41 x47 : AV} (l : List UInt8) (hl : l.length < 4611686018427387904) : ∀ (k i : Nat) (x26 : AV), i + k = l.length →
    (∀ x26, K (.exit 0) [strA l, x1, x2, x3, setP L, x6, x7, x8, x9, .c (.int .i64 (ahead (fun b => hasN L b.toNat) l k i : Nat)), x11, x12, x26, x41, x47] rows) →
    SV Try.prog [] 60 np [] fStays_V fStays_L0 [strA l, x1, x2, x3, setP L, x6, x7, x8, x9, .c (.int .i64 (i : Nat)), x11, x12, x26, x41, x47] rows K := by
  intro k
  induction k with
  | zero =>
    intro i x26 hi hK
    have hi : i = l.length := by omega
    subst hi
    refine SV_rec (c := fStays_L0) (a := fStays_l0) rfl mixed (by kernel_rfl) (by kernel_rfl) rfl ?_
    simp [-BitVec.toNat_and, -BitVec.ofInt_natCast, -List.getD_eq_getElem?_getD, -BitVec.toNat_or, -BitVec.toNat_xor, wV, wB_some, wDB_some, wCond_bool, wG_bool, wG_tup, vSeq_normal, vSeq_ret, vSeq_exit, vSeq_panic, vBlock_normal, vBlock_ret, vBlock_exit, vBlock_panic, vEnd_normal, vEnd_ret, endOK, evE_cst, hBox, hFbox, hAlloc, hPick, hLoad, hStore, hNil, hBin, hNilEq, hNilEq2, hUn, hConv, hFa, hIaA, hIaS, hExtract, hLen, hMkfn, hMkif, hNilrow, hFld, hIx, hBsl0, hS2b, sIx, sSl, sBin, sLo, sHi, binAV, intBin, intShift, unAV, extractAV, iaA, iaS, oneSeg, andThen, liveP, live, loadAV, storeAV, AV.segs, pickAt, cellAt, subAt, setAt, Seg.at_, Seg.set_, AV.unfz, AV.one, lenAV, faAV, fldAV, ixAV, enumE, look_hit, look_miss, look_nil, strA_pur, pur4_c, pur6_c, pur4_ints, pur6_ints, pur6_fints, pur6_fbools, evE_hit, evE_miss, Value.oneCell', aopF_bsl, aopF_build, segsCell, Seg.cell, List.all_cons, List.all_nil, bslCells, fillAV, cellsOf, segsOf, segsSize, Seg.size, Value.cells, fStays_l0, fStays_R0, fStays_R1, fStays_R2, fStays_R3, fStays_R4, fStays_R5, fStays_R6, fStays_R7, fStays_R8, fStays_R9, fStays_R10, fStays_R11, fStays_R12, fStays_W0, fStays_W1, fStays_W2, fStays_E26, fStays_E41, fStays_E47, fStays_res, strA, u9, S_size]
    exact hK _
  | succ k ih =>
    intro i x26 hi hK
    have hil : i < l.length := by omega
    refine SV_rec (c := fStays_L0) (a := fStays_l0) rfl mixed (by kernel_rfl) (by kernel_rfl) rfl ?_
    simp [-BitVec.toNat_and, -BitVec.ofInt_natCast, -List.getD_eq_getElem?_getD, -BitVec.toNat_or, -BitVec.toNat_xor, wV, wB_some, wDB_some, wCond_bool, wG_bool, wG_tup, vSeq_normal, vSeq_ret, vSeq_exit, vSeq_panic, vBlock_normal, vBlock_ret, vBlock_exit, vBlock_panic, vEnd_normal, vEnd_ret, endOK, evE_cst, hBox, hFbox, hAlloc, hPick, hLoad, hStore, hNil, hBin, hNilEq, hNilEq2, hUn, hConv, hFa, hIaA, hIaS, hExtract, hLen, hMkfn, hMkif, hNilrow, hFld, hIx, hBsl0, hS2b, sIx, sSl, sBin, sLo, sHi, binAV, intBin, intShift, unAV, extractAV, iaA, iaS, oneSeg, andThen, liveP, live, loadAV, storeAV, AV.segs, pickAt, cellAt, subAt, setAt, Seg.at_, Seg.set_, AV.unfz, AV.one, lenAV, faAV, fldAV, ixAV, enumE, look_hit, look_miss, look_nil, strA_pur, pur4_c, pur6_c, pur4_ints, pur6_ints, pur6_fints, pur6_fbools, evE_hit, evE_miss, Value.oneCell', aopF_bsl, aopF_build, segsCell, Seg.cell, List.all_cons, List.all_nil, bslCells, fillAV, cellsOf, segsOf, segsSize, Seg.size, Value.cells, fStays_l0, fStays_R0, fStays_R1, fStays_R2, fStays_R3, fStays_R4, fStays_R5, fStays_R6, fStays_R7, fStays_R8, fStays_R9, fStays_R10, fStays_R11, fStays_R12, fStays_W0, fStays_W1, fStays_W2, fStays_E26, fStays_E41, fStays_E47, fStays_res, strA, u9, S_nil, S_inj, S_size, S_list, setP, setA, hL.take, hil]
    refine wDC_same (fun rows => in_ok L hL (l.getD i 0).toNat (by have := (l.getD i 0).toNat_lt; omega) rows) ?_
    simp [-BitVec.toNat_and, -BitVec.ofInt_natCast, -List.getD_eq_getElem?_getD, -BitVec.toNat_or, -BitVec.toNat_xor, wV, wB_some, wDB_some, wCond_bool, wG_bool, wG_tup, vSeq_normal, vSeq_ret, vSeq_exit, vSeq_panic, vBlock_normal, vBlock_ret, vBlock_exit, vBlock_panic, vEnd_normal, vEnd_ret, endOK, evE_cst, hBox, hFbox, hAlloc, hPick, hLoad, hStore, hNil, hBin, hNilEq, hNilEq2, hUn, hConv, hFa, hIaA, hIaS, hExtract, hLen, hMkfn, hMkif, hNilrow, hFld, hIx, hBsl0, hS2b, sIx, sSl, sBin, sLo, sHi, binAV, intBin, intShift, unAV, extractAV, iaA, iaS, oneSeg, andThen, liveP, live, loadAV, storeAV, AV.segs, pickAt, cellAt, subAt, setAt, Seg.at_, Seg.set_, AV.unfz, AV.one, lenAV, faAV, fldAV, ixAV, enumE, look_hit, look_miss, look_nil, strA_pur, pur4_c, pur6_c, pur4_ints, pur6_ints, pur6_fints, pur6_fbools, evE_hit, evE_miss, Value.oneCell', aopF_bsl, aopF_build, segsCell, Seg.cell, List.all_cons, List.all_nil, bslCells, fillAV, cellsOf, segsOf, segsSize, Seg.size, Value.cells, fStays_l0, fStays_R0, fStays_R1, fStays_R2, fStays_R3, fStays_R4, fStays_R5, fStays_R6, fStays_R7, fStays_R8, fStays_R9, fStays_R10, fStays_R11, fStays_R12, fStays_W0, fStays_W1, fStays_W2, fStays_E26, fStays_E41, fStays_E47, fStays_res, strA, u9, S_nil, S_inj, S_size, S_list, setP, setA, hL.take, hil]
    have e1 := wrap_succ i (by omega)
    rw [e1]
    simp only [ahead] at hK
    refine ⟨fun h => ih _ _ (by omega) ?_, fun h => ?_⟩
    · rwa [if_pos h] at hK
    · rw [if_neg (by simpa using h)] at hK
      exact hK _

theorem stays_l1 {R : List Nat} (hR : okSet R) {np : Nat} {rows : List Row} {K : Kon} {x1 x2 x3 x5 x7 x8 x9 x12 x26 x47 : AV} (l : List UInt8) (hl : l.length < 4611686018427387904) (i : Nat) : ∀ (k : Nat) (x41 : AV), i + k ≤ l.length →
    (∀ x41, K (.exit 2) [strA l, x1, x2, x3, x5, setP R, x7, x8, x9, .c (.int .i64 (i : Nat)), .c (.int .i64 (back (fun b => hasN R b.toNat) l i k : Nat)), x12, x26, x41, x47] rows) →
    SV Try.prog [] 60 np [] fStays_V fStays_L1 [strA l, x1, x2, x3, x5, setP R, x7, x8, x9, .c (.int .i64 (i : Nat)), .c (.int .i64 ((i + k : Nat) : Int)), x12, x26, x41, x47] rows K := by
  intro k
  induction k with
  | zero =>
    intro x41 hi hK
    refine SV_rec (c := fStays_L1) (a := fStays_l1) rfl mixed (by kernel_rfl) (by kernel_rfl) rfl ?_
    simp [-BitVec.toNat_and, -BitVec.ofInt_natCast, -List.getD_eq_getElem?_getD, -BitVec.toNat_or, -BitVec.toNat_xor, wV, wB_some, wDB_some, wCond_bool, wG_bool, wG_tup, vSeq_normal, vSeq_ret, vSeq_exit, vSeq_panic, vBlock_normal, vBlock_ret, vBlock_exit, vBlock_panic, vEnd_normal, vEnd_ret, endOK, evE_cst, hBox, hFbox, hAlloc, hPick, hLoad, hStore, hNil, hBin, hNilEq, hNilEq2, hUn, hConv, hFa, hIaA, hIaS, hExtract, hLen, hMkfn, hMkif, hNilrow, hFld, hIx, hBsl0, hS2b, sIx, sSl, sBin, sLo, sHi, binAV, intBin, intShift, unAV, extractAV, iaA, iaS, oneSeg, andThen, liveP, live, loadAV, storeAV, AV.segs, pickAt, cellAt, subAt, setAt, Seg.at_, Seg.set_, AV.unfz, AV.one, lenAV, faAV, fldAV, ixAV, enumE, look_hit, look_miss, look_nil, strA_pur, pur4_c, pur6_c, pur4_ints, pur6_ints, pur6_fints, pur6_fbools, evE_hit, evE_miss, Value.oneCell', aopF_bsl, aopF_build, segsCell, Seg.cell, List.all_cons, List.all_nil, bslCells, fillAV, cellsOf, segsOf, segsSize, Seg.size, Value.cells, fStays_l1, fStays_R0, fStays_R1, fStays_R2, fStays_R3, fStays_R4, fStays_R5, fStays_R6, fStays_R7, fStays_R8, fStays_R9, fStays_R10, fStays_R11, fStays_R12, fStays_W0, fStays_W1, fStays_W2, fStays_E26, fStays_E41, fStays_E47, fStays_res, strA, u9, S_size]
    exact hK _
  | succ k ih =>
    intro x41 hi hK
    refine SV_rec (c := fStays_L1) (a := fStays_l1) rfl mixed (by kernel_rfl) (by kernel_rfl) rfl ?_
    have e0 : ((i + (k + 1) : Nat) : Int) = ((i + k : Nat) : Int) + 1 := by omega
    have e1 := wrap_nat (i + k) (by omega)
    rw [e0]
    generalize hj : i + k = j at *
    simp [-BitVec.toNat_and, -BitVec.ofInt_natCast, -List.getD_eq_getElem?_getD, -BitVec.toNat_or, -BitVec.toNat_xor, wV, wB_some, wDB_some, wCond_bool, wG_bool, wG_tup, vSeq_normal, vSeq_ret, vSeq_exit, vSeq_panic, vBlock_normal, vBlock_ret, vBlock_exit, vBlock_panic, vEnd_normal, vEnd_ret, endOK, evE_cst, hBox, hFbox, hAlloc, hPick, hLoad, hStore, hNil, hBin, hNilEq, hNilEq2, hUn, hConv, hFa, hIaA, hIaS, hExtract, hLen, hMkfn, hMkif, hNilrow, hFld, hIx, hBsl0, hS2b, sIx, sSl, sBin, sLo, sHi, binAV, intBin, intShift, unAV, extractAV, iaA, iaS, oneSeg, andThen, liveP, live, loadAV, storeAV, AV.segs, pickAt, cellAt, subAt, setAt, Seg.at_, Seg.set_, AV.unfz, AV.one, lenAV, faAV, fldAV, ixAV, enumE, look_hit, look_miss, look_nil, strA_pur, pur4_c, pur6_c, pur4_ints, pur6_ints, pur6_fints, pur6_fbools, evE_hit, evE_miss, Value.oneCell', aopF_bsl, aopF_build, segsCell, Seg.cell, List.all_cons, List.all_nil, bslCells, fillAV, cellsOf, segsOf, segsSize, Seg.size, Value.cells, fStays_l1, fStays_R0, fStays_R1, fStays_R2, fStays_R3, fStays_R4, fStays_R5, fStays_R6, fStays_R7, fStays_R8, fStays_R9, fStays_R10, fStays_R11, fStays_R12, fStays_W0, fStays_W1, fStays_W2, fStays_E26, fStays_E41, fStays_E47, fStays_res, strA, u9, S_nil, S_inj, S_size, S_list, setP, setA, hR.take, e1, show (i : Int) < (j : Int) + 1 by omega]
    refine ⟨by omega, ?_⟩
    refine wDC_same (fun rows => in_ok R hR (l.getD j 0).toNat (by have := (l.getD j 0).toNat_lt; omega) rows) ?_
    simp [-BitVec.toNat_and, -BitVec.ofInt_natCast, -List.getD_eq_getElem?_getD, -BitVec.toNat_or, -BitVec.toNat_xor, wV, wB_some, wDB_some, wCond_bool, wG_bool, wG_tup, vSeq_normal, vSeq_ret, vSeq_exit, vSeq_panic, vBlock_normal, vBlock_ret, vBlock_exit, vBlock_panic, vEnd_normal, vEnd_ret, endOK, evE_cst, hBox, hFbox, hAlloc, hPick, hLoad, hStore, hNil, hBin, hNilEq, hNilEq2, hUn, hConv, hFa, hIaA, hIaS, hExtract, hLen, hMkfn, hMkif, hNilrow, hFld, hIx, hBsl0, hS2b, sIx, sSl, sBin, sLo, sHi, binAV, intBin, intShift, unAV, extractAV, iaA, iaS, oneSeg, andThen, liveP, live, loadAV, storeAV, AV.segs, pickAt, cellAt, subAt, setAt, Seg.at_, Seg.set_, AV.unfz, AV.one, lenAV, faAV, fldAV, ixAV, enumE, look_hit, look_miss, look_nil, strA_pur, pur4_c, pur6_c, pur4_ints, pur6_ints, pur6_fints, pur6_fbools, evE_hit, evE_miss, Value.oneCell', aopF_bsl, aopF_build, segsCell, Seg.cell, List.all_cons, List.all_nil, bslCells, fillAV, cellsOf, segsOf, segsSize, Seg.size, Value.cells, fStays_l1, fStays_R0, fStays_R1, fStays_R2, fStays_R3, fStays_R4, fStays_R5, fStays_R6, fStays_R7, fStays_R8, fStays_R9, fStays_R10, fStays_R11, fStays_R12, fStays_W0, fStays_W1, fStays_W2, fStays_E26, fStays_E41, fStays_E47, fStays_res, strA, u9, S_nil, S_inj, S_size, S_list, setP, setA, hR.take, e1]
    simp only [back, hj] at hK
    refine ⟨fun h => ih _ (by omega) ?_, fun h => ?_⟩
    · rwa [if_pos h] at hK
    · rw [if_neg (by simpa using h)] at hK
      exact hK _

theorem range_set (n k : Nat) (f : Nat → Bool) (v : Bool) : ((List.range n).map f).set k v = (List.range n).map fun x => if x = k then v else f x := by
  apply List.ext_getElem
  · simp
  · intro i h1 h2
    simp only [List.length_set, List.length_map, List.length_range] at h1
    rw [List.getElem_set]
    by_cases hik : k = i
    · subst hik; simp
    · simp [hik, Ne.symm hik]

theorem stays_l2 {D : List Nat} (hD : okSet D) {np : Nat} {K : Kon} {x1 x2 x3 x5 x6 x8 x10 x26 x41 : AV} (l : List UInt8) (hl : l.length < 140737488355328) (j : Nat) (hj : j ≤ l.length) : ∀ (k i : Nat) (x47 : AV) (f : Nat → Bool), i + k = j →
    (∀ x47, K (.exit 4) [strA l, x1, x2, x3, x5, x6, setP D, x8, .sl 0 0 l.length 1, x10, .c (.int .i64 (j : Nat)), .c (.int .i64 (j : Nat)), x26, x41, x47] [.blob 4 [.bools l.length ((List.range l.length).map fun x => if i ≤ x ∧ x < j then !hasN D (l.getD x 0).toNat else f x)]]) →
    SV Try.prog [] 60 np [] fStays_V fStays_L2 [strA l, x1, x2, x3, x5, x6, setP D, x8, .sl 0 0 l.length 1, x10, .c (.int .i64 (j : Nat)), .c (.int .i64 (i : Nat)), x26, x41, x47] [.blob 4 [.bools l.length ((List.range l.length).map f)]] K := by
  intro k
  induction k with
  | zero =>
    intro i x47 f hi hK
    have hi : i = j := by omega
    subst hi
    refine SV_rec (c := fStays_L2) (a := fStays_l2) rfl mixed (by kernel_rfl) (by kernel_rfl) rfl ?_
    simp [-BitVec.toNat_and, -BitVec.ofInt_natCast, -List.getD_eq_getElem?_getD, -BitVec.toNat_or, -BitVec.toNat_xor, wV, wB_some, wDB_some, wCond_bool, wG_bool, wG_tup, vSeq_normal, vSeq_ret, vSeq_exit, vSeq_panic, vBlock_normal, vBlock_ret, vBlock_exit, vBlock_panic, vEnd_normal, vEnd_ret, endOK, evE_cst, hBox, hFbox, hAlloc, hPick, hLoad, hStore, hNil, hBin, hNilEq, hNilEq2, hUn, hConv, hFa, hIaA, hIaS, hExtract, hLen, hMkfn, hMkif, hNilrow, hFld, hIx, hBsl0, hS2b, sIx, sSl, sBin, sLo, sHi, binAV, intBin, intShift, unAV, extractAV, iaA, iaS, oneSeg, andThen, liveP, live, loadAV, storeAV, AV.segs, pickAt, cellAt, subAt, setAt, Seg.at_, Seg.set_, AV.unfz, AV.one, lenAV, faAV, fldAV, ixAV, enumE, look_hit, look_miss, look_nil, strA_pur, pur4_c, pur6_c, pur4_ints, pur6_ints, pur6_fints, pur6_fbools, evE_hit, evE_miss, Value.oneCell', aopF_bsl, aopF_build, segsCell, Seg.cell, List.all_cons, List.all_nil, bslCells, fillAV, cellsOf, segsOf, segsSize, Seg.size, Value.cells, fStays_l2, fStays_R0, fStays_R1, fStays_R2, fStays_R3, fStays_R4, fStays_R5, fStays_R6, fStays_R7, fStays_R8, fStays_R9, fStays_R10, fStays_R11, fStays_R12, fStays_W0, fStays_W1, fStays_W2, fStays_E26, fStays_E41, fStays_E47, fStays_res, strA, u9, S_size]
    have e : (fun x => if i ≤ x ∧ x < i then !hasN D (l.getD x 0).toNat else f x) = f := by
      funext x
      rw [if_neg (by omega)]
    rw [e] at hK
    exact hK _
  | succ k ih =>
    intro i x47 f hi hK
    have hij : i < j := by omega
    have hil : i < l.length := by omega
    refine SV_rec (c := fStays_L2) (a := fStays_l2) rfl mixed (by kernel_rfl) (by kernel_rfl) rfl ?_
    simp [-BitVec.toNat_and, -BitVec.ofInt_natCast, -List.getD_eq_getElem?_getD, -BitVec.toNat_or, -BitVec.toNat_xor, wV, wB_some, wDB_some, wCond_bool, wG_bool, wG_tup, vSeq_normal, vSeq_ret, vSeq_exit, vSeq_panic, vBlock_normal, vBlock_ret, vBlock_exit, vBlock_panic, vEnd_normal, vEnd_ret, endOK, evE_cst, hBox, hFbox, hAlloc, hPick, hLoad, hStore, hNil, hBin, hNilEq, hNilEq2, hUn, hConv, hFa, hIaA, hIaS, hExtract, hLen, hMkfn, hMkif, hNilrow, hFld, hIx, hBsl0, hS2b, sIx, sSl, sBin, sLo, sHi, binAV, intBin, intShift, unAV, extractAV, iaA, iaS, oneSeg, andThen, liveP, live, loadAV, storeAV, AV.segs, pickAt, cellAt, subAt, setAt, Seg.at_, Seg.set_, AV.unfz, AV.one, lenAV, faAV, fldAV, ixAV, enumE, look_hit, look_miss, look_nil, strA_pur, pur4_c, pur6_c, pur4_ints, pur6_ints, pur6_fints, pur6_fbools, evE_hit, evE_miss, Value.oneCell', aopF_bsl, aopF_build, segsCell, Seg.cell, List.all_cons, List.all_nil, bslCells, fillAV, cellsOf, segsOf, segsSize, Seg.size, Value.cells, fStays_l2, fStays_R0, fStays_R1, fStays_R2, fStays_R3, fStays_R4, fStays_R5, fStays_R6, fStays_R7, fStays_R8, fStays_R9, fStays_R10, fStays_R11, fStays_R12, fStays_W0, fStays_W1, fStays_W2, fStays_E26, fStays_E41, fStays_E47, fStays_res, strA, u9, S_nil, S_inj, S_size, S_list, setP, setA, hD.take, hij, hil]
    refine wDC_same (fun rows => in_ok D hD (l.getD i 0).toNat (by have := (l.getD i 0).toNat_lt; omega) rows) ?_
    simp [-BitVec.toNat_and, -BitVec.ofInt_natCast, -List.getD_eq_getElem?_getD, -BitVec.toNat_or, -BitVec.toNat_xor, wV, wB_some, wDB_some, wCond_bool, wG_bool, wG_tup, vSeq_normal, vSeq_ret, vSeq_exit, vSeq_panic, vBlock_normal, vBlock_ret, vBlock_exit, vBlock_panic, vEnd_normal, vEnd_ret, endOK, evE_cst, hBox, hFbox, hAlloc, hPick, hLoad, hStore, hNil, hBin, hNilEq, hNilEq2, hUn, hConv, hFa, hIaA, hIaS, hExtract, hLen, hMkfn, hMkif, hNilrow, hFld, hIx, hBsl0, hS2b, sIx, sSl, sBin, sLo, sHi, binAV, intBin, intShift, unAV, extractAV, iaA, iaS, oneSeg, andThen, liveP, live, loadAV, storeAV, AV.segs, pickAt, cellAt, subAt, setAt, Seg.at_, Seg.set_, AV.unfz, AV.one, lenAV, faAV, fldAV, ixAV, enumE, look_hit, look_miss, look_nil, strA_pur, pur4_c, pur6_c, pur4_ints, pur6_ints, pur6_fints, pur6_fbools, evE_hit, evE_miss, Value.oneCell', aopF_bsl, aopF_build, segsCell, Seg.cell, List.all_cons, List.all_nil, bslCells, fillAV, cellsOf, segsOf, segsSize, Seg.size, Value.cells, fStays_l2, fStays_R0, fStays_R1, fStays_R2, fStays_R3, fStays_R4, fStays_R5, fStays_R6, fStays_R7, fStays_R8, fStays_R9, fStays_R10, fStays_R11, fStays_R12, fStays_W0, fStays_W1, fStays_W2, fStays_E26, fStays_E41, fStays_E47, fStays_res, strA, u9, S_nil, S_inj, S_size, S_list, setP, setA, hD.take, hij, hil]
    have e1 := wrap_succ i (by omega)
    rw [e1, range_set]
    refine ih (i + 1) _ _ (by omega) ?_
    have e : (fun x => if i + 1 ≤ x ∧ x < j then !hasN D (l.getD x 0).toNat else if x = i then !hasN D (l.getD i 0).toNat else f x) = (fun x => if i ≤ x ∧ x < j then !hasN D (l.getD x 0).toNat else f x) := by
      funext x
      by_cases h1 : x = i
      · subst h1
        rw [if_neg (by omega), if_pos rfl, if_pos (by omega)]
      · by_cases h2 : i + 1 ≤ x ∧ x < j
        · rw [if_pos h2, if_pos (by omega)]
        · rw [if_neg h2, if_neg h1, if_neg (by omega)]
    rw [e]
    exact hK

/-- Which places stay. -/
def staysF (L R D : List Nat) (l : List UInt8) (x : Nat) : Bool :=
  let i := ahead (fun b => hasN L b.toNat) l l.length 0
  let j := back (fun b => hasN R b.toNat) l i (l.length - i)
  if i ≤ x ∧ x < j then !hasN D (l.getD x 0).toNat else false

theorem ahead_le (p : UInt8 → Bool) (l : List UInt8) : ∀ (k i : Nat), i ≤ ahead p l k i ∧ ahead p l k i ≤ i + k
  | 0, i => ⟨Nat.le_refl _, Nat.le_refl _⟩
  | k + 1, i => by
    have := ahead_le p l k (i + 1)
    simp only [ahead]
    split <;> omega

theorem back_le (p : UInt8 → Bool) (l : List UInt8) (i : Nat) : ∀ (k : Nat), i ≤ back p l i k ∧ back p l i k ≤ i + k
  | 0 => ⟨Nat.le_refl _, Nat.le_refl _⟩
  | k + 1 => by
    have := back_le p l i k
    simp only [back]
    split <;> omega

/-- Truth values in cells. -/
def segB (bs : List Bool) : List Seg := if bs.length = 0 then [] else [.bools bs.length bs]

theorem frz_bools {rows : List Row} {k n : Nat} {e : TypeId} {bs : List Bool} (h : rows[k]? = some (.blob e [.bools n bs])) (hl : bs.length = n) : frz 8 rows (.sl k 0 n 1) = some (.fsl n 1 (segB bs)) := by
  subst hl
  rw [show frz 8 rows (.sl k 0 bs.length 1) = match rows[k]? with | some (.blob _ b) => (match subAt b 0 0 (bs.length * 1) with | (b', true) => (frzS (frz 7 rows) b').map (.fsl bs.length 1) | _ => none) | _ => none from rfl, h]
  simp only [subAt, segsDrop, segsTake, Seg.size, segB, Nat.mul_one]
  by_cases h0 : bs.length = 0
  · simp [h0, frzS, segsSize, Seg.size, segsTake]
  · simp [h0, frzS, segsSize, Seg.size, segsTake, segsDrop]

theorem segB_pos {bs : List Bool} (h : 0 < bs.length) : segB bs = [.bools bs.length bs] := if_neg (by omega)

theorem stays_ok {L R D : List Nat} (hL : okSet L) (hR : okSet R) (hD : okSet D) (l : List UInt8) (hl : l.length < 16777216) (rows : List Row) : Ev Try.prog [] (.call 38 [strA l, setA L, setA R, setA D] rows (.ret (.fsl l.length 1 (segB ((List.range l.length).map (staysF L R D l)))) rows)) := by
  refine fnV_beside (V := fStays_V) 2 mixed fStays_ok rfl (by kernel_rfl) rfl rfl (fStays_in _ _ _ _) ?_ rows
  simp [-BitVec.toNat_and, -BitVec.ofInt_natCast, -List.getD_eq_getElem?_getD, -BitVec.toNat_or, -BitVec.toNat_xor, wV, wB_some, wDB_some, wCond_bool, wG_bool, wG_tup, vSeq_normal, vSeq_ret, vSeq_exit, vSeq_panic, vBlock_normal, vBlock_ret, vBlock_exit, vBlock_panic, vEnd_normal, vEnd_ret, endOK, evE_cst, hBox, hFbox, hAlloc, hPick, hLoad, hStore, hNil, hBin, hNilEq, hNilEq2, hUn, hConv, hFa, hIaA, hIaS, hExtract, hLen, hMkfn, hMkif, hNilrow, hFld, hIx, hBsl0, hS2b, sIx, sSl, sBin, sLo, sHi, binAV, intBin, intShift, unAV, extractAV, iaA, iaS, oneSeg, andThen, liveP, live, loadAV, storeAV, AV.segs, pickAt, cellAt, subAt, setAt, Seg.at_, Seg.set_, AV.unfz, AV.one, lenAV, faAV, fldAV, ixAV, enumE, look_hit, look_miss, look_nil, strA_pur, pur4_c, pur6_c, pur4_ints, pur6_ints, pur6_fints, pur6_fbools, evE_hit, evE_miss, Value.oneCell', aopF_bsl, aopF_build, segsCell, Seg.cell, List.all_cons, List.all_nil, bslCells, fillAV, cellsOf, segsOf, segsSize, Seg.size, Value.cells, fStays, fStays_R0, fStays_R1, fStays_R2, fStays_R3, fStays_R4, fStays_R5, fStays_R6, fStays_R7, fStays_R8, fStays_R9, fStays_R10, fStays_R11, fStays_R12, fStays_W0, fStays_W1, fStays_W2, fStays_E26, fStays_E41, fStays_E47, fStays_res, setA]
  simp [-BitVec.toNat_and, -BitVec.ofInt_natCast, -List.getD_eq_getElem?_getD, -BitVec.toNat_or, -BitVec.toNat_xor, wV, wB_some, wDB_some, wCond_bool, wG_bool, wG_tup, vSeq_normal, vSeq_ret, vSeq_exit, vSeq_panic, vBlock_normal, vBlock_ret, vBlock_exit, vBlock_panic, vEnd_normal, vEnd_ret, endOK, evE_cst, hBox, hFbox, hAlloc, hPick, hLoad, hStore, hNil, hBin, hNilEq, hNilEq2, hUn, hConv, hFa, hIaA, hIaS, hExtract, hLen, hMkfn, hMkif, hNilrow, hFld, hIx, hBsl0, hS2b, sIx, sSl, sBin, sLo, sHi, binAV, intBin, intShift, unAV, extractAV, iaA, iaS, oneSeg, andThen, liveP, live, loadAV, storeAV, AV.segs, pickAt, cellAt, subAt, setAt, Seg.at_, Seg.set_, AV.unfz, AV.one, lenAV, faAV, fldAV, ixAV, enumE, look_hit, look_miss, look_nil, strA_pur, pur4_c, pur6_c, pur4_ints, pur6_ints, pur6_fints, pur6_fbools, evE_hit, evE_miss, Value.oneCell', aopF_bsl, aopF_build, segsCell, Seg.cell, List.all_cons, List.all_nil, bslCells, fillAV, cellsOf, segsOf, segsSize, Seg.size, Value.cells, strA, S_size, hMake, mkAV]
  refine ⟨by simp [maxLen]; omega, ?_⟩
  refine stays_l0 hL l (by omega) l.length 0 _ (by omega) fun x26 => ?_
  have hi := ahead_le (fun b => hasN L b.toNat) l l.length 0
  have hj := back_le (fun b => hasN R b.toNat) l (ahead (fun b => hasN L b.toNat) l l.length 0) (l.length - ahead (fun b => hasN L b.toNat) l l.length 0)
  unfold staysF
  generalize ahead (fun b => hasN L b.toNat) l l.length 0 = i at *
  simp [-BitVec.toNat_and, -BitVec.ofInt_natCast, -List.getD_eq_getElem?_getD, -BitVec.toNat_or, -BitVec.toNat_xor, wV, wB_some, wDB_some, wCond_bool, wG_bool, wG_tup, vSeq_normal, vSeq_ret, vSeq_exit, vSeq_panic, vBlock_normal, vBlock_ret, vBlock_exit, vBlock_panic, vEnd_normal, vEnd_ret, endOK, evE_cst, hBox, hFbox, hAlloc, hPick, hLoad, hStore, hNil, hBin, hNilEq, hNilEq2, hUn, hConv, hFa, hIaA, hIaS, hExtract, hLen, hMkfn, hMkif, hNilrow, hFld, hIx, hBsl0, hS2b, sIx, sSl, sBin, sLo, sHi, binAV, intBin, intShift, unAV, extractAV, iaA, iaS, oneSeg, andThen, liveP, live, loadAV, storeAV, AV.segs, pickAt, cellAt, subAt, setAt, Seg.at_, Seg.set_, AV.unfz, AV.one, lenAV, faAV, fldAV, ixAV, enumE, look_hit, look_miss, look_nil, strA_pur, pur4_c, pur6_c, pur4_ints, pur6_ints, pur6_fints, pur6_fbools, evE_hit, evE_miss, Value.oneCell', aopF_bsl, aopF_build, segsCell, Seg.cell, List.all_cons, List.all_nil, bslCells, fillAV, cellsOf, segsOf, segsSize, Seg.size, Value.cells, fStays_R0, fStays_R1, fStays_R2, fStays_R3, fStays_R4, fStays_R5, fStays_R6, fStays_R7, fStays_R8, fStays_R9, fStays_R10, fStays_R11, fStays_R12, fStays_W0, fStays_W1, fStays_W2, fStays_E26, fStays_E41, fStays_E47, fStays_res, strA, S_size]
  have e : l.length = i + (l.length - i) := by omega
  have e0 : ((l.length : Nat) : Int) = ((i + (l.length - i) : Nat) : Int) := by omega
  rw [e0]
  refine stays_l1 hR l (by omega) i (l.length - i) _ (by omega) fun x41 => ?_
  generalize back (fun b => hasN R b.toNat) l i (l.length - i) = j at *
  simp [-BitVec.toNat_and, -BitVec.ofInt_natCast, -List.getD_eq_getElem?_getD, -BitVec.toNat_or, -BitVec.toNat_xor, wV, wB_some, wDB_some, wCond_bool, wG_bool, wG_tup, vSeq_normal, vSeq_ret, vSeq_exit, vSeq_panic, vBlock_normal, vBlock_ret, vBlock_exit, vBlock_panic, vEnd_normal, vEnd_ret, endOK, evE_cst, hBox, hFbox, hAlloc, hPick, hLoad, hStore, hNil, hBin, hNilEq, hNilEq2, hUn, hConv, hFa, hIaA, hIaS, hExtract, hLen, hMkfn, hMkif, hNilrow, hFld, hIx, hBsl0, hS2b, sIx, sSl, sBin, sLo, sHi, binAV, intBin, intShift, unAV, extractAV, iaA, iaS, oneSeg, andThen, liveP, live, loadAV, storeAV, AV.segs, pickAt, cellAt, subAt, setAt, Seg.at_, Seg.set_, AV.unfz, AV.one, lenAV, faAV, fldAV, ixAV, enumE, look_hit, look_miss, look_nil, strA_pur, pur4_c, pur6_c, pur4_ints, pur6_ints, pur6_fints, pur6_fbools, evE_hit, evE_miss, Value.oneCell', aopF_bsl, aopF_build, segsCell, Seg.cell, List.all_cons, List.all_nil, bslCells, fillAV, cellsOf, segsOf, segsSize, Seg.size, Value.cells, fStays_R0, fStays_R1, fStays_R2, fStays_R3, fStays_R4, fStays_R5, fStays_R6, fStays_R7, fStays_R8, fStays_R9, fStays_R10, fStays_R11, fStays_R12, fStays_W0, fStays_W1, fStays_W2, fStays_E26, fStays_E41, fStays_E47, fStays_res, strA, S_size]
  have e1 : zsegs [Value.bool false] l.length = [.bools l.length ((List.range l.length).map fun _ => false)] := by
    show [Seg.bools l.length (List.replicate l.length false)] = _
    congr 2
    apply List.ext_getElem <;> simp
  rw [e1]
  refine stays_l2 hD l (by omega) j (by omega) (j - i) i _ _ (by omega) fun x47 => ?_
  simp [-BitVec.toNat_and, -BitVec.ofInt_natCast, -List.getD_eq_getElem?_getD, -BitVec.toNat_or, -BitVec.toNat_xor, wV, wB_some, wDB_some, wCond_bool, wG_bool, wG_tup, vSeq_normal, vSeq_ret, vSeq_exit, vSeq_panic, vBlock_normal, vBlock_ret, vBlock_exit, vBlock_panic, vEnd_normal, vEnd_ret, endOK, evE_cst, hBox, hFbox, hAlloc, hPick, hLoad, hStore, hNil, hBin, hNilEq, hNilEq2, hUn, hConv, hFa, hIaA, hIaS, hExtract, hLen, hMkfn, hMkif, hNilrow, hFld, hIx, hBsl0, hS2b, sIx, sSl, sBin, sLo, sHi, binAV, intBin, intShift, unAV, extractAV, iaA, iaS, oneSeg, andThen, liveP, live, loadAV, storeAV, AV.segs, pickAt, cellAt, subAt, setAt, Seg.at_, Seg.set_, AV.unfz, AV.one, lenAV, faAV, fldAV, ixAV, enumE, look_hit, look_miss, look_nil, strA_pur, pur4_c, pur6_c, pur4_ints, pur6_ints, pur6_fints, pur6_fbools, evE_hit, evE_miss, Value.oneCell', aopF_bsl, aopF_build, segsCell, Seg.cell, List.all_cons, List.all_nil, bslCells, fillAV, cellsOf, segsOf, segsSize, Seg.size, Value.cells, fStays_R0, fStays_R1, fStays_R2, fStays_R3, fStays_R4, fStays_R5, fStays_R6, fStays_R7, fStays_R8, fStays_R9, fStays_R10, fStays_R11, fStays_R12, fStays_W0, fStays_W1, fStays_W2, fStays_E26, fStays_E41, fStays_E47, fStays_res]
  rw [frz_bools (e := 4) (bs := (List.range l.length).map fun x => decide (i ≤ x) && decide (x < j) && !hasN D (l.getD x 0).toNat) rfl (by simp)]

/-- The places that stay. -/
def pickF (f : Nat → Bool) : Nat → List UInt8 → List UInt8
  | _, [] => []
  | k, b :: l => if f k then b :: pickF f (k + 1) l else pickF f (k + 1) l

theorem refLeft_l0 {L R D : List Nat} (f : Nat → Bool) {np : Nat} {rows : List Row} {K : Kon} {x1 x2 x3 x5 x6 x7 x8 : AV} (l : List UInt8) (hl : l.length < 16777216) : ∀ (k i : Nat) (x20 x26 : AV) (acc : List UInt8), i + k = l.length → acc.length ≤ i →
    (∀ x20 x26, K (.exit 0) [strA l, x1, x2, x3, x5, x6, x7, x8, .fsl l.length 1 (segB ((List.range l.length).map f)), strA (acc ++ pickF f i (l.drop i)), .c (.int .i64 (l.length : Nat)), x20, x26] rows) →
    SV Try.prog [] 35 np [] fRefLeft_V fRefLeft_L0 [strA l, x1, x2, x3, x5, x6, x7, x8, .fsl l.length 1 (segB ((List.range l.length).map f)), strA acc, .c (.int .i64 (i : Nat)), x20, x26] rows K := by
  intro k
  induction k with
  | zero =>
    intro i x20 x26 acc hi ha hK
    have hi : i = l.length := by omega
    subst hi
    refine SV_rec (c := fRefLeft_L0) (a := fRefLeft_l0) rfl mixed (by kernel_rfl) (by kernel_rfl) rfl ?_
    simp [-BitVec.toNat_and, -BitVec.ofInt_natCast, -List.getD_eq_getElem?_getD, -BitVec.toNat_or, -BitVec.toNat_xor, wV, wB_some, wDB_some, wCond_bool, wG_bool, wG_tup, vSeq_normal, vSeq_ret, vSeq_exit, vSeq_panic, vBlock_normal, vBlock_ret, vBlock_exit, vBlock_panic, vEnd_normal, vEnd_ret, endOK, evE_cst, hBox, hFbox, hAlloc, hPick, hLoad, hStore, hNil, hBin, hNilEq, hNilEq2, hUn, hConv, hFa, hIaA, hIaS, hExtract, hLen, hMkfn, hMkif, hNilrow, hFld, hIx, hBsl0, hS2b, sIx, sSl, sBin, sLo, sHi, binAV, intBin, intShift, unAV, extractAV, iaA, iaS, oneSeg, andThen, liveP, live, loadAV, storeAV, AV.segs, pickAt, cellAt, subAt, setAt, Seg.at_, Seg.set_, AV.unfz, AV.one, lenAV, faAV, fldAV, ixAV, enumE, look_hit, look_miss, look_nil, strA_pur, pur4_c, pur6_c, pur4_ints, pur6_ints, pur6_fints, pur6_fbools, evE_hit, evE_miss, Value.oneCell', aopF_bsl, aopF_build, segsCell, Seg.cell, List.all_cons, List.all_nil, bslCells, fillAV, cellsOf, segsOf, segsSize, Seg.size, Value.cells, fRefLeft_l0, fRefLeft_R0, fRefLeft_R1, fRefLeft_R2, fRefLeft_R3, fRefLeft_R4, fRefLeft_R5, fRefLeft_R6, fRefLeft_R7, fRefLeft_R8, fRefLeft_W0, fRefLeft_E20, fRefLeft_E26, fRefLeft_res, strA, u9, S_size]
    simp only [List.drop_length, pickF, List.append_nil] at hK
    exact hK _ _
  | succ k ih =>
    intro i x20 x26 acc hi ha hK
    have hil : i < l.length := by omega
    refine SV_rec (c := fRefLeft_L0) (a := fRefLeft_l0) rfl mixed (by kernel_rfl) (by kernel_rfl) rfl ?_
    have e1 := wrap_succ i (by omega)
    have e2 : ((List.range l.length).map f).getD i false = f i := by simp [List.getD, hil]
    have e3 : List.drop i (List.take (i + 1) l) = [l.getD i 0] := by
      rw [List.take_add_one, List.drop_append, List.drop_eq_nil_of_le (by simp [Nat.min_le_left])]
      simp [List.getD, hil, Nat.min_eq_left (Nat.le_of_lt hil)]
    have e4 : l.drop i = l.getD i 0 :: l.drop (i + 1) := by rw [List.drop_eq_getElem_cons hil]; simp [List.getD, hil]
    have e5 : ((i + 1 : Nat) : Int) = (i : Int) + 1 := rfl
    rw [e4, pickF] at hK
    rw [segB_pos (by simp; omega)]
    simp [-BitVec.toNat_and, -BitVec.ofInt_natCast, -List.getD_eq_getElem?_getD, -BitVec.toNat_or, -BitVec.toNat_xor, wV, wB_some, wDB_some, wCond_bool, wG_bool, wG_tup, vSeq_normal, vSeq_ret, vSeq_exit, vSeq_panic, vBlock_normal, vBlock_ret, vBlock_exit, vBlock_panic, vEnd_normal, vEnd_ret, endOK, evE_cst, hBox, hFbox, hAlloc, hPick, hLoad, hStore, hNil, hBin, hNilEq, hNilEq2, hUn, hConv, hFa, hIaA, hIaS, hExtract, hLen, hMkfn, hMkif, hNilrow, hFld, hIx, hBsl0, hS2b, sIx, sSl, sBin, sLo, sHi, binAV, intBin, intShift, unAV, extractAV, iaA, iaS, oneSeg, andThen, liveP, live, loadAV, storeAV, AV.segs, pickAt, cellAt, subAt, setAt, Seg.at_, Seg.set_, AV.unfz, AV.one, lenAV, faAV, fldAV, ixAV, enumE, look_hit, look_miss, look_nil, strA_pur, pur4_c, pur6_c, pur4_ints, pur6_ints, pur6_fints, pur6_fbools, evE_hit, evE_miss, Value.oneCell', aopF_bsl, aopF_build, segsCell, Seg.cell, List.all_cons, List.all_nil, bslCells, fillAV, cellsOf, segsOf, segsSize, Seg.size, Value.cells, fRefLeft_l0, fRefLeft_R0, fRefLeft_R1, fRefLeft_R2, fRefLeft_R3, fRefLeft_R4, fRefLeft_R5, fRefLeft_R6, fRefLeft_R7, fRefLeft_R8, fRefLeft_W0, fRefLeft_E20, fRefLeft_E26, fRefLeft_res, strA, u9, S_nil, S_inj, S_size, S_list, S_append, S_extract, hil, e1, e2, e3]
    have ih1 := fun x20 x26 acc => ih (i + 1) x20 x26 acc (by omega)
    rw [segB_pos (by simp; omega)] at ih1 hK
    simp only [List.length_map, List.length_range, e5, strA] at ih1 hK
    refine ⟨fun h => ⟨by omega, by omega, ih1 _ _ _ (by simp; omega) ?_⟩, fun h => ih1 _ _ _ (by omega) ?_⟩
    · rw [if_pos h] at hK
      simpa using hK
    · rw [if_neg (by simp [h])] at hK
      exact hK

theorem refLeft_ok {L R D : List Nat} (hL : okSet L) (hR : okSet R) (hD : okSet D) (l : List UInt8) (hl : l.length < 16777216) (rows : List Row) : Ev Try.prog [] (.call 27 [strA l, setA L, setA R, setA D] rows (.ret (strA (pickF (staysF L R D l) 0 l)) rows)) := by
  refine fnV_beside (V := fRefLeft_V) 1 mixed fRefLeft_ok rfl (by kernel_rfl) rfl rfl (fRefLeft_in _ _ _ _) ?_ rows
  simp [-BitVec.toNat_and, -BitVec.ofInt_natCast, -List.getD_eq_getElem?_getD, -BitVec.toNat_or, -BitVec.toNat_xor, wV, wB_some, wDB_some, wCond_bool, wG_bool, wG_tup, vSeq_normal, vSeq_ret, vSeq_exit, vSeq_panic, vBlock_normal, vBlock_ret, vBlock_exit, vBlock_panic, vEnd_normal, vEnd_ret, endOK, evE_cst, hBox, hFbox, hAlloc, hPick, hLoad, hStore, hNil, hBin, hNilEq, hNilEq2, hUn, hConv, hFa, hIaA, hIaS, hExtract, hLen, hMkfn, hMkif, hNilrow, hFld, hIx, hBsl0, hS2b, sIx, sSl, sBin, sLo, sHi, binAV, intBin, intShift, unAV, extractAV, iaA, iaS, oneSeg, andThen, liveP, live, loadAV, storeAV, AV.segs, pickAt, cellAt, subAt, setAt, Seg.at_, Seg.set_, AV.unfz, AV.one, lenAV, faAV, fldAV, ixAV, enumE, look_hit, look_miss, look_nil, strA_pur, pur4_c, pur6_c, pur4_ints, pur6_ints, pur6_fints, pur6_fbools, evE_hit, evE_miss, Value.oneCell', aopF_bsl, aopF_build, segsCell, Seg.cell, List.all_cons, List.all_nil, bslCells, fillAV, cellsOf, segsOf, segsSize, Seg.size, Value.cells, fRefLeft, fRefLeft_R0, fRefLeft_R1, fRefLeft_R2, fRefLeft_R3, fRefLeft_R4, fRefLeft_R5, fRefLeft_R6, fRefLeft_R7, fRefLeft_R8, fRefLeft_W0, fRefLeft_E20, fRefLeft_E26, fRefLeft_res, setA, hL.take, hR.take, hD.take]
  refine wCall_ret (stays_ok hL hR hD l hl _) ?_
  refine refLeft_l0 (L := L) (R := R) (D := D) (staysF L R D l) l hl l.length 0 _ _ [] (by omega) (by simp) fun x20 x26 => ?_
  simp [-BitVec.toNat_and, -BitVec.ofInt_natCast, -List.getD_eq_getElem?_getD, -BitVec.toNat_or, -BitVec.toNat_xor, wV, wB_some, wDB_some, wCond_bool, wG_bool, wG_tup, vSeq_normal, vSeq_ret, vSeq_exit, vSeq_panic, vBlock_normal, vBlock_ret, vBlock_exit, vBlock_panic, vEnd_normal, vEnd_ret, endOK, evE_cst, hBox, hFbox, hAlloc, hPick, hLoad, hStore, hNil, hBin, hNilEq, hNilEq2, hUn, hConv, hFa, hIaA, hIaS, hExtract, hLen, hMkfn, hMkif, hNilrow, hFld, hIx, hBsl0, hS2b, sIx, sSl, sBin, sLo, sHi, binAV, intBin, intShift, unAV, extractAV, iaA, iaS, oneSeg, andThen, liveP, live, loadAV, storeAV, AV.segs, pickAt, cellAt, subAt, setAt, Seg.at_, Seg.set_, AV.unfz, AV.one, lenAV, faAV, fldAV, ixAV, enumE, look_hit, look_miss, look_nil, strA_pur, pur4_c, pur6_c, pur4_ints, pur6_ints, pur6_fints, pur6_fbools, evE_hit, evE_miss, Value.oneCell', aopF_bsl, aopF_build, segsCell, Seg.cell, List.all_cons, List.all_nil, bslCells, fillAV, cellsOf, segsOf, segsSize, Seg.size, Value.cells, fRefLeft_R0, fRefLeft_R1, fRefLeft_R2, fRefLeft_R3, fRefLeft_R4, fRefLeft_R5, fRefLeft_R6, fRefLeft_R7, fRefLeft_R8, fRefLeft_W0, fRefLeft_E20, fRefLeft_E26, fRefLeft_res]

/-! ### The plain law -/

theorem pickF_append (f : Nat → Bool) : ∀ (l m : List UInt8) (k : Nat), pickF f k (l ++ m) = pickF f k l ++ pickF f (k + l.length) m
  | [], m, k => by simp [pickF]
  | b :: l, m, k => by
    have := pickF_append f l m (k + 1)
    simp only [List.cons_append, pickF, this, List.length_cons]
    rw [show k + 1 + l.length = k + (l.length + 1) by omega]
    split <;> simp

theorem pickF_none (f : Nat → Bool) : ∀ (l : List UInt8) (k : Nat), (∀ x, k ≤ x → x < k + l.length → f x = false) → pickF f k l = []
  | [], k, _ => rfl
  | b :: l, k, h => by
    rw [pickF, if_neg (by rw [h k (by omega) (by simp)]; simp)]
    exact pickF_none f l (k + 1) fun x h1 h2 => h x (by omega) (by simp; omega)

theorem pickF_filter (f : Nat → Bool) (p : UInt8 → Bool) : ∀ (l : List UInt8) (k : Nat), (∀ x, x < l.length → f (k + x) = p (l.getD x 0)) → pickF f k l = l.filter p
  | [], k, _ => rfl
  | b :: l, k, h => by
    have h0 := h 0 (by simp)
    simp only [Nat.add_zero, List.getD_cons_zero] at h0
    have := pickF_filter f p l (k + 1) fun x hx => by have := h (x + 1) (by simpa using hx); rwa [List.getD_cons_succ, show k + (x + 1) = k + 1 + x by omega] at this
    rw [pickF, this, h0, List.filter_cons]

theorem drop_get {l : List UInt8} {i : Nat} (h : i < l.length) : l.drop i = l.getD i 0 :: l.drop (i + 1) := by
  rw [List.drop_eq_getElem_cons h]; simp [List.getD, h]

theorem ahead_drop (p : UInt8 → Bool) (l : List UInt8) : ∀ (k i : Nat), i + k = l.length → l.drop (ahead p l k i) = (l.drop i).dropWhile p
  | 0, i, h => by
    have : i = l.length := by omega
    subst this
    simp [ahead]
  | k + 1, i, h => by
    rw [ahead, drop_get (i := i) (by omega), List.dropWhile_cons]
    split
    · exact ahead_drop p l k (i + 1) (by omega)
    · exact drop_get (by omega)

theorem back_take (p : UInt8 → Bool) (l : List UInt8) (i : Nat) : ∀ (k : Nat), i + k ≤ l.length → (l.drop i).take (back p l i k - i) = (((l.drop i).take k).reverse.dropWhile p).reverse
  | 0, h => by simp [back]
  | k + 1, h => by
    have e : (l.drop i).take (k + 1) = (l.drop i).take k ++ [l.getD (i + k) 0] := by
      rw [List.take_add_one]
      simp [List.getElem?_drop, List.getD, show i + k < l.length by omega]
    rw [back, e, List.reverse_append, List.reverse_singleton, List.singleton_append, List.dropWhile_cons]
    split
    · exact back_take p l i k (by omega)
    · rw [show i + k + 1 - i = k + 1 by omega, e]
      simp

theorem leftN_eq (L R D : List Nat) (l : List UInt8) : pickF (staysF L R D l) 0 l = leftN L R D l := by
  unfold leftN staysF
  have hi := ahead_le (fun b => hasN L b.toNat) l l.length 0
  have hj := back_le (fun b => hasN R b.toNat) l (ahead (fun b => hasN L b.toNat) l l.length 0) (l.length - ahead (fun b => hasN L b.toNat) l l.length 0)
  have h1 := ahead_drop (fun b => hasN L b.toNat) l l.length 0 (by omega)
  rw [List.drop_zero] at h1
  rw [← h1]
  generalize ahead (fun b => hasN L b.toNat) l l.length 0 = i at *
  have h2 := back_take (fun b => hasN R b.toNat) l i (l.length - i) (by omega)
  rw [List.take_of_length_le (i := l.length - i) (by simp)] at h2
  rw [← h2]
  simp only
  generalize back (fun b => hasN R b.toNat) l i (l.length - i) = j at *
  have e : l = l.take i ++ ((l.drop i).take (j - i) ++ l.drop j) := by
    conv => lhs; rw [← List.take_append_drop i l, ← List.take_append_drop (j - i) (l.drop i), List.drop_drop, show i + (j - i) = j by omega]
  generalize hf : (fun x => (if i ≤ x ∧ x < j then !hasN D (l.getD x 0).toNat else false : Bool)) = f
  have e1 : (l.take i).length = i := by simp; omega
  have e2 : ((l.drop i).take (j - i)).length = j - i := by simp; omega
  have p1 : pickF f 0 (l.take i) = [] := pickF_none f _ 0 fun x h1 h2 => by rw [← hf]; simp only; rw [if_neg (by omega)]
  have p3 : pickF f j (l.drop j) = [] := pickF_none f _ j fun x h1 h2 => by rw [← hf]; simp only; rw [if_neg (by omega)]
  have p2 : pickF f i ((l.drop i).take (j - i)) = ((l.drop i).take (j - i)).filter fun b => !hasN D b.toNat := pickF_filter f _ _ i fun x hx => by
    rw [e2] at hx
    rw [← hf]
    simp only
    rw [if_pos (by omega)]
    simp [List.getD, List.getElem?_take, List.getElem?_drop, hx]
  have e3 : pickF f 0 l = pickF f 0 (l.take i ++ ((l.drop i).take (j - i) ++ l.drop j)) := by rw [← e]
  rw [e3, pickF_append, pickF_append, e1, e2, p1, Nat.zero_add, p2, show i + (j - i) = j by omega, p3]
  simp

end Go.Proofs.Ytfcfdedbbhdioaa.AI
