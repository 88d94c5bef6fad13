/- wrap.Left: what it gives. -/
import Derived.Test.YtfcfdedbbhdioaaWL1
namespace Go.Proofs.Ytfcfdedbbhdioaa.AI
open Go
set_option linter.unusedVariables false
set_option linter.unusedSimpArgs false
set_option maxRecDepth 100000

theorem u9 : Try.prog.underlying 9 = some .string := by kernel_rfl

def setP (s : List Nat) : AV := .fptr (setA s) 0 0


theorem left_l0 {L : List Nat} (hL : okSet L) {np : Nat} {rows : List Row} {K : Kon} {x1 x2 x3 x6 x7 x8 x9 x10 x31 x38 x39 x40 x47 : AV} : ∀ (l : List UInt8) (x18 : AV),
    (∀ x18, K (.exit 0) [strA (l.dropWhile fun b => hasN L b.toNat), x1, x2, x3, setP L, x6, x7, x8, x9, x10, x18, x31, x38, x39, x40, x47] rows) →
    SV Try.prog [] 57 np [] fLeft_V fLeft_L0 [strA l, x1, x2, x3, setP L, x6, x7, x8, x9, x10, x18, x31, x38, x39, x40, x47] rows K := by
  intro l
  induction l with
  | nil =>
    intro x18 hK
    refine SV_rec (c := fLeft_L0) (a := fLeft_l0) rfl mixed (by kernel_rfl) (by kernel_rfl) rfl ?_
    simp [-BitVec.toNat_and, -BitVec.ofInt_natCast, -List.getD_eq_getElem?_getD, -BitVec.toNat_or, -BitVec.toNat_xor, wV, wB_some, wDB_some, wCond_bool, wG_bool, wG_tup, vSeq_normal, vSeq_ret, vSeq_exit, vSeq_panic, vBlock_normal, vBlock_ret, vBlock_exit, vBlock_panic, vEnd_normal, vEnd_ret, endOK, evE_cst, hBox, hFbox, hAlloc, hPick, hLoad, hStore, hNil, hBin, hNilEq, hNilEq2, hUn, hConv, hFa, hIaA, hIaS, hExtract, hLen, hApp, hMkfn, hMkif, hNilrow, hSlc, hFld, hIx, hBsl0, hB2s, hS2b, hClr, sIx, sSl, sBin, sLo, sHi, binAV, intBin, intShift, unAV, extractAV, iaA, iaS, oneSeg, andThen, liveP, live, loadAV, storeAV, AV.segs, AV.pur, pickAt, cellAt, subAt, setAt, Seg.at_, Seg.set_, AV.unfz, AV.one, lenAV, contents, appAV, segsApp, b2sAV, faAV, fldAV, ixAV, enumE, look_hit, look_miss, look_nil, fLeft_l0, fLeft_R0, fLeft_R1, fLeft_R2, fLeft_R3, fLeft_R4, fLeft_R5, fLeft_R6, fLeft_R7, fLeft_R8, fLeft_R9, fLeft_R10, fLeft_R11, fLeft_R12, fLeft_W0, fLeft_W1, fLeft_W2, fLeft_E18, fLeft_E31, fLeft_E40, fLeft_E47, fLeft_res, strA, u9, S_nil, S_inj]
    exact hK _
  | cons b l ih =>
    intro x18 hK
    refine SV_rec (c := fLeft_L0) (a := fLeft_l0) rfl mixed (by kernel_rfl) (by kernel_rfl) rfl ?_
    simp [-BitVec.toNat_and, -BitVec.ofInt_natCast, -List.getD_eq_getElem?_getD, -BitVec.toNat_or, -BitVec.toNat_xor, wV, wB_some, wDB_some, wCond_bool, wG_bool, wG_tup, vSeq_normal, vSeq_ret, vSeq_exit, vSeq_panic, vBlock_normal, vBlock_ret, vBlock_exit, vBlock_panic, vEnd_normal, vEnd_ret, endOK, evE_cst, hBox, hFbox, hAlloc, hPick, hLoad, hStore, hNil, hBin, hNilEq, hNilEq2, hUn, hConv, hFa, hIaA, hIaS, hExtract, hLen, hApp, hMkfn, hMkif, hNilrow, hSlc, hFld, hIx, hBsl0, hB2s, hS2b, hClr, sIx, sSl, sBin, sLo, sHi, binAV, intBin, intShift, unAV, extractAV, iaA, iaS, oneSeg, andThen, liveP, live, loadAV, storeAV, AV.segs, AV.pur, pickAt, cellAt, subAt, setAt, Seg.at_, Seg.set_, AV.unfz, AV.one, lenAV, contents, appAV, segsApp, b2sAV, faAV, fldAV, ixAV, enumE, look_hit, look_miss, look_nil, fLeft_l0, fLeft_R0, fLeft_R1, fLeft_R2, fLeft_R3, fLeft_R4, fLeft_R5, fLeft_R6, fLeft_R7, fLeft_R8, fLeft_R9, fLeft_R10, fLeft_R11, fLeft_R12, fLeft_W0, fLeft_W1, fLeft_W2, fLeft_E18, fLeft_E31, fLeft_E40, fLeft_E47, fLeft_res, strA, u9, S_nil, S_inj, S_size, S_list, setP, setA, hL.take]
    refine wDC_same (fun rows => has_ok L hL b.toNat (by have := b.toNat_lt; omega) rows) ?_
    simp [-BitVec.toNat_and, -BitVec.ofInt_natCast, -List.getD_eq_getElem?_getD, -BitVec.toNat_or, -BitVec.toNat_xor, wV, wB_some, wDB_some, wCond_bool, wG_bool, wG_tup, vSeq_normal, vSeq_ret, vSeq_exit, vSeq_panic, vBlock_normal, vBlock_ret, vBlock_exit, vBlock_panic, vEnd_normal, vEnd_ret, endOK, evE_cst, hBox, hFbox, hAlloc, hPick, hLoad, hStore, hNil, hBin, hNilEq, hNilEq2, hUn, hConv, hFa, hIaA, hIaS, hExtract, hLen, hApp, hMkfn, hMkif, hNilrow, hSlc, hFld, hIx, hBsl0, hB2s, hS2b, hClr, sIx, sSl, sBin, sLo, sHi, binAV, intBin, intShift, unAV, extractAV, iaA, iaS, oneSeg, andThen, liveP, live, loadAV, storeAV, AV.segs, AV.pur, pickAt, cellAt, subAt, setAt, Seg.at_, Seg.set_, AV.unfz, AV.one, lenAV, contents, appAV, segsApp, b2sAV, faAV, fldAV, ixAV, enumE, look_hit, look_miss, look_nil, fLeft_l0, fLeft_R0, fLeft_R1, fLeft_R2, fLeft_R3, fLeft_R4, fLeft_R5, fLeft_R6, fLeft_R7, fLeft_R8, fLeft_R9, fLeft_R10, fLeft_R11, fLeft_R12, fLeft_W0, fLeft_W1, fLeft_W2, fLeft_E18, fLeft_E31, fLeft_E40, fLeft_E47, fLeft_res, strA, u9, S_nil, S_inj, S_size, S_list, setP, setA, hL.take]
    have e : (S (b :: l)).extract 1 (l.length + 1) = S l := by rw [S_extract]; congr 1; simp
    simp only [e]
    refine ⟨fun h => ⟨by omega, ih _ fun x18 => ?_⟩, fun h => ?_⟩
    · have := hK x18
      rwa [List.dropWhile_cons_of_pos (by simpa using h)] at this
    · have := hK (.c (.bool (hasN L b.toNat)))
      rwa [List.dropWhile_cons_of_neg (by simpa using h)] at this

theorem left_l1 {R : List Nat} (hR : okSet R) {np : Nat} {rows : List Row} {K : Kon} {x1 x2 x3 x5 x7 x8 x9 x10 x18 x38 x39 x40 x47 : AV} : ∀ (m : List UInt8) (x31 : AV), m.length < 4611686018427387904 → 
    (∀ x31, K (.exit 2) [strA (m.dropWhile fun b => hasN R b.toNat).reverse, x1, x2, x3, x5, setP R, x7, x8, x9, x10, x18, x31, x38, x39, x40, x47] rows) →
    SV Try.prog [] 57 np [] fLeft_V fLeft_L1 [strA m.reverse, x1, x2, x3, x5, setP R, x7, x8, x9, x10, x18, x31, x38, x39, x40, x47] rows K := by
  intro m
  induction m with
  | nil =>
    intro x31 hm hK
    refine SV_rec (c := fLeft_L1) (a := fLeft_l1) rfl mixed (by kernel_rfl) (by kernel_rfl) rfl ?_
    simp [-BitVec.toNat_and, -BitVec.ofInt_natCast, -List.getD_eq_getElem?_getD, -BitVec.toNat_or, -BitVec.toNat_xor, wV, wB_some, wDB_some, wCond_bool, wG_bool, wG_tup, vSeq_normal, vSeq_ret, vSeq_exit, vSeq_panic, vBlock_normal, vBlock_ret, vBlock_exit, vBlock_panic, vEnd_normal, vEnd_ret, endOK, evE_cst, hBox, hFbox, hAlloc, hPick, hLoad, hStore, hNil, hBin, hNilEq, hNilEq2, hUn, hConv, hFa, hIaA, hIaS, hExtract, hLen, hApp, hMkfn, hMkif, hNilrow, hSlc, hFld, hIx, hBsl0, hB2s, hS2b, hClr, sIx, sSl, sBin, sLo, sHi, binAV, intBin, intShift, unAV, extractAV, iaA, iaS, oneSeg, andThen, liveP, live, loadAV, storeAV, AV.segs, AV.pur, pickAt, cellAt, subAt, setAt, Seg.at_, Seg.set_, AV.unfz, AV.one, lenAV, contents, appAV, segsApp, b2sAV, faAV, fldAV, ixAV, enumE, look_hit, look_miss, look_nil, fLeft_l1, fLeft_R0, fLeft_R1, fLeft_R2, fLeft_R3, fLeft_R4, fLeft_R5, fLeft_R6, fLeft_R7, fLeft_R8, fLeft_R9, fLeft_R10, fLeft_R11, fLeft_R12, fLeft_W0, fLeft_W1, fLeft_W2, fLeft_E18, fLeft_E31, fLeft_E40, fLeft_E47, fLeft_res, strA, u9, S_nil, S_inj]
    exact hK _
  | cons b m ih =>
    intro x31 hm hK
    refine SV_rec (c := fLeft_L1) (a := fLeft_l1) rfl mixed (by kernel_rfl) (by kernel_rfl) rfl ?_
    simp [-BitVec.toNat_and, -BitVec.ofInt_natCast, -List.getD_eq_getElem?_getD, -BitVec.toNat_or, -BitVec.toNat_xor, wV, wB_some, wDB_some, wCond_bool, wG_bool, wG_tup, vSeq_normal, vSeq_ret, vSeq_exit, vSeq_panic, vBlock_normal, vBlock_ret, vBlock_exit, vBlock_panic, vEnd_normal, vEnd_ret, endOK, evE_cst, hBox, hFbox, hAlloc, hPick, hLoad, hStore, hNil, hBin, hNilEq, hNilEq2, hUn, hConv, hFa, hIaA, hIaS, hExtract, hLen, hApp, hMkfn, hMkif, hNilrow, hSlc, hFld, hIx, hBsl0, hB2s, hS2b, hClr, sIx, sSl, sBin, sLo, sHi, binAV, intBin, intShift, unAV, extractAV, iaA, iaS, oneSeg, andThen, liveP, live, loadAV, storeAV, AV.segs, AV.pur, pickAt, cellAt, subAt, setAt, Seg.at_, Seg.set_, AV.unfz, AV.one, lenAV, contents, appAV, segsApp, b2sAV, faAV, fldAV, ixAV, enumE, look_hit, look_miss, look_nil, fLeft_l1, fLeft_R0, fLeft_R1, fLeft_R2, fLeft_R3, fLeft_R4, fLeft_R5, fLeft_R6, fLeft_R7, fLeft_R8, fLeft_R9, fLeft_R10, fLeft_R11, fLeft_R12, fLeft_W0, fLeft_W1, fLeft_W2, fLeft_E18, fLeft_E31, fLeft_E40, fLeft_E47, fLeft_res, strA, u9, S_nil, S_inj, S_size, S_list, setP, setA, hR.take]
    have e1 : IntKind.i64.wrap (m.length : Int) = m.length := wrap_i64 (by omega) (by simp only [List.length_cons] at hm; omega)
    have e2 : (m.reverse ++ [b]).getD m.length 0 = b := by simp [List.getD]
    have e3 : (S (m.reverse ++ [b])).extract 0 m.length = S m.reverse := by rw [S_extract]; congr 1; simp
    simp only [e1, Int.toNat_natCast, e2, e3]
    refine ⟨by omega, ?_⟩
    refine wDC_same (fun rows => has_ok R hR b.toNat (by have := b.toNat_lt; omega) rows) ?_
    simp [-BitVec.toNat_and, -BitVec.ofInt_natCast, -List.getD_eq_getElem?_getD, -BitVec.toNat_or, -BitVec.toNat_xor, wV, wB_some, wDB_some, wCond_bool, wG_bool, wG_tup, vSeq_normal, vSeq_ret, vSeq_exit, vSeq_panic, vBlock_normal, vBlock_ret, vBlock_exit, vBlock_panic, vEnd_normal, vEnd_ret, endOK, evE_cst, hBox, hFbox, hAlloc, hPick, hLoad, hStore, hNil, hBin, hNilEq, hNilEq2, hUn, hConv, hFa, hIaA, hIaS, hExtract, hLen, hApp, hMkfn, hMkif, hNilrow, hSlc, hFld, hIx, hBsl0, hB2s, hS2b, hClr, sIx, sSl, sBin, sLo, sHi, binAV, intBin, intShift, unAV, extractAV, iaA, iaS, oneSeg, andThen, liveP, live, loadAV, storeAV, AV.segs, AV.pur, pickAt, cellAt, subAt, setAt, Seg.at_, Seg.set_, AV.unfz, AV.one, lenAV, contents, appAV, segsApp, b2sAV, faAV, fldAV, ixAV, enumE, look_hit, look_miss, look_nil, fLeft_R0, fLeft_R1, fLeft_R2, fLeft_R3, fLeft_R4, fLeft_R5, fLeft_R6, fLeft_R7, fLeft_R8, fLeft_R9, fLeft_R10, fLeft_R11, fLeft_R12, fLeft_W0, fLeft_W1, fLeft_W2, fLeft_E18, fLeft_E31, fLeft_E40, fLeft_E47, fLeft_res, strA, u9, S_nil, S_inj, S_size, S_list, setP, setA, hR.take]
    refine ⟨fun h => ⟨by omega, ih _ (by simp only [List.length_cons] at hm; omega) fun x31 => ?_⟩, fun h => ?_⟩
    · have := hK x31
      rwa [List.dropWhile_cons_of_pos (by simpa using h)] at this
    · have := hK (.c (.bool (hasN R b.toNat)))
      rw [List.dropWhile_cons_of_neg (by simpa using h)] at this
      simpa [strA, setP, setA] using this

theorem left_l2 {D : List Nat} (hD : okSet D) {np : Nat} {K : Kon} {x1 x2 x3 x5 x6 x8 x18 x31 : AV} (l : List UInt8) (hl : l.length < 140737488355328) : ∀ (k i : Nat) (x9 x10 x40 x47 : AV) (rows : List Row) (acc : List UInt8), i + k = l.length → acc.length ≤ i → Acc 5 .u8 rows x9 (bytesZ acc) →
    (∀ x9 x10 x40 x47 rows, Acc 5 .u8 rows x9 (bytesZ (acc ++ (l.drop i).filter fun b => !hasN D b.toNat)) → K (.exit 4) [strA l, x1, x2, x3, x5, x6, setP D, x8, x9, x10, x18, x31, .c (.int .i64 (l.length : Nat)), .c (.int .i64 (l.length : Nat)), x40, x47] rows) →
    SV Try.prog [] 57 np [] fLeft_V fLeft_L2 [strA l, x1, x2, x3, x5, x6, setP D, x8, x9, x10, x18, x31, .c (.int .i64 (l.length : Nat)), .c (.int .i64 (i : Nat)), x40, x47] rows K := by
  intro k
  induction k with
  | zero =>
    intro i x9 x10 x40 x47 rows acc hi ha hA hK
    have hi : i = l.length := by omega
    subst hi
    refine SV_rec (c := fLeft_L2) (a := fLeft_l2) rfl mixed (by kernel_rfl) (by kernel_rfl) rfl ?_
    simp [-BitVec.toNat_and, -BitVec.ofInt_natCast, -List.getD_eq_getElem?_getD, -BitVec.toNat_or, -BitVec.toNat_xor, wV, wB_some, wDB_some, wCond_bool, wG_bool, wG_tup, vSeq_normal, vSeq_ret, vSeq_exit, vSeq_panic, vBlock_normal, vBlock_ret, vBlock_exit, vBlock_panic, vEnd_normal, vEnd_ret, endOK, evE_cst, hBox, hFbox, hAlloc, hPick, hLoad, hStore, hNil, hBin, hNilEq, hNilEq2, hUn, hConv, hFa, hIaA, hIaS, hExtract, hLen, hApp, hMkfn, hMkif, hNilrow, hSlc, hFld, hIx, hBsl0, hB2s, hS2b, hClr, sIx, sSl, sBin, sLo, sHi, binAV, intBin, intShift, unAV, extractAV, iaA, iaS, oneSeg, andThen, liveP, live, loadAV, storeAV, AV.segs, AV.pur, pickAt, cellAt, subAt, setAt, Seg.at_, Seg.set_, AV.unfz, AV.one, lenAV, contents, appAV, segsApp, b2sAV, faAV, fldAV, ixAV, enumE, look_hit, look_miss, look_nil, fLeft_l2, fLeft_R0, fLeft_R1, fLeft_R2, fLeft_R3, fLeft_R4, fLeft_R5, fLeft_R6, fLeft_R7, fLeft_R8, fLeft_R9, fLeft_R10, fLeft_R11, fLeft_R12, fLeft_W0, fLeft_W1, fLeft_W2, fLeft_E18, fLeft_E31, fLeft_E40, fLeft_E47, fLeft_res]
    simp only [List.drop_length, List.filter_nil, List.append_nil] at hK
    exact hK _ _ _ _ _ hA
  | succ k ih =>
    intro i x9 x10 x40 x47 rows acc hi ha hA hK
    have hil : i < l.length := by omega
    refine SV_rec (c := fLeft_L2) (a := fLeft_l2) rfl mixed (by kernel_rfl) (by kernel_rfl) rfl ?_
    simp [-BitVec.toNat_and, -BitVec.ofInt_natCast, -List.getD_eq_getElem?_getD, -BitVec.toNat_or, -BitVec.toNat_xor, wV, wB_some, wDB_some, wCond_bool, wG_bool, wG_tup, vSeq_normal, vSeq_ret, vSeq_exit, vSeq_panic, vBlock_normal, vBlock_ret, vBlock_exit, vBlock_panic, vEnd_normal, vEnd_ret, endOK, evE_cst, hBox, hFbox, hAlloc, hPick, hLoad, hStore, hNil, hBin, hNilEq, hNilEq2, hUn, hConv, hFa, hIaA, hIaS, hExtract, hLen, hMkfn, hMkif, hNilrow, hFld, hIx, hBsl0, hS2b, sIx, sSl, sBin, sLo, sHi, binAV, intBin, intShift, unAV, extractAV, iaA, iaS, oneSeg, andThen, liveP, live, loadAV, storeAV, AV.segs, pickAt, cellAt, subAt, setAt, Seg.at_, Seg.set_, AV.unfz, AV.one, lenAV, faAV, fldAV, ixAV, enumE, look_hit, look_miss, look_nil, strA_pur, pur4_c, pur6_c, pur4_ints, pur6_ints, pur6_fints, pur6_fbools, evE_hit, evE_miss, Value.oneCell', aopF_bsl, aopF_build, segsCell, Seg.cell, List.all_cons, List.all_nil, bslCells, fillAV, cellsOf, segsOf, segsSize, Seg.size, Value.cells, fLeft_l2, fLeft_R0, fLeft_R1, fLeft_R2, fLeft_R3, fLeft_R4, fLeft_R5, fLeft_R6, fLeft_R7, fLeft_R8, fLeft_R9, fLeft_R10, fLeft_R11, fLeft_R12, fLeft_W0, fLeft_W1, fLeft_W2, fLeft_E18, fLeft_E31, fLeft_E40, fLeft_E47, fLeft_res, strA, u9, S_nil, S_inj, S_size, S_list, setP, setA, hD.take, hil]
    refine wDC_same (fun rows => has_ok D hD (l.getD i 0).toNat (by have := (l.getD i 0).toNat_lt; omega) rows) ?_
    simp [-BitVec.toNat_and, -BitVec.ofInt_natCast, -List.getD_eq_getElem?_getD, -BitVec.toNat_or, -BitVec.toNat_xor, wV, wB_some, wDB_some, wCond_bool, wG_bool, wG_tup, vSeq_normal, vSeq_ret, vSeq_exit, vSeq_panic, vBlock_normal, vBlock_ret, vBlock_exit, vBlock_panic, vEnd_normal, vEnd_ret, endOK, evE_cst, hBox, hFbox, hAlloc, hPick, hLoad, hStore, hNil, hBin, hNilEq, hNilEq2, hUn, hConv, hFa, hIaA, hIaS, hExtract, hLen, hMkfn, hMkif, hNilrow, hFld, hIx, hBsl0, hS2b, sIx, sSl, sBin, sLo, sHi, binAV, intBin, intShift, unAV, extractAV, iaA, iaS, oneSeg, andThen, liveP, live, loadAV, storeAV, AV.segs, pickAt, cellAt, subAt, setAt, Seg.at_, Seg.set_, AV.unfz, AV.one, lenAV, faAV, fldAV, ixAV, enumE, look_hit, look_miss, look_nil, strA_pur, pur4_c, pur6_c, pur4_ints, pur6_ints, pur6_fints, pur6_fbools, evE_hit, evE_miss, Value.oneCell', aopF_bsl, aopF_build, segsCell, Seg.cell, List.all_cons, List.all_nil, bslCells, fillAV, cellsOf, segsOf, segsSize, Seg.size, Value.cells, fLeft_R0, fLeft_R1, fLeft_R2, fLeft_R3, fLeft_R4, fLeft_R5, fLeft_R6, fLeft_R7, fLeft_R8, fLeft_R9, fLeft_R10, fLeft_R11, fLeft_R12, fLeft_W0, fLeft_W1, fLeft_W2, fLeft_E18, fLeft_E31, fLeft_E40, fLeft_E47, fLeft_res, strA, u9, S_nil, S_inj, S_size, S_list, setP, setA, hD.take, hil]
    have e1 := wrap_succ i (by omega)
    have hd : l.drop i = l.getD i 0 :: l.drop (i + 1) := by rw [List.drop_eq_getElem_cons hil]; simp [List.getD, hil]
    rw [e1]
    refine ⟨fun h => ?_, fun h => ?_⟩
    · refine wB_app_u8 (b := l.getD i 0) hA rfl (by omega) (by omega) fun x' rows' hA' => ?_
      refine ih (i + 1) _ _ _ _ _ (acc ++ [l.getD i 0]) (by omega) (by simp; omega) hA' ?_
      rw [hd, List.filter_cons_of_pos (by simpa using h)] at hK
      simpa [List.append_assoc] using hK
    · refine ih (i + 1) _ _ _ _ _ acc (by omega) (by omega) hA ?_
      rw [hd, List.filter_cons_of_neg (by simpa using h)] at hK
      exact hK

/-- What is left of a text. -/
def leftN (L R D : List Nat) (l : List UInt8) : List UInt8 :=
  (((l.dropWhile fun b => hasN L b.toNat).reverse.dropWhile fun b => hasN R b.toNat).reverse).filter fun b => !hasN D b.toNat

theorem left_ok {L R D : List Nat} (hL : okSet L) (hR : okSet R) (hD : okSet D) (l : List UInt8) (hl : l.length < 140737488355328) (rows : List Row) : Ev Try.prog [] (.call 26 [strA l, setA L, setA R, setA D] rows (.ret (strA (leftN L R D l)) rows)) := by
  refine fnV_beside (V := fLeft_V) 1 mixed fLeft_ok rfl (by kernel_rfl) rfl rfl (fLeft_in _ _ _ _) ?_ rows
  simp [-BitVec.toNat_and, -BitVec.ofInt_natCast, -List.getD_eq_getElem?_getD, -BitVec.toNat_or, -BitVec.toNat_xor, wV, wB_some, wDB_some, wCond_bool, wG_bool, wG_tup, vSeq_normal, vSeq_ret, vSeq_exit, vSeq_panic, vBlock_normal, vBlock_ret, vBlock_exit, vBlock_panic, vEnd_normal, vEnd_ret, endOK, evE_cst, hBox, hFbox, hAlloc, hPick, hLoad, hStore, hNil, hBin, hNilEq, hNilEq2, hUn, hConv, hFa, hIaA, hIaS, hExtract, hLen, hMkfn, hMkif, hNilrow, hFld, hIx, hBsl0, hS2b, sIx, sSl, sBin, sLo, sHi, binAV, intBin, intShift, unAV, extractAV, iaA, iaS, oneSeg, andThen, liveP, live, loadAV, storeAV, AV.segs, pickAt, cellAt, subAt, setAt, Seg.at_, Seg.set_, AV.unfz, AV.one, lenAV, faAV, fldAV, ixAV, enumE, look_hit, look_miss, look_nil, strA_pur, pur4_c, pur6_c, pur4_ints, pur6_ints, pur6_fints, pur6_fbools, evE_hit, evE_miss, Value.oneCell', aopF_bsl, aopF_build, segsCell, Seg.cell, List.all_cons, List.all_nil, bslCells, fillAV, cellsOf, segsOf, segsSize, Seg.size, Value.cells, fLeft, fLeft_R0, fLeft_R1, fLeft_R2, fLeft_R3, fLeft_R4, fLeft_R5, fLeft_R6, fLeft_R7, fLeft_R8, fLeft_R9, fLeft_R10, fLeft_R11, fLeft_R12, fLeft_W0, fLeft_W1, fLeft_W2, fLeft_E18, fLeft_E31, fLeft_E40, fLeft_E47, fLeft_res, setA]
  refine left_l0 hL l _ fun x18 => ?_
  simp [-BitVec.toNat_and, -BitVec.ofInt_natCast, -List.getD_eq_getElem?_getD, -BitVec.toNat_or, -BitVec.toNat_xor, wV, wB_some, wDB_some, wCond_bool, wG_bool, wG_tup, vSeq_normal, vSeq_ret, vSeq_exit, vSeq_panic, vBlock_normal, vBlock_ret, vBlock_exit, vBlock_panic, vEnd_normal, vEnd_ret, endOK, evE_cst, hBox, hFbox, hAlloc, hPick, hLoad, hStore, hNil, hBin, hNilEq, hNilEq2, hUn, hConv, hFa, hIaA, hIaS, hExtract, hLen, hMkfn, hMkif, hNilrow, hFld, hIx, hBsl0, hS2b, sIx, sSl, sBin, sLo, sHi, binAV, intBin, intShift, unAV, extractAV, iaA, iaS, oneSeg, andThen, liveP, live, loadAV, storeAV, AV.segs, pickAt, cellAt, subAt, setAt, Seg.at_, Seg.set_, AV.unfz, AV.one, lenAV, faAV, fldAV, ixAV, enumE, look_hit, look_miss, look_nil, strA_pur, pur4_c, pur6_c, pur4_ints, pur6_ints, pur6_fints, pur6_fbools, evE_hit, evE_miss, Value.oneCell', aopF_bsl, aopF_build, segsCell, Seg.cell, List.all_cons, List.all_nil, bslCells, fillAV, cellsOf, segsOf, segsSize, Seg.size, Value.cells, fLeft_R0, fLeft_R1, fLeft_R2, fLeft_R3, fLeft_R4, fLeft_R5, fLeft_R6, fLeft_R7, fLeft_R8, fLeft_R9, fLeft_R10, fLeft_R11, fLeft_R12, fLeft_W0, fLeft_W1, fLeft_W2, fLeft_E18, fLeft_E31, fLeft_E40, fLeft_E47, fLeft_res]
  generalize hm : (l.dropWhile fun b => hasN L b.toNat) = m
  have hml : m.length ≤ l.length := by rw [← hm]; exact (List.dropWhile_sublist _).length_le
  rw [← List.reverse_reverse m]
  refine left_l1 hR m.reverse _ (by simp; omega) fun x31 => ?_
  generalize hk : (m.reverse.dropWhile fun b => hasN R b.toNat).reverse = k
  have hkl : k.length ≤ m.length := by rw [← hk, List.length_reverse]; have := (List.dropWhile_sublist (fun b => hasN R b.toNat) (l := m.reverse)).length_le; simpa using this
  simp [-BitVec.toNat_and, -BitVec.ofInt_natCast, -List.getD_eq_getElem?_getD, -BitVec.toNat_or, -BitVec.toNat_xor, wV, wB_some, wDB_some, wCond_bool, wG_bool, wG_tup, vSeq_normal, vSeq_ret, vSeq_exit, vSeq_panic, vBlock_normal, vBlock_ret, vBlock_exit, vBlock_panic, vEnd_normal, vEnd_ret, endOK, evE_cst, hBox, hFbox, hAlloc, hPick, hLoad, hStore, hNil, hBin, hNilEq, hNilEq2, hUn, hConv, hFa, hIaA, hIaS, hExtract, hLen, hMkfn, hMkif, hNilrow, hFld, hIx, hBsl0, hS2b, sIx, sSl, sBin, sLo, sHi, binAV, intBin, intShift, unAV, extractAV, iaA, iaS, oneSeg, andThen, liveP, live, loadAV, storeAV, AV.segs, pickAt, cellAt, subAt, setAt, Seg.at_, Seg.set_, AV.unfz, AV.one, lenAV, faAV, fldAV, ixAV, enumE, look_hit, look_miss, look_nil, strA_pur, pur4_c, pur6_c, pur4_ints, pur6_ints, pur6_fints, pur6_fbools, evE_hit, evE_miss, Value.oneCell', aopF_bsl, aopF_build, segsCell, Seg.cell, List.all_cons, List.all_nil, bslCells, fillAV, cellsOf, segsOf, segsSize, Seg.size, Value.cells, fLeft_R0, fLeft_R1, fLeft_R2, fLeft_R3, fLeft_R4, fLeft_R5, fLeft_R6, fLeft_R7, fLeft_R8, fLeft_R9, fLeft_R10, fLeft_R11, fLeft_R12, fLeft_W0, fLeft_W1, fLeft_W2, fLeft_E18, fLeft_E31, fLeft_E40, fLeft_E47, fLeft_res, S_size, strA]
  refine left_l2 hD k (by omega) k.length 0 _ _ _ _ _ [] (by omega) (by simp) (Acc.nil _ _ _) fun x9 x10 x40 x47 rows hA => ?_
  simp [-BitVec.toNat_and, -BitVec.ofInt_natCast, -List.getD_eq_getElem?_getD, -BitVec.toNat_or, -BitVec.toNat_xor, wV, wB_some, wDB_some, wCond_bool, wG_bool, wG_tup, vSeq_normal, vSeq_ret, vSeq_exit, vSeq_panic, vBlock_normal, vBlock_ret, vBlock_exit, vBlock_panic, vEnd_normal, vEnd_ret, endOK, evE_cst, hBox, hFbox, hAlloc, hPick, hLoad, hStore, hNil, hBin, hNilEq, hNilEq2, hUn, hConv, hFa, hIaA, hIaS, hExtract, hLen, hMkfn, hMkif, hNilrow, hFld, hIx, hBsl0, hS2b, sIx, sSl, sBin, sLo, sHi, binAV, intBin, intShift, unAV, extractAV, iaA, iaS, oneSeg, andThen, liveP, live, loadAV, storeAV, AV.segs, pickAt, cellAt, subAt, setAt, Seg.at_, Seg.set_, AV.unfz, AV.one, lenAV, faAV, fldAV, ixAV, enumE, look_hit, look_miss, look_nil, strA_pur, pur4_c, pur6_c, pur4_ints, pur6_ints, pur6_fints, pur6_fbools, evE_hit, evE_miss, Value.oneCell', aopF_bsl, aopF_build, segsCell, Seg.cell, List.all_cons, List.all_nil, bslCells, fillAV, cellsOf, segsOf, segsSize, Seg.size, Value.cells, fLeft_R0, fLeft_R1, fLeft_R2, fLeft_R3, fLeft_R4, fLeft_R5, fLeft_R6, fLeft_R7, fLeft_R8, fLeft_R9, fLeft_R10, fLeft_R11, fLeft_R12, fLeft_W0, fLeft_W1, fLeft_W2, fLeft_E18, fLeft_E31, fLeft_E40, fLeft_E47, fLeft_res]
  refine wB_b2s hA ?_
  simp [-BitVec.toNat_and, -BitVec.ofInt_natCast, -List.getD_eq_getElem?_getD, -BitVec.toNat_or, -BitVec.toNat_xor, wV, wB_some, wDB_some, wCond_bool, wG_bool, wG_tup, vSeq_normal, vSeq_ret, vSeq_exit, vSeq_panic, vBlock_normal, vBlock_ret, vBlock_exit, vBlock_panic, vEnd_normal, vEnd_ret, endOK, evE_cst, hBox, hFbox, hAlloc, hPick, hLoad, hStore, hNil, hBin, hNilEq, hNilEq2, hUn, hConv, hFa, hIaA, hIaS, hExtract, hLen, hMkfn, hMkif, hNilrow, hFld, hIx, hBsl0, hS2b, sIx, sSl, sBin, sLo, sHi, binAV, intBin, intShift, unAV, extractAV, iaA, iaS, oneSeg, andThen, liveP, live, loadAV, storeAV, AV.segs, pickAt, cellAt, subAt, setAt, Seg.at_, Seg.set_, AV.unfz, AV.one, lenAV, faAV, fldAV, ixAV, enumE, look_hit, look_miss, look_nil, strA_pur, pur4_c, pur6_c, pur4_ints, pur6_ints, pur6_fints, pur6_fbools, evE_hit, evE_miss, Value.oneCell', aopF_bsl, aopF_build, segsCell, Seg.cell, List.all_cons, List.all_nil, bslCells, fillAV, cellsOf, segsOf, segsSize, Seg.size, Value.cells, fLeft_R0, fLeft_R1, fLeft_R2, fLeft_R3, fLeft_R4, fLeft_R5, fLeft_R6, fLeft_R7, fLeft_R8, fLeft_R9, fLeft_R10, fLeft_R11, fLeft_R12, fLeft_W0, fLeft_W1, fLeft_W2, fLeft_E18, fLeft_E31, fLeft_E40, fLeft_E47, fLeft_res]
  simp [leftN, hm, hk, strA]

end Go.Proofs.Ytfcfdedbbhdioaa.AI
