/- The law WrapLeft: its call. -/
import Derived.Test.YtfcfdedbbhdioaaWL3
import Derived.Test.YtfcfdedbbhdioaaWrapK1
import Derived.Test.YtfcfdedbbhdioaaOpen0
namespace Go.Proofs.Ytfcfdedbbhdioaa.AI
open Go
set_option linter.unusedVariables false
set_option linter.unusedSimpArgs false
set_option maxRecDepth 100000

theorem awake_ok (rows : List Row) : Ev Try.prog [] (.call 25 [] rows (.ret (.c (.bool true)) rows)) := .prim 25 [] rows _ (wrap_awake rows)

theorem wrapLeft_ok {L R D : List Nat} (hL : okSet L) (hR : okSet R) (hD : okSet D) (l : List UInt8): Ev Try.prog [] (.call 5 [strA l, setA L, setA R, setA D] [] (.ret (.c (.bool true)) [])) := by
  refine fnV_same (V := fWrapLeft_V) mixed fWrapLeft_ok rfl (by kernel_rfl) (fWrapLeft_in _ _ _ _) ?_
  simp [-BitVec.toNat_and, -BitVec.ofInt_natCast, -List.getD_eq_getElem?_getD, -BitVec.toNat_or, -BitVec.toNat_xor, wV, wB_some, wDB_some, wCond_bool, wG_bool, wG_tup, vSeq_normal, vSeq_ret, vSeq_exit, vSeq_panic, vBlock_normal, vBlock_ret, vBlock_exit, vBlock_panic, vEnd_normal, vEnd_ret, endOK, evE_cst, hBox, hFbox, hAlloc, hPick, hLoad, hStore, hNil, hBin, hNilEq, hNilEq2, hUn, hConv, hFa, hIaA, hIaS, hExtract, hLen, hMkfn, hMkif, hNilrow, hFld, hIx, hBsl0, hS2b, sIx, sSl, sBin, sLo, sHi, binAV, intBin, intShift, unAV, extractAV, iaA, iaS, oneSeg, andThen, liveP, live, loadAV, storeAV, AV.segs, pickAt, cellAt, subAt, setAt, Seg.at_, Seg.set_, AV.unfz, AV.one, lenAV, faAV, fldAV, ixAV, enumE, look_hit, look_miss, look_nil, strA_pur, pur4_c, pur6_c, pur4_ints, pur6_ints, pur6_fints, pur6_fbools, evE_hit, evE_miss, Value.oneCell', aopF_bsl, aopF_build, segsCell, Seg.cell, List.all_cons, List.all_nil, bslCells, fillAV, cellsOf, segsOf, segsSize, Seg.size, Value.cells, fWrapLeft, fWrapLeft_R0, fWrapLeft_R1, fWrapLeft_R2, fWrapLeft_R3, fWrapLeft_E11, fWrapLeft_res, setA, strA, S_size]
  refine ⟨fun h => ?_, fun h => ?_⟩
  · refine wCall_ret (awake_ok _) ?_
    simp [-BitVec.toNat_and, -BitVec.ofInt_natCast, -List.getD_eq_getElem?_getD, -BitVec.toNat_or, -BitVec.toNat_xor, wV, wB_some, wDB_some, wCond_bool, wG_bool, wG_tup, vSeq_normal, vSeq_ret, vSeq_exit, vSeq_panic, vBlock_normal, vBlock_ret, vBlock_exit, vBlock_panic, vEnd_normal, vEnd_ret, endOK, evE_cst, hBox, hFbox, hAlloc, hPick, hLoad, hStore, hNil, hBin, hNilEq, hNilEq2, hUn, hConv, hFa, hIaA, hIaS, hExtract, hLen, hMkfn, hMkif, hNilrow, hFld, hIx, hBsl0, hS2b, sIx, sSl, sBin, sLo, sHi, binAV, intBin, intShift, unAV, extractAV, iaA, iaS, oneSeg, andThen, liveP, live, loadAV, storeAV, AV.segs, pickAt, cellAt, subAt, setAt, Seg.at_, Seg.set_, AV.unfz, AV.one, lenAV, faAV, fldAV, ixAV, enumE, look_hit, look_miss, look_nil, strA_pur, pur4_c, pur6_c, pur4_ints, pur6_ints, pur6_fints, pur6_fbools, evE_hit, evE_miss, Value.oneCell', aopF_bsl, aopF_build, segsCell, Seg.cell, List.all_cons, List.all_nil, bslCells, fillAV, cellsOf, segsOf, segsSize, Seg.size, Value.cells, fWrapLeft_R0, fWrapLeft_R1, fWrapLeft_R2, fWrapLeft_R3, fWrapLeft_E11, fWrapLeft_res]
  · simp [-BitVec.toNat_and, -BitVec.ofInt_natCast, -List.getD_eq_getElem?_getD, -BitVec.toNat_or, -BitVec.toNat_xor, wV, wB_some, wDB_some, wCond_bool, wG_bool, wG_tup, vSeq_normal, vSeq_ret, vSeq_exit, vSeq_panic, vBlock_normal, vBlock_ret, vBlock_exit, vBlock_panic, vEnd_normal, vEnd_ret, endOK, evE_cst, hBox, hFbox, hAlloc, hPick, hLoad, hStore, hNil, hBin, hNilEq, hNilEq2, hUn, hConv, hFa, hIaA, hIaS, hExtract, hLen, hMkfn, hMkif, hNilrow, hFld, hIx, hBsl0, hS2b, sIx, sSl, sBin, sLo, sHi, binAV, intBin, intShift, unAV, extractAV, iaA, iaS, oneSeg, andThen, liveP, live, loadAV, storeAV, AV.segs, pickAt, cellAt, subAt, setAt, Seg.at_, Seg.set_, AV.unfz, AV.one, lenAV, faAV, fldAV, ixAV, enumE, look_hit, look_miss, look_nil, strA_pur, pur4_c, pur6_c, pur4_ints, pur6_ints, pur6_fints, pur6_fbools, evE_hit, evE_miss, Value.oneCell', aopF_bsl, aopF_build, segsCell, Seg.cell, List.all_cons, List.all_nil, bslCells, fillAV, cellsOf, segsOf, segsSize, Seg.size, Value.cells, fWrapLeft_R0, fWrapLeft_R1, fWrapLeft_R2, fWrapLeft_R3, fWrapLeft_E11, fWrapLeft_res, hL.take, hR.take, hD.take]
    refine wDC_same (fun rows => left_ok hL hR hD l (by omega) rows) ?_
    simp [-BitVec.toNat_and, -BitVec.ofInt_natCast, -List.getD_eq_getElem?_getD, -BitVec.toNat_or, -BitVec.toNat_xor, wV, wB_some, wDB_some, wCond_bool, wG_bool, wG_tup, vSeq_normal, vSeq_ret, vSeq_exit, vSeq_panic, vBlock_normal, vBlock_ret, vBlock_exit, vBlock_panic, vEnd_normal, vEnd_ret, endOK, evE_cst, hBox, hFbox, hAlloc, hPick, hLoad, hStore, hNil, hBin, hNilEq, hNilEq2, hUn, hConv, hFa, hIaA, hIaS, hExtract, hLen, hMkfn, hMkif, hNilrow, hFld, hIx, hBsl0, hS2b, sIx, sSl, sBin, sLo, sHi, binAV, intBin, intShift, unAV, extractAV, iaA, iaS, oneSeg, andThen, liveP, live, loadAV, storeAV, AV.segs, pickAt, cellAt, subAt, setAt, Seg.at_, Seg.set_, AV.unfz, AV.one, lenAV, faAV, fldAV, ixAV, enumE, look_hit, look_miss, look_nil, strA_pur, pur4_c, pur6_c, pur4_ints, pur6_ints, pur6_fints, pur6_fbools, evE_hit, evE_miss, Value.oneCell', aopF_bsl, aopF_build, segsCell, Seg.cell, List.all_cons, List.all_nil, bslCells, fillAV, cellsOf, segsOf, segsSize, Seg.size, Value.cells, fWrapLeft_R0, fWrapLeft_R1, fWrapLeft_R2, fWrapLeft_R3, fWrapLeft_E11, fWrapLeft_res, hL.take, hR.take, hD.take, strA]
    refine wDC_same (fun rows => refLeft_ok hL hR hD l (by omega) rows) ?_
    rw [leftN_eq]
    simp [-BitVec.toNat_and, -BitVec.ofInt_natCast, -List.getD_eq_getElem?_getD, -BitVec.toNat_or, -BitVec.toNat_xor, wV, wB_some, wDB_some, wCond_bool, wG_bool, wG_tup, vSeq_normal, vSeq_ret, vSeq_exit, vSeq_panic, vBlock_normal, vBlock_ret, vBlock_exit, vBlock_panic, vEnd_normal, vEnd_ret, endOK, evE_cst, hBox, hFbox, hAlloc, hPick, hLoad, hStore, hNil, hBin, hNilEq, hNilEq2, hUn, hConv, hFa, hIaA, hIaS, hExtract, hLen, hMkfn, hMkif, hNilrow, hFld, hIx, hBsl0, hS2b, sIx, sSl, sBin, sLo, sHi, binAV, intBin, intShift, unAV, extractAV, iaA, iaS, oneSeg, andThen, liveP, live, loadAV, storeAV, AV.segs, pickAt, cellAt, subAt, setAt, Seg.at_, Seg.set_, AV.unfz, AV.one, lenAV, faAV, fldAV, ixAV, enumE, look_hit, look_miss, look_nil, strA_pur, pur4_c, pur6_c, pur4_ints, pur6_ints, pur6_fints, pur6_fbools, evE_hit, evE_miss, Value.oneCell', aopF_bsl, aopF_build, segsCell, Seg.cell, List.all_cons, List.all_nil, bslCells, fillAV, cellsOf, segsOf, segsSize, Seg.size, Value.cells, fWrapLeft_R0, fWrapLeft_R1, fWrapLeft_R2, fWrapLeft_R3, fWrapLeft_E11, fWrapLeft_res, hL.take, hR.take, hD.take, strA]
    refine wDC_same awake_ok ?_
    simp [-BitVec.toNat_and, -BitVec.ofInt_natCast, -List.getD_eq_getElem?_getD, -BitVec.toNat_or, -BitVec.toNat_xor, wV, wB_some, wDB_some, wCond_bool, wG_bool, wG_tup, vSeq_normal, vSeq_ret, vSeq_exit, vSeq_panic, vBlock_normal, vBlock_ret, vBlock_exit, vBlock_panic, vEnd_normal, vEnd_ret, endOK, evE_cst, hBox, hFbox, hAlloc, hPick, hLoad, hStore, hNil, hBin, hNilEq, hNilEq2, hUn, hConv, hFa, hIaA, hIaS, hExtract, hLen, hMkfn, hMkif, hNilrow, hFld, hIx, hBsl0, hS2b, sIx, sSl, sBin, sLo, sHi, binAV, intBin, intShift, unAV, extractAV, iaA, iaS, oneSeg, andThen, liveP, live, loadAV, storeAV, AV.segs, pickAt, cellAt, subAt, setAt, Seg.at_, Seg.set_, AV.unfz, AV.one, lenAV, faAV, fldAV, ixAV, enumE, look_hit, look_miss, look_nil, strA_pur, pur4_c, pur6_c, pur4_ints, pur6_ints, pur6_fints, pur6_fbools, evE_hit, evE_miss, Value.oneCell', aopF_bsl, aopF_build, segsCell, Seg.cell, List.all_cons, List.all_nil, bslCells, fillAV, cellsOf, segsOf, segsSize, Seg.size, Value.cells, fWrapLeft_R0, fWrapLeft_R1, fWrapLeft_R2, fWrapLeft_R3, fWrapLeft_E11, fWrapLeft_res]

theorem u37 : Try.prog.underlying 37 = some (.array 4 35) := by kernel_rfl
theorem u35 : Try.prog.underlying 35 = some (.int .u64) := by kernel_rfl
theorem c35 : Try.prog.cellsOf 35 = 1 := by kernel_rfl
theorem c37 : Try.prog.cellsOf 37 = 4 * 1 := by kernel_rfl

section
variable {H : Type} {enc : TypeId × Value → H} {w : World}

/-- A set that is handed in. -/
theorem arg_set {r : Reach} {b0 : Nat} {v : Value} {d : DataW H} {ps : List MemPlace} (hv : Value.okWide Try.prog w r b0 37 v) (hd : DataW.Trod enc Try.prog w 0 (fun _ => true) true 37 v d ps) :
    ∃ s, okSet s ∧ VR w (oldR w) unbornL (setA s) v := by
  obtain ⟨cs, hcs⟩ := okWide_array u37 hv
  obtain ⟨l, ⟨hl, hr⟩, h⟩ := arg_agg (opens_array u37 c35 (by omega) c37 (fun _ _ => rfl) (opens_int u35)) hcs hd
  have hb : ∀ n ∈ l, 0 ≤ n ∧ n < 18446744073709551616 := fun n hn => by
    have := hr n hn
    simp [IntKind.min, IntKind.max, IntKind.signed, IntKind.bits] at this
    omega
  have hmap : (l.map Int.toNat).map (fun x : Nat => (x : Int)) = l := by
    rw [List.map_map]
    conv => rhs; rw [← List.map_id l]
    apply List.map_congr_left
    intro n hn
    have := hb n hn
    simp only [Function.comp, id]
    omega
  refine ⟨l.map Int.toNat, ⟨by simpa using hl, fun j => ?_⟩, ?_⟩
  · simp only [List.getD, List.getElem?_map]
    cases hj : l[j]? with
    | none => simp
    | some n =>
      have := hb n (List.mem_of_getElem? hj)
      simp
      omega
  · rw [setA, hmap]
    have hfl : (l.flatMap fun n : Int => [AV.c (.int .u64 n)]).length = 4 := by rw [flat_len (sz := 1) l fun _ _ => rfl, hl]
    refine h _ (by rw [hfl]; rfl) fun j => ?_
    show (if j < 4 then (if j < 4 then some (AV.c (.int .u64 (l.getD j 0))) else none) else none) = _
    by_cases hj : j < 4
    · rw [if_pos hj, if_pos hj, flat_at (sz := 1) (by omega) l (fun _ _ => rfl), Nat.div_one, Nat.mod_one]
      have : j < l.length := by omega
      simp [List.getD, this]
    · rw [if_neg hj, List.getElem?_eq_none (by omega)]

theorem c9 : Try.prog.underlying 9 = some .string := u9

/-- A text that is handed in. -/
theorem arg_text {r : Reach} {b0 : Nat} {v : Value} {d : DataW H} {ps : List MemPlace} (hv : Value.okWide Try.prog w r b0 9 v) (hd : DataW.Trod enc Try.prog w 0 (fun _ => true) true 9 v d ps) :
    ∃ l : List UInt8, l.length ≤ maxLen ∧ VR w (oldR w) unbornL (strA l) v := by
  obtain ⟨s, rfl⟩ := WideShapes.okWide_string u9 hv
  obtain ⟨l, hl, h⟩ := arg_single (opens_string u9) rfl hd
  exact ⟨l, hl, h _ rfl⟩

end

end Go.Proofs.Ytfcfdedbbhdioaa.AI
