/- Bits of bytes: octets.bit, octets.Has, the document's In. -/
import Derived.Test.YtfcfdedbbhdioaaWLcode
namespace Go.Proofs.Ytfcfdedbbhdioaa.AI
open Go
set_option linter.unusedVariables false
set_option linter.unusedSimpArgs false
set_option maxRecDepth 100000


theorem tdiv_nat (a b : Nat) : Int.tdiv (a : Int) (b : Int) = ((a / b : Nat) : Int) := rfl
theorem tmod_nat (a b : Nat) : Int.tmod (a : Int) (b : Int) = ((a % b : Nat) : Int) := rfl

theorem bit_ok (c : Nat) (h : c < 256) (rows : List Row) : Ev Try.prog [] (.call 93 [.c (.int .u8 c)] rows (.ret (.tup [.c (.int .i64 (c / 64 : Nat)), .c (.int .u64 (2 ^ (c % 64) : Nat))]) rows)) := by
  have e1 : Int.tdiv (c : Int) 64 = ((c / 64 : Nat) : Int) := rfl
  have e2 : Int.tmod (c : Int) 64 = ((c % 64 : Nat) : Int) := rfl
  have e3 : 2 ^ (c % 64) < 18446744073709551616 := by
    have : c % 64 < 64 := Nat.mod_lt _ (by omega)
    calc 2 ^ (c % 64) < 2 ^ 64 := Nat.pow_lt_pow_right (by omega) this
      _ = _ := by decide
  have e5 : min (c % 64) 64 = c % 64 := by omega
  have e4 : IntKind.u64.wrap (2 ^ (c % 64)) = 2 ^ (c % 64) := by
    have := wrap_u64 (n := ((2 ^ (c % 64) : Nat) : Int)) (Int.natCast_nonneg _) (Int.ofNat_lt.mpr e3)
    push_cast at this
    exact this
  have e6 : ((c : Int) % 64).toNat = c % 64 := by omega
  refine fnV_same (V := fBit_V) mixed fBit_ok rfl (by kernel_rfl) (fBit_in _) ?_
  simp [-BitVec.toNat_and, -BitVec.ofInt_natCast, -List.getD_eq_getElem?_getD, -BitVec.toNat_or, -BitVec.toNat_xor, wV, wB_some, wDB_some, wCond_bool, wG_bool, wG_tup, vSeq_normal, vSeq_ret, vSeq_exit, vSeq_panic, vBlock_normal, vBlock_ret, vBlock_exit, vBlock_panic, vEnd_normal, vEnd_ret, endOK, evE_cst, hBox, hFbox, hAlloc, hPick, hLoad, hStore, hNil, hBin, hNilEq, hNilEq2, hUn, hConv, hFa, hIaA, hIaS, hExtract, hLen, hApp, hMkfn, hMkif, hNilrow, hSlc, hFld, hIx, hBsl0, hB2s, hS2b, hClr, sIx, sSl, sBin, sLo, sHi, binAV, intBin, intShift, unAV, extractAV, iaA, iaS, oneSeg, andThen, liveP, live, loadAV, storeAV, AV.segs, AV.pur, pickAt, cellAt, subAt, setAt, Seg.at_, Seg.set_, AV.unfz, AV.one, lenAV, contents, appAV, segsApp, b2sAV, faAV, fldAV, ixAV, enumE, look_hit, look_miss, look_nil, fBit, fBit_R0, fBit_R1, fBit_res, e1, e2]
  simp (disch := omega) [wB_some, vEnd_ret, fBit_res, endOK, wrap_u8, wrap_i64, e4, e6, IntKind.bits, e5, show ¬ ((c : Int) % 64 < 0) by omega]

/-- A set of bytes. -/
def setA (s : List Nat) : AV := .agg [.ints .u64 4 (s.map fun x => ((x : Nat) : Int))]

theorem getD_cast (s : List Nat) (j : Nat) : (s.map fun x => ((x : Nat) : Int)).getD j 0 = ((s.getD j 0 : Nat) : Int) := by
  simp only [List.getD, List.getElem?_map]
  cases s[j]? <;> rfl

/-- Has a set a byte? -/
def hasN (s : List Nat) (c : Nat) : Bool := (s.getD (c / 64) 0).testBit (c % 64)

def okSet (s : List Nat) : Prop := s.length = 4 ∧ ∀ j, s.getD j 0 < 18446744073709551616

theorem okSet.take {s : List Nat} (h : okSet s) : List.take 4 (s.map fun x => ((x : Nat) : Int)) = s.map fun x => ((x : Nat) : Int) := List.take_of_length_le (by simp [h.1])

theorem and_two (x k : Nat) (hx : x < 18446744073709551616) (hk : k < 64) : (IntKind.u64.wrap ((BitVec.ofInt IntKind.u64.bits ((x : Nat) : Int) &&& BitVec.ofInt IntKind.u64.bits ((2 ^ k : Nat) : Int)).toNat : Nat) != 0) = x.testBit k := by
  have h2 : 2 ^ k < 18446744073709551616 := by
    calc 2 ^ k < 2 ^ 64 := Nat.pow_lt_pow_right (by omega) hk
      _ = _ := by decide
  have e1 : (BitVec.ofInt IntKind.u64.bits ((x : Nat) : Int) &&& BitVec.ofInt IntKind.u64.bits ((2 ^ k : Nat) : Int)).toNat = x &&& 2 ^ k := by
    rw [BitVec.toNat_and]
    simp only [BitVec.ofInt_natCast, BitVec.toNat_ofNat, IntKind.bits]
    rw [Nat.mod_eq_of_lt (by simpa using hx), Nat.mod_eq_of_lt (by simpa using h2)]
  have e2 : x &&& 2 ^ k = if x.testBit k then 2 ^ k else 0 := by
    apply Nat.eq_of_testBit_eq
    intro i
    rw [Nat.testBit_and, Nat.testBit_two_pow]
    by_cases hi : k = i
    · subst hi
      cases h : x.testBit k <;> simp [h]
    · cases h : x.testBit k <;> simp [hi, Nat.testBit_two_pow]
  rw [e1, e2]
  cases h : x.testBit k
  · rfl
  · simp only [if_true]
    rw [wrap_u64 (Int.natCast_nonneg _) (Int.ofNat_lt.mpr h2)]
    have : 0 < 2 ^ k := Nat.two_pow_pos k
    simp only [bne_iff_ne, ne_eq]
    omega

theorem has_ok (s : List Nat) (hs : okSet s) (c : Nat) (h : c < 256) (rows : List Row) : Ev Try.prog [] (.call 54 [setA s, .c (.int .u8 c)] rows (.ret (.c (.bool (hasN s c))) rows)) := by
  refine fnV_same (V := fHas_V) mixed fHas_ok rfl (by kernel_rfl) (fHas_in _ _) ?_
  simp [-BitVec.toNat_and, -BitVec.ofInt_natCast, -List.getD_eq_getElem?_getD, -BitVec.toNat_or, -BitVec.toNat_xor, wV, wB_some, wDB_some, wCond_bool, wG_bool, wG_tup, vSeq_normal, vSeq_ret, vSeq_exit, vSeq_panic, vBlock_normal, vBlock_ret, vBlock_exit, vBlock_panic, vEnd_normal, vEnd_ret, endOK, evE_cst, hBox, hFbox, hAlloc, hPick, hLoad, hStore, hNil, hBin, hNilEq, hNilEq2, hUn, hConv, hFa, hIaA, hIaS, hExtract, hLen, hApp, hMkfn, hMkif, hNilrow, hSlc, hFld, hIx, hBsl0, hB2s, hS2b, hClr, sIx, sSl, sBin, sLo, sHi, binAV, intBin, intShift, unAV, extractAV, iaA, iaS, oneSeg, andThen, liveP, live, loadAV, storeAV, AV.segs, AV.pur, pickAt, cellAt, subAt, setAt, Seg.at_, Seg.set_, AV.unfz, AV.one, lenAV, contents, appAV, segsApp, b2sAV, faAV, fldAV, ixAV, enumE, look_hit, look_miss, look_nil, fHas, fHas_R0, fHas_R1, fHas_R2, fHas_res, setA]
  refine wCall_ret (bit_ok c h rows) ?_
  have h4 : c / 64 < 4 := by omega
  have e1 : ((c : Int) / 64).toNat = c / 64 := by omega
  simp [-BitVec.toNat_and, -BitVec.ofInt_natCast, -List.getD_eq_getElem?_getD, -BitVec.toNat_or, -BitVec.toNat_xor, wV, wB_some, wDB_some, wCond_bool, wG_bool, wG_tup, vSeq_normal, vSeq_ret, vSeq_exit, vSeq_panic, vBlock_normal, vBlock_ret, vBlock_exit, vBlock_panic, vEnd_normal, vEnd_ret, endOK, evE_cst, hBox, hFbox, hAlloc, hPick, hLoad, hStore, hNil, hBin, hNilEq, hNilEq2, hUn, hConv, hFa, hIaA, hIaS, hExtract, hLen, hApp, hMkfn, hMkif, hNilrow, hSlc, hFld, hIx, hBsl0, hB2s, hS2b, hClr, sIx, sSl, sBin, sLo, sHi, binAV, intBin, intShift, unAV, extractAV, iaA, iaS, oneSeg, andThen, liveP, live, loadAV, storeAV, AV.segs, AV.pur, pickAt, cellAt, subAt, setAt, Seg.at_, Seg.set_, AV.unfz, AV.one, lenAV, contents, appAV, segsApp, b2sAV, faAV, fldAV, ixAV, enumE, look_hit, look_miss, look_nil, fHas_R0, fHas_R1, fHas_R2, fHas_res, e1, getD_cast]
  refine ⟨by omega, by omega, ?_⟩
  have := and_two (s.getD (c / 64) 0) (c % 64) (hs.2 _) (by omega)
  push_cast at this
  exact this.symm

/-- A text's byte in a set, as the document halves. -/

theorem in_loop (c : Nat) (h : c < 256) {np : Nat} {rows : List Row} {K : Kon} {x0 x2 x4 : AV} : ∀ (d i w : Nat) (x14 : AV), i + d = c % 64 → w < 18446744073709551616 →
    (∀ x6 x14, K (.exit 0) [x0, .c (.int .u8 c), x2, x4, .c (.int .u64 ((w / 2 ^ d : Nat) : Int)), x6, x14] rows) →
    SV Try.prog [] 22 np [] fIn_V fIn_L0 [x0, .c (.int .u8 c), x2, x4, .c (.int .u64 (w : Int)), .c (.int .u8 (i : Int)), x14] rows K := by
  intro d
  induction d with
  | zero =>
    intro i w x14 hi hw hK
    refine SV_rec (c := fIn_L0) (a := fIn_l0) rfl mixed (by kernel_rfl) (by kernel_rfl) rfl ?_
    simp [-BitVec.toNat_and, -BitVec.ofInt_natCast, -List.getD_eq_getElem?_getD, -BitVec.toNat_or, -BitVec.toNat_xor, wV, wB_some, wDB_some, wCond_bool, wG_bool, wG_tup, vSeq_normal, vSeq_ret, vSeq_exit, vSeq_panic, vBlock_normal, vBlock_ret, vBlock_exit, vBlock_panic, vEnd_normal, vEnd_ret, endOK, evE_cst, hBox, hFbox, hAlloc, hPick, hLoad, hStore, hNil, hBin, hNilEq, hNilEq2, hUn, hConv, hFa, hIaA, hIaS, hExtract, hLen, hApp, hMkfn, hMkif, hNilrow, hSlc, hFld, hIx, hBsl0, hB2s, hS2b, hClr, sIx, sSl, sBin, sLo, sHi, binAV, intBin, intShift, unAV, extractAV, iaA, iaS, oneSeg, andThen, liveP, live, loadAV, storeAV, AV.segs, AV.pur, pickAt, cellAt, subAt, setAt, Seg.at_, Seg.set_, AV.unfz, AV.one, lenAV, contents, appAV, segsApp, b2sAV, faAV, fldAV, ixAV, enumE, look_hit, look_miss, look_nil, fIn_l0, fIn_R0, fIn_R1, fIn_R2, fIn_R3, fIn_R4, fIn_R5, fIn_R6, fIn_W0, fIn_E14, fIn_res, tmod_64]
    refine ⟨fun h => by omega, fun h => ?_⟩
    simpa using hK _ _
  | succ d ih =>
    intro i w x14 hi hw hK
    refine SV_rec (c := fIn_L0) (a := fIn_l0) rfl mixed (by kernel_rfl) (by kernel_rfl) rfl ?_
    simp [-BitVec.toNat_and, -BitVec.ofInt_natCast, -List.getD_eq_getElem?_getD, -BitVec.toNat_or, -BitVec.toNat_xor, wV, wB_some, wDB_some, wCond_bool, wG_bool, wG_tup, vSeq_normal, vSeq_ret, vSeq_exit, vSeq_panic, vBlock_normal, vBlock_ret, vBlock_exit, vBlock_panic, vEnd_normal, vEnd_ret, endOK, evE_cst, hBox, hFbox, hAlloc, hPick, hLoad, hStore, hNil, hBin, hNilEq, hNilEq2, hUn, hConv, hFa, hIaA, hIaS, hExtract, hLen, hApp, hMkfn, hMkif, hNilrow, hSlc, hFld, hIx, hBsl0, hB2s, hS2b, hClr, sIx, sSl, sBin, sLo, sHi, binAV, intBin, intShift, unAV, extractAV, iaA, iaS, oneSeg, andThen, liveP, live, loadAV, storeAV, AV.segs, AV.pur, pickAt, cellAt, subAt, setAt, Seg.at_, Seg.set_, AV.unfz, AV.one, lenAV, contents, appAV, segsApp, b2sAV, faAV, fldAV, ixAV, enumE, look_hit, look_miss, look_nil, fIn_l0, fIn_R0, fIn_R1, fIn_R2, fIn_R3, fIn_R4, fIn_R5, fIn_R6, fIn_W0, fIn_E14, fIn_res, tmod_64, tdiv_2]
    refine ⟨fun h => ?_, fun h => by omega⟩
    have e1 : IntKind.u64.wrap ((w : Int) / 2) = ((w / 2 : Nat) : Int) := by rw [show (w : Int) / 2 = ((w / 2 : Nat) : Int) by omega]; exact wrap_u64 (by omega) (by omega)
    have e2 : IntKind.u8.wrap ((i : Int) + 1) = ((i + 1 : Nat) : Int) := by rw [show (i : Int) + 1 = ((i + 1 : Nat) : Int) by omega]; exact wrap_u8 (by omega) (by omega)
    rw [e1, e2]
    refine ih (i + 1) (w / 2) _ (by omega) (by omega) fun x6 x14 => ?_
    have := hK x6 x14
    rwa [Nat.pow_succ', ← Nat.div_div_eq_div_mul] at this

theorem in_ok (s : List Nat) (hs : okSet s) (c : Nat) (h : c < 256) (rows : List Row) : Ev Try.prog [] (.call 92 [setA s, .c (.int .u8 c)] rows (.ret (.c (.bool (hasN s c))) rows)) := by
  refine fnV_same (V := fIn_V) mixed fIn_ok rfl (by kernel_rfl) (fIn_in _ _) ?_
  have h4 : c / 64 < 4 := by omega
  have e1 : ((c : Int) / 64).toNat = c / 64 := by omega
  have e0 : IntKind.u8.wrap ((c : Int) / 64) = ((c / 64 : Nat) : Int) := by rw [show (c : Int) / 64 = ((c / 64 : Nat) : Int) by omega]; exact wrap_u8 (by omega) (by omega)
  simp [-BitVec.toNat_and, -BitVec.ofInt_natCast, -List.getD_eq_getElem?_getD, -BitVec.toNat_or, -BitVec.toNat_xor, wV, wB_some, wDB_some, wCond_bool, wG_bool, wG_tup, vSeq_normal, vSeq_ret, vSeq_exit, vSeq_panic, vBlock_normal, vBlock_ret, vBlock_exit, vBlock_panic, vEnd_normal, vEnd_ret, endOK, evE_cst, hBox, hFbox, hAlloc, hPick, hLoad, hStore, hNil, hBin, hNilEq, hNilEq2, hUn, hConv, hFa, hIaA, hIaS, hExtract, hLen, hApp, hMkfn, hMkif, hNilrow, hSlc, hFld, hIx, hBsl0, hB2s, hS2b, hClr, sIx, sSl, sBin, sLo, sHi, binAV, intBin, intShift, unAV, extractAV, iaA, iaS, oneSeg, andThen, liveP, live, loadAV, storeAV, AV.segs, AV.pur, pickAt, cellAt, subAt, setAt, Seg.at_, Seg.set_, AV.unfz, AV.one, lenAV, contents, appAV, segsApp, b2sAV, faAV, fldAV, ixAV, enumE, look_hit, look_miss, look_nil, fIn, fIn_R0, fIn_R1, fIn_R2, fIn_R3, fIn_R4, fIn_R5, fIn_R6, fIn_W0, fIn_E14, fIn_res, setA, tdiv_64, e0, e1, getD_cast]
  refine ⟨by omega, by omega, ?_⟩
  refine in_loop c h (c % 64) 0 _ _ (by omega) (hs.2 _) fun x6 x14 => ?_
  simp [-BitVec.toNat_and, -BitVec.ofInt_natCast, -List.getD_eq_getElem?_getD, -BitVec.toNat_or, -BitVec.toNat_xor, wV, wB_some, wDB_some, wCond_bool, wG_bool, wG_tup, vSeq_normal, vSeq_ret, vSeq_exit, vSeq_panic, vBlock_normal, vBlock_ret, vBlock_exit, vBlock_panic, vEnd_normal, vEnd_ret, endOK, evE_cst, hBox, hFbox, hAlloc, hPick, hLoad, hStore, hNil, hBin, hNilEq, hNilEq2, hUn, hConv, hFa, hIaA, hIaS, hExtract, hLen, hApp, hMkfn, hMkif, hNilrow, hSlc, hFld, hIx, hBsl0, hB2s, hS2b, hClr, sIx, sSl, sBin, sLo, sHi, binAV, intBin, intShift, unAV, extractAV, iaA, iaS, oneSeg, andThen, liveP, live, loadAV, storeAV, AV.segs, AV.pur, pickAt, cellAt, subAt, setAt, Seg.at_, Seg.set_, AV.unfz, AV.one, lenAV, contents, appAV, segsApp, b2sAV, faAV, fldAV, ixAV, enumE, look_hit, look_miss, look_nil, fIn_R0, fIn_R1, fIn_R2, fIn_R3, fIn_R4, fIn_R5, fIn_R6, fIn_W0, fIn_E14, fIn_res, tmod_2]
  have e9 : ((s.getD (c / 64) 0 : Nat) : Int) / 2 ^ (c % 64) = ((s.getD (c / 64) 0 / 2 ^ (c % 64) : Nat) : Int) := by push_cast; rfl
  rw [e9, tmod_2, hasN, Nat.testBit_eq_decide_div_mod_eq]
  generalize s.getD (c / 64) 0 / 2 ^ (c % 64) = y
  rw [Bool.eq_iff_iff]
  simp only [decide_eq_true_eq, beq_iff_eq]
  omega

end Go.Proofs.Ytfcfdedbbhdioaa.AI
