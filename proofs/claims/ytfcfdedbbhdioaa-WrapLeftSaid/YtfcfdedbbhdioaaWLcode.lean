/- The code of some functions, printed by a program of this session. -/
import Derived.Test.YtfcfdedbbhdioaaAiS5
import Derived.Test.YtfcfdedbbhdioaaProg
namespace Go.Proofs.Ytfcfdedbbhdioaa.AI
open Go
set_option linter.unusedVariables false
set_option maxRecDepth 100000
noncomputable section

/- shibboleth/octets.bit -/
def fBit_V : List Nat := [0, 2, 3]
def fBit_r0 : List AOper := [
  ⟨(some 2), none, (.op (.mv (.cst (.int .i64 (0))))), [], 0, []⟩,
  ⟨(some 3), none, (.op (.mv (.cst (.int .u64 (0))))), [0], 0, []⟩]
def fBit_r1 : List AOper := [
  ⟨(some 4), none, (.op (.mv (.tm 0))), [], 0, []⟩,
  ⟨(some 5), none, (.op (.bin .quo (.tm 4) (.cst (.int .u8 (64))))), [0], 0, []⟩,
  ⟨(some 6), none, (.op (.conv .i64 (.tm 5))), [1], 0, []⟩,
  ⟨(some 7), none, (.op (.mv (.tm 0))), [], 0, []⟩,
  ⟨(some 8), none, (.op (.bin .rem (.tm 7) (.cst (.int .u8 (64))))), [3], 0, []⟩,
  ⟨(some 9), none, (.op (.bin .shl (.cst (.int .u64 (1))) (.tm 8))), [4], 0, []⟩,
  ⟨(some 2), none, (.op (.mv (.tm 6))), [2, 0, 1, 2], 0, []⟩,
  ⟨(some 3), none, (.op (.mv (.tm 9))), [5, 6, 0, 1, 2, 3, 4, 5, 6], 0, []⟩]
def fBit : AFn := { ntmps := 10, results := [.tm 2, .tm 3], code :=
  (.seq (.reg false fBit_r0)
  (.seq (.reg false fBit_r1)
  .ret)) }
theorem fBit_R0 (G : List (Nat × Obj)) (x0 x2 x3 : AV) (rows : List Row) (K : Kon) : wReg Try.prog G fBit_V false fBit_r0 [x0, x2, x3] rows K =
   (K .normal [x0, (AV.c (.int .i64 (0))), (AV.c (.int .u64 (0)))] rows) := by kernel_rfl
theorem fBit_R1 (G : List (Nat × Obj)) (x0 x2 x3 : AV) (rows : List Row) (K : Kon) : wReg Try.prog G fBit_V false fBit_r1 [x0, x2, x3] rows K =
   (wB (hBin .quo x0 (AV.c (.int .u8 (64))) rows) fun t5_0 r0 =>
    wB (hConv .i64 t5_0 r0) fun t6_1 r1 =>
    wB (hBin .rem x0 (AV.c (.int .u8 (64))) r1) fun t8_2 r2 =>
    wB (hBin .shl (AV.c (.int .u64 (1))) t8_2 r2) fun t9_3 r3 =>
    K .normal [x0, t6_1, t9_3] r3) := by kernel_rfl
theorem fBit_in (a0 : AV) : fBit_V.map (look (enumE 0 [a0])) = [a0, AV.junk, AV.junk] := by kernel_rfl
theorem fBit_res (x0 x2 x3 : AV) (rows : List Row) : wRes (fBit_V.zip [x0, x2, x3]) rows [.tm 2, .tm 3] = some (.tup [x2, x3]) := rfl
/- shibboleth/octets.Has -/
def fHas_V : List Nat := [0, 1, 2, 4, 5, 6]
def fHas_r0 : List AOper := [
  ⟨(some 2), none, (.op (.fbox (.tm 0))), [], 0, []⟩,
  ⟨(some 4), none, (.op (.mv (.cst (.bool false)))), [], 0, []⟩]
def fHas_r1 : List AOper := [
  ⟨(some 8), none, (.op (.mv (.tm 1))), [], 0, []⟩,
  ⟨(some 9), none, (.call 93 [(.tm 8)]), [0], 0, []⟩,
  ⟨(some 7), none, (.op (.mv (.tm 9))), [1], 0, []⟩,
  ⟨(some 10), none, (.op (.extract 0 (.tm 7))), [2], 0, []⟩,
  ⟨(some 11), none, (.op (.extract 1 (.tm 7))), [2], 0, []⟩,
  ⟨(some 5), none, (.op (.mv (.tm 10))), [3, 1, 0, 1, 2, 3], 0, []⟩,
  ⟨(some 6), none, (.op (.mv (.tm 11))), [4, 5, 0, 1, 2, 3, 4, 5], 0, []⟩]
def fHas_r2 : List AOper := [
  ⟨(some 12), none, (.op (.mv (.tm 5))), [], 0, []⟩,
  ⟨(some 13), none, (.op (.iaA 4 1 (.tm 2) (.tm 12))), [0], 0, []⟩,
  ⟨(some 14), none, (.op (.load false 1 (.tm 13))), [1], 0, []⟩,
  ⟨(some 15), none, (.op (.mv (.tm 6))), [], 0, []⟩,
  ⟨(some 16), none, (.op (.bin .and (.tm 14) (.tm 15))), [2, 3], 0, []⟩,
  ⟨(some 17), none, (.op (.bin .neq (.tm 16) (.cst (.int .u64 (0))))), [4], 0, []⟩,
  ⟨(some 4), none, (.op (.mv (.tm 17))), [5, 0, 1, 2, 3, 4, 5], 0, []⟩]
def fHas : AFn := { ntmps := 18, results := [.tm 4], code :=
  (.seq (.reg false fHas_r0)
  (.seq (.reg false fHas_r1)
  (.seq (.reg false fHas_r2)
  .ret))) }
theorem fHas_R0 (G : List (Nat × Obj)) (x0 x1 x2 x4 x5 x6 : AV) (rows : List Row) (K : Kon) : wReg Try.prog G fHas_V false fHas_r0 [x0, x1, x2, x4, x5, x6] rows K =
   (wB (hFbox x0 rows) fun t2_0 r0 =>
    K .normal [x0, x1, t2_0, (AV.c (.bool false)), x5, x6] r0) := by kernel_rfl
theorem fHas_R1 (G : List (Nat × Obj)) (x0 x1 x2 x4 x5 x6 : AV) (rows : List Row) (K : Kon) : wReg Try.prog G fHas_V false fHas_r1 [x0, x1, x2, x4, x5, x6] rows K =
   (wCall Try.prog G 93 [x1] rows (fun t9_0 r0 =>
    wB (hExtract 0 t9_0 r0) fun t10_1 r1 =>
    wB (hExtract 1 t9_0 r1) fun t11_2 r2 =>
    K .normal [x0, x1, x2, x4, t10_1, t11_2] r2) (fun ex0 q0 => K ex0 [x0, x1, x2, x4, x5, x6] q0)) := by kernel_rfl
theorem fHas_R2 (G : List (Nat × Obj)) (x0 x1 x2 x4 x5 x6 : AV) (rows : List Row) (K : Kon) : wReg Try.prog G fHas_V false fHas_r2 [x0, x1, x2, x4, x5, x6] rows K =
   (wB (hIaA 4 1 x2 x5 rows) fun t13_0 r0 =>
    wB (hLoad false 1 t13_0 r0) fun t14_1 r1 =>
    wB (hBin .and t14_1 x6 r1) fun t16_2 r2 =>
    wB (hBin .neq t16_2 (AV.c (.int .u64 (0))) r2) fun t17_3 r3 =>
    K .normal [x0, x1, x2, t17_3, x5, x6] r3) := by kernel_rfl
theorem fHas_in (a0 a1 : AV) : fHas_V.map (look (enumE 0 [a0, a1])) = [a0, a1, AV.junk, AV.junk, AV.junk, AV.junk] := by kernel_rfl
theorem fHas_res (x0 x1 x2 x4 x5 x6 : AV) (rows : List Row) : wRes (fHas_V.zip [x0, x1, x2, x4, x5, x6]) rows [.tm 4] = some x4 := rfl
/- shibboleth/shibbolethref10.In -/
def fIn_V : List Nat := [0, 1, 2, 4, 5, 6, 14]
def fIn_r0 : List AOper := [
  ⟨(some 2), none, (.op (.fbox (.tm 0))), [], 0, []⟩,
  ⟨(some 4), none, (.op (.mv (.cst (.bool false)))), [], 0, []⟩]
def fIn_r1 : List AOper := [
  ⟨(some 7), none, (.op (.mv (.tm 1))), [], 0, []⟩,
  ⟨(some 8), none, (.op (.bin .quo (.tm 7) (.cst (.int .u8 (64))))), [0], 0, []⟩,
  ⟨(some 9), none, (.op (.iaA 4 1 (.tm 2) (.tm 8))), [1], 0, []⟩,
  ⟨(some 10), none, (.op (.load false 1 (.tm 9))), [2], 0, []⟩,
  ⟨(some 5), none, (.op (.mv (.tm 10))), [3, 0, 1, 2, 3], 0, []⟩]
def fIn_r2 : List AOper := [
  ⟨(some 6), none, (.op (.mv (.cst (.int .u8 (0))))), [], 0, []⟩]
def fIn_r3 : List AOper := [
  ⟨(some 11), none, (.op (.mv (.tm 6))), [], 0, []⟩,
  ⟨(some 12), none, (.op (.mv (.tm 1))), [], 0, []⟩,
  ⟨(some 13), none, (.op (.bin .rem (.tm 12) (.cst (.int .u8 (64))))), [1], 0, []⟩,
  ⟨(some 14), none, (.op (.bin .lss (.tm 11) (.tm 13))), [0, 2], 0, []⟩]
def fIn_r4 : List AOper := [
  ⟨(some 17), none, (.op (.mv (.tm 5))), [], 0, []⟩,
  ⟨(some 18), none, (.op (.bin .quo (.tm 17) (.cst (.int .u64 (2))))), [0], 0, []⟩,
  ⟨(some 5), none, (.op (.mv (.tm 18))), [1, 0, 1], 0, []⟩]
def fIn_r5 : List AOper := [
  ⟨(some 15), none, (.op (.mv (.tm 6))), [], 0, []⟩,
  ⟨(some 16), none, (.op (.bin .add (.tm 15) (.cst (.int .u8 (1))))), [0], 0, []⟩,
  ⟨(some 6), none, (.op (.mv (.tm 16))), [1, 0, 1], 0, []⟩]
def fIn_l0 : ACode :=
  (.seq (.seq (.reg false fIn_r3)
  (.cond (.tm 14)
   .skip
   (.exit 0)))
  (.seq (.block 1 (.reg false fIn_r4))
  (.reg false fIn_r5)))
def fIn_L0 : ACode := .loop none fIn_l0
def fIn_r6 : List AOper := [
  ⟨(some 19), none, (.op (.mv (.tm 5))), [], 0, []⟩,
  ⟨(some 20), none, (.op (.bin .rem (.tm 19) (.cst (.int .u64 (2))))), [0], 0, []⟩,
  ⟨(some 21), none, (.op (.bin .eql (.tm 20) (.cst (.int .u64 (1))))), [1], 0, []⟩,
  ⟨(some 4), none, (.op (.mv (.tm 21))), [2, 0, 1, 2], 0, []⟩]
def fIn : AFn := { ntmps := 22, results := [.tm 4], code :=
  (.seq (.reg false fIn_r0)
  (.seq (.reg false fIn_r1)
  (.seq (.seq (.reg false fIn_r2)
  (.block 0 fIn_L0))
  (.seq (.reg false fIn_r6)
  .ret)))) }
theorem fIn_R0 (G : List (Nat × Obj)) (x0 x1 x2 x4 x5 x6 x14 : AV) (rows : List Row) (K : Kon) : wReg Try.prog G fIn_V false fIn_r0 [x0, x1, x2, x4, x5, x6, x14] rows K =
   (wB (hFbox x0 rows) fun t2_0 r0 =>
    K .normal [x0, x1, t2_0, (AV.c (.bool false)), x5, x6, x14] r0) := by kernel_rfl
theorem fIn_R1 (G : List (Nat × Obj)) (x0 x1 x2 x4 x5 x6 x14 : AV) (rows : List Row) (K : Kon) : wReg Try.prog G fIn_V false fIn_r1 [x0, x1, x2, x4, x5, x6, x14] rows K =
   (wB (hBin .quo x1 (AV.c (.int .u8 (64))) rows) fun t8_0 r0 =>
    wB (hIaA 4 1 x2 t8_0 r0) fun t9_1 r1 =>
    wB (hLoad false 1 t9_1 r1) fun t10_2 r2 =>
    K .normal [x0, x1, x2, x4, t10_2, x6, x14] r2) := by kernel_rfl
theorem fIn_R2 (G : List (Nat × Obj)) (x0 x1 x2 x4 x5 x6 x14 : AV) (rows : List Row) (K : Kon) : wReg Try.prog G fIn_V false fIn_r2 [x0, x1, x2, x4, x5, x6, x14] rows K =
   (K .normal [x0, x1, x2, x4, x5, (AV.c (.int .u8 (0))), x14] rows) := by kernel_rfl
theorem fIn_R3 (G : List (Nat × Obj)) (x0 x1 x2 x4 x5 x6 x14 : AV) (rows : List Row) (K : Kon) : wReg Try.prog G fIn_V false fIn_r3 [x0, x1, x2, x4, x5, x6, x14] rows K =
   (wB (hBin .rem x1 (AV.c (.int .u8 (64))) rows) fun t13_0 r0 =>
    wB (hBin .lss x6 t13_0 r0) fun t14_1 r1 =>
    K .normal [x0, x1, x2, x4, x5, x6, t14_1] r1) := by kernel_rfl
theorem fIn_R4 (G : List (Nat × Obj)) (x0 x1 x2 x4 x5 x6 x14 : AV) (rows : List Row) (K : Kon) : wReg Try.prog G fIn_V false fIn_r4 [x0, x1, x2, x4, x5, x6, x14] rows K =
   (wB (hBin .quo x5 (AV.c (.int .u64 (2))) rows) fun t18_0 r0 =>
    K .normal [x0, x1, x2, x4, t18_0, x6, x14] r0) := by kernel_rfl
theorem fIn_R5 (G : List (Nat × Obj)) (x0 x1 x2 x4 x5 x6 x14 : AV) (rows : List Row) (K : Kon) : wReg Try.prog G fIn_V false fIn_r5 [x0, x1, x2, x4, x5, x6, x14] rows K =
   (wB (hBin .add x6 (AV.c (.int .u8 (1))) rows) fun t16_0 r0 =>
    K .normal [x0, x1, x2, x4, x5, t16_0, x14] r0) := by kernel_rfl
theorem fIn_W0 (G : List (Nat × Obj)) (n np : Nat) (ds : List (FuncId × List AV)) (vs : List AV) (rows : List Row) (K : Kon) : wV Try.prog G n np ds fIn_V fIn_L0 vs rows K = SV Try.prog G n np ds fIn_V fIn_L0 vs rows K := rfl
theorem fIn_R6 (G : List (Nat × Obj)) (x0 x1 x2 x4 x5 x6 x14 : AV) (rows : List Row) (K : Kon) : wReg Try.prog G fIn_V false fIn_r6 [x0, x1, x2, x4, x5, x6, x14] rows K =
   (wB (hBin .rem x5 (AV.c (.int .u64 (2))) rows) fun t20_0 r0 =>
    wB (hBin .eql t20_0 (AV.c (.int .u64 (1))) r0) fun t21_1 r1 =>
    K .normal [x0, x1, x2, t21_1, x5, x6, x14] r1) := by kernel_rfl
theorem fIn_E14 (x0 x1 x2 x4 x5 x6 x14 : AV) : evE (fIn_V.zip [x0, x1, x2, x4, x5, x6, x14]) (.tm 14) = x14 := rfl
theorem fIn_in (a0 a1 : AV) : fIn_V.map (look (enumE 0 [a0, a1])) = [a0, a1, AV.junk, AV.junk, AV.junk, AV.junk, AV.junk] := by kernel_rfl
theorem fIn_res (x0 x1 x2 x4 x5 x6 x14 : AV) (rows : List Row) : wRes (fIn_V.zip [x0, x1, x2, x4, x5, x6, x14]) rows [.tm 4] = some x4 := rfl
/- shibboleth/wrap.Left -/
def fLeft_V : List Nat := [0, 1, 2, 3, 5, 6, 7, 8, 9, 10, 18, 31, 38, 39, 40, 47]
def fLeft_r0 : List AOper := [
  ⟨(some 5), none, (.op (.fbox (.tm 1))), [], 0, []⟩,
  ⟨(some 6), none, (.op (.fbox (.tm 2))), [], 0, []⟩,
  ⟨(some 7), none, (.op (.fbox (.tm 3))), [], 0, []⟩,
  ⟨(some 8), none, (.op (.mv (.cst (.string ⟨#[]⟩)))), [], 0, []⟩]
def fLeft_r1 : List AOper := [
  ⟨(some 11), none, (.op (.mv (.tm 0))), [], 3, []⟩,
  ⟨(some 12), none, (.op (.pure ⟨none, (.binOp .neq 9 (.tmp 11) (.const (.string ⟨#[]⟩)) 9), 4, "", #[], none⟩)), [0], 3, []⟩,
  ⟨(some 13), none, (.op (.mv (.tm 12))), [1], 3, []⟩,
  ⟨(some 14), (some (13, true)), (.op (.load true 4 (.tm 5))), [2], 3, []⟩,
  ⟨(some 15), (some (13, true)), (.op (.mv (.tm 0))), [2], 3, []⟩,
  ⟨(some 16), (some (13, true)), (.op (.pure ⟨none, (.index 9 (.tmp 15) (.const (.int .i64 (0)))), 5, "", #[], none⟩)), [4, 2], 3, []⟩,
  ⟨(some 17), (some (13, true)), (.call 54 [(.tm 14), (.tm 16)]), [3, 5, 2, 2], 1, []⟩,
  ⟨(some 18), none, (.op (.pick (.tm 13) (.tm 17) (.cst (.bool false)))), [2, 6], 3, []⟩]
def fLeft_r2 : List AOper := [
  ⟨(some 19), none, (.op (.mv (.tm 0))), [], 0, []⟩,
  ⟨(some 20), none, (.op (.pure ⟨none, (.slice 9 (.tmp 19) (some (.const (.int .i64 (1)))) none none), 9, "", #[], none⟩)), [0], 0, []⟩,
  ⟨(some 0), none, (.op (.mv (.tm 20))), [1, 0, 1], 0, []⟩]
def fLeft_l0 : ACode :=
  (.seq (.seq (.reg true fLeft_r1)
  (.cond (.tm 18)
   .skip
   (.exit 0)))
  (.block 1 (.reg false fLeft_r2)))
def fLeft_L0 : ACode := .loop none fLeft_l0
def fLeft_r3 : List AOper := [
  ⟨(some 21), none, (.op (.mv (.tm 0))), [], 3, []⟩,
  ⟨(some 22), none, (.op (.pure ⟨none, (.binOp .neq 9 (.tmp 21) (.const (.string ⟨#[]⟩)) 9), 4, "", #[], none⟩)), [0], 3, []⟩,
  ⟨(some 23), none, (.op (.mv (.tm 22))), [1], 3, []⟩,
  ⟨(some 24), (some (23, true)), (.op (.load true 4 (.tm 6))), [2], 3, []⟩,
  ⟨(some 25), (some (23, true)), (.op (.mv (.tm 0))), [2], 3, []⟩,
  ⟨(some 26), (some (23, true)), (.op (.mv (.tm 0))), [2], 3, []⟩,
  ⟨(some 27), (some (23, true)), (.op (.len true (.tm 26))), [5, 2], 3, []⟩,
  ⟨(some 28), (some (23, true)), (.op (.bin .sub (.tm 27) (.cst (.int .i64 (1))))), [6, 2], 3, []⟩,
  ⟨(some 29), (some (23, true)), (.op (.pure ⟨none, (.index 9 (.tmp 25) (.tmp 28)), 5, "", #[], none⟩)), [4, 7, 2], 3, []⟩,
  ⟨(some 30), (some (23, true)), (.call 54 [(.tm 24), (.tm 29)]), [3, 8, 2, 2], 1, []⟩,
  ⟨(some 31), none, (.op (.pick (.tm 23) (.tm 30) (.cst (.bool false)))), [2, 9], 3, []⟩]
def fLeft_r4 : List AOper := [
  ⟨(some 32), none, (.op (.mv (.tm 0))), [], 0, []⟩,
  ⟨(some 33), none, (.op (.mv (.tm 0))), [], 0, []⟩,
  ⟨(some 34), none, (.op (.len true (.tm 33))), [1], 0, []⟩,
  ⟨(some 35), none, (.op (.bin .sub (.tm 34) (.cst (.int .i64 (1))))), [2], 0, []⟩,
  ⟨(some 36), none, (.op (.pure ⟨none, (.slice 9 (.tmp 32) none (some (.tmp 35)) none), 9, "", #[], none⟩)), [0, 3], 0, []⟩,
  ⟨(some 0), none, (.op (.mv (.tm 36))), [4, 0, 1, 2, 3, 4], 0, []⟩]
def fLeft_l1 : ACode :=
  (.seq (.seq (.reg true fLeft_r3)
  (.cond (.tm 31)
   .skip
   (.exit 2)))
  (.block 3 (.reg false fLeft_r4)))
def fLeft_L1 : ACode := .loop none fLeft_l1
def fLeft_r5 : List AOper := [
  ⟨(some 9), none, (.op (.mv (.cst (.slice none 0 0)))), [], 0, []⟩]
def fLeft_r6 : List AOper := [
  ⟨(some 37), none, (.op (.mv (.tm 0))), [], 0, []⟩,
  ⟨(some 38), none, (.op (.len true (.tm 37))), [0], 0, []⟩,
  ⟨(some 39), none, (.op (.mv (.cst (.int .i64 (0))))), [], 0, []⟩]
def fLeft_r7 : List AOper := [
  ⟨(some 40), none, (.op (.bin .lss (.tm 39) (.tm 38))), [], 0, []⟩]
def fLeft_r8 : List AOper := [
  ⟨(some 41), none, (.op (.mv (.tm 39))), [], 0, []⟩,
  ⟨(some 10), none, (.op (.mv (.tm 41))), [0, 0], 0, []⟩]
def fLeft_r9 : List AOper := [
  ⟨(some 42), none, (.op (.load true 4 (.tm 7))), [], 3, []⟩,
  ⟨(some 43), none, (.op (.mv (.tm 0))), [], 3, []⟩,
  ⟨(some 44), none, (.op (.mv (.tm 10))), [], 3, []⟩,
  ⟨(some 45), none, (.op (.pure ⟨none, (.index 9 (.tmp 43) (.tmp 44)), 5, "", #[], none⟩)), [1, 2], 3, []⟩,
  ⟨(some 46), none, (.call 54 [(.tm 42), (.tm 45)]), [0, 3], 1, []⟩,
  ⟨(some 47), none, (.op (.un .not (.tm 46))), [4], 3, []⟩]
def fLeft_r10 : List AOper := [
  ⟨(some 48), none, (.op (.mv (.tm 9))), [], 0, []⟩,
  ⟨(some 49), none, (.op (.mv (.tm 0))), [], 0, []⟩,
  ⟨(some 50), none, (.op (.mv (.tm 10))), [], 0, []⟩,
  ⟨(some 51), none, (.op (.pure ⟨none, (.index 9 (.tmp 49) (.tmp 50)), 5, "", #[], none⟩)), [1, 2], 0, []⟩,
  ⟨(some 52), none, (.op (.bsl true 5 1 1 (.int .u8 (0)) [(0, 1, (.tm 51))])), [3], 0, []⟩,
  ⟨(some 53), none, (.op (.app 5 1 1 (.tm 48) (.tm 52))), [0, 4], 0, []⟩,
  ⟨(some 9), none, (.op (.mv (.tm 53))), [5, 5, 0, 1, 2, 3, 4, 5], 0, []⟩]
def fLeft_r11 : List AOper := [
  ⟨(some 54), none, (.op (.bin .add (.tm 39) (.cst (.int .i64 (1))))), [], 0, []⟩,
  ⟨(some 39), none, (.op (.mv (.tm 54))), [0], 0, []⟩]
def fLeft_l2 : ACode :=
  (.seq (.reg false fLeft_r7)
  (.seq (.cond (.tm 40)
   .skip
   (.exit 4))
  (.seq (.block 5 (.seq (.reg false fLeft_r8)
   (.seq (.reg true fLeft_r9)
   (.cond (.tm 47)
    (.reg false fLeft_r10)
    .skip))))
  (.reg false fLeft_r11))))
def fLeft_L2 : ACode := .loop none fLeft_l2
def fLeft_r12 : List AOper := [
  ⟨(some 55), none, (.op (.mv (.tm 9))), [], 0, []⟩,
  ⟨(some 56), none, (.op (.b2s (.tm 55))), [0], 0, []⟩,
  ⟨(some 8), none, (.op (.mv (.tm 56))), [1, 0, 1], 0, []⟩]
def fLeft : AFn := { ntmps := 57, results := [.tm 8], code :=
  (.seq (.reg false fLeft_r0)
  (.seq (.block 0 fLeft_L0)
  (.seq (.block 2 fLeft_L1)
  (.seq (.reg false fLeft_r5)
  (.seq (.seq (.reg false fLeft_r6)
  (.block 4 fLeft_L2))
  (.seq (.reg false fLeft_r12)
  .ret)))))) }
theorem fLeft_R0 (G : List (Nat × Obj)) (x0 x1 x2 x3 x5 x6 x7 x8 x9 x10 x18 x31 x38 x39 x40 x47 : AV) (rows : List Row) (K : Kon) : wReg Try.prog G fLeft_V false fLeft_r0 [x0, x1, x2, x3, x5, x6, x7, x8, x9, x10, x18, x31, x38, x39, x40, x47] rows K =
   (wB (hFbox x1 rows) fun t5_0 r0 =>
    wB (hFbox x2 r0) fun t6_1 r1 =>
    wB (hFbox x3 r1) fun t7_2 r2 =>
    K .normal [x0, x1, x2, x3, t5_0, t6_1, t7_2, (AV.c (.string ⟨#[]⟩)), x9, x10, x18, x31, x38, x39, x40, x47] r2) := by kernel_rfl
theorem fLeft_R1 (G : List (Nat × Obj)) (x0 x1 x2 x3 x5 x6 x7 x8 x9 x10 x18 x31 x38 x39 x40 x47 : AV) (rows : List Row) (K : Kon) : wReg Try.prog G fLeft_V true fLeft_r1 [x0, x1, x2, x3, x5, x6, x7, x8, x9, x10, x18, x31, x38, x39, x40, x47] rows K =
   (wB (sBin .neq (Try.prog.underlying 9) x0 (AV.c (.string ⟨#[]⟩)) rows) fun t12_0 r0 =>
    wG t12_0 true (wB (hLoad true 4 x5 r0) fun t14_1 r1 =>
    wB (sIx (Try.prog.underlying 9) x0 (AV.c (.int .i64 (0))) r1) fun t16_2 r2 =>
    wDC Try.prog G false 54 [t14_1, t16_2] r2 fun t17_3 r3 _ =>
    wB (hPick t12_0 t17_3 (AV.c (.bool false)) r3) fun t18_4 r4 =>
    K .normal [x0, x1, x2, x3, x5, x6, x7, x8, x9, x10, t18_4, x31, x38, x39, x40, x47] r4)
   (wB (hPick t12_0 (AV.c undef) (AV.c (.bool false)) r0) fun t18_5 r5 =>
    K .normal [x0, x1, x2, x3, x5, x6, x7, x8, x9, x10, t18_5, x31, x38, x39, x40, x47] r5)) := by kernel_rfl
theorem fLeft_R2 (G : List (Nat × Obj)) (x0 x1 x2 x3 x5 x6 x7 x8 x9 x10 x18 x31 x38 x39 x40 x47 : AV) (rows : List Row) (K : Kon) : wReg Try.prog G fLeft_V false fLeft_r2 [x0, x1, x2, x3, x5, x6, x7, x8, x9, x10, x18, x31, x38, x39, x40, x47] rows K =
   (wB (sSl (Try.prog.underlying 9) x0 (some (AV.c (.int .i64 (1)))) none rows) fun t20_0 r0 =>
    K .normal [t20_0, x1, x2, x3, x5, x6, x7, x8, x9, x10, x18, x31, x38, x39, x40, x47] r0) := by kernel_rfl
theorem fLeft_W0 (G : List (Nat × Obj)) (n np : Nat) (ds : List (FuncId × List AV)) (vs : List AV) (rows : List Row) (K : Kon) : wV Try.prog G n np ds fLeft_V fLeft_L0 vs rows K = SV Try.prog G n np ds fLeft_V fLeft_L0 vs rows K := rfl
theorem fLeft_R3 (G : List (Nat × Obj)) (x0 x1 x2 x3 x5 x6 x7 x8 x9 x10 x18 x31 x38 x39 x40 x47 : AV) (rows : List Row) (K : Kon) : wReg Try.prog G fLeft_V true fLeft_r3 [x0, x1, x2, x3, x5, x6, x7, x8, x9, x10, x18, x31, x38, x39, x40, x47] rows K =
   (wB (sBin .neq (Try.prog.underlying 9) x0 (AV.c (.string ⟨#[]⟩)) rows) fun t22_0 r0 =>
    wG t22_0 true (wB (hLoad true 4 x6 r0) fun t24_1 r1 =>
    wB (hLen true x0 r1) fun t27_2 r2 =>
    wB (hBin .sub t27_2 (AV.c (.int .i64 (1))) r2) fun t28_3 r3 =>
    wB (sIx (Try.prog.underlying 9) x0 t28_3 r3) fun t29_4 r4 =>
    wDC Try.prog G false 54 [t24_1, t29_4] r4 fun t30_5 r5 _ =>
    wB (hPick t22_0 t30_5 (AV.c (.bool false)) r5) fun t31_6 r6 =>
    K .normal [x0, x1, x2, x3, x5, x6, x7, x8, x9, x10, x18, t31_6, x38, x39, x40, x47] r6)
   (wB (hPick t22_0 (AV.c undef) (AV.c (.bool false)) r0) fun t31_7 r7 =>
    K .normal [x0, x1, x2, x3, x5, x6, x7, x8, x9, x10, x18, t31_7, x38, x39, x40, x47] r7)) := by kernel_rfl
theorem fLeft_R4 (G : List (Nat × Obj)) (x0 x1 x2 x3 x5 x6 x7 x8 x9 x10 x18 x31 x38 x39 x40 x47 : AV) (rows : List Row) (K : Kon) : wReg Try.prog G fLeft_V false fLeft_r4 [x0, x1, x2, x3, x5, x6, x7, x8, x9, x10, x18, x31, x38, x39, x40, x47] rows K =
   (wB (hLen true x0 rows) fun t34_0 r0 =>
    wB (hBin .sub t34_0 (AV.c (.int .i64 (1))) r0) fun t35_1 r1 =>
    wB (sSl (Try.prog.underlying 9) x0 none (some t35_1) r1) fun t36_2 r2 =>
    K .normal [t36_2, x1, x2, x3, x5, x6, x7, x8, x9, x10, x18, x31, x38, x39, x40, x47] r2) := by kernel_rfl
theorem fLeft_W1 (G : List (Nat × Obj)) (n np : Nat) (ds : List (FuncId × List AV)) (vs : List AV) (rows : List Row) (K : Kon) : wV Try.prog G n np ds fLeft_V fLeft_L1 vs rows K = SV Try.prog G n np ds fLeft_V fLeft_L1 vs rows K := rfl
theorem fLeft_R5 (G : List (Nat × Obj)) (x0 x1 x2 x3 x5 x6 x7 x8 x9 x10 x18 x31 x38 x39 x40 x47 : AV) (rows : List Row) (K : Kon) : wReg Try.prog G fLeft_V false fLeft_r5 [x0, x1, x2, x3, x5, x6, x7, x8, x9, x10, x18, x31, x38, x39, x40, x47] rows K =
   (K .normal [x0, x1, x2, x3, x5, x6, x7, x8, (AV.c (.slice none 0 0)), x10, x18, x31, x38, x39, x40, x47] rows) := by kernel_rfl
theorem fLeft_R6 (G : List (Nat × Obj)) (x0 x1 x2 x3 x5 x6 x7 x8 x9 x10 x18 x31 x38 x39 x40 x47 : AV) (rows : List Row) (K : Kon) : wReg Try.prog G fLeft_V false fLeft_r6 [x0, x1, x2, x3, x5, x6, x7, x8, x9, x10, x18, x31, x38, x39, x40, x47] rows K =
   (wB (hLen true x0 rows) fun t38_0 r0 =>
    K .normal [x0, x1, x2, x3, x5, x6, x7, x8, x9, x10, x18, x31, t38_0, (AV.c (.int .i64 (0))), x40, x47] r0) := by kernel_rfl
theorem fLeft_R7 (G : List (Nat × Obj)) (x0 x1 x2 x3 x5 x6 x7 x8 x9 x10 x18 x31 x38 x39 x40 x47 : AV) (rows : List Row) (K : Kon) : wReg Try.prog G fLeft_V false fLeft_r7 [x0, x1, x2, x3, x5, x6, x7, x8, x9, x10, x18, x31, x38, x39, x40, x47] rows K =
   (wB (hBin .lss x39 x38 rows) fun t40_0 r0 =>
    K .normal [x0, x1, x2, x3, x5, x6, x7, x8, x9, x10, x18, x31, x38, x39, t40_0, x47] r0) := by kernel_rfl
theorem fLeft_R8 (G : List (Nat × Obj)) (x0 x1 x2 x3 x5 x6 x7 x8 x9 x10 x18 x31 x38 x39 x40 x47 : AV) (rows : List Row) (K : Kon) : wReg Try.prog G fLeft_V false fLeft_r8 [x0, x1, x2, x3, x5, x6, x7, x8, x9, x10, x18, x31, x38, x39, x40, x47] rows K =
   (K .normal [x0, x1, x2, x3, x5, x6, x7, x8, x9, x39, x18, x31, x38, x39, x40, x47] rows) := by kernel_rfl
theorem fLeft_R9 (G : List (Nat × Obj)) (x0 x1 x2 x3 x5 x6 x7 x8 x9 x10 x18 x31 x38 x39 x40 x47 : AV) (rows : List Row) (K : Kon) : wReg Try.prog G fLeft_V true fLeft_r9 [x0, x1, x2, x3, x5, x6, x7, x8, x9, x10, x18, x31, x38, x39, x40, x47] rows K =
   (wB (hLoad true 4 x7 rows) fun t42_0 r0 =>
    wB (sIx (Try.prog.underlying 9) x0 x10 r0) fun t45_1 r1 =>
    wDC Try.prog G false 54 [t42_0, t45_1] r1 fun t46_2 r2 _ =>
    wB (hUn .not t46_2 r2) fun t47_3 r3 =>
    K .normal [x0, x1, x2, x3, x5, x6, x7, x8, x9, x10, x18, x31, x38, x39, x40, t47_3] r3) := by kernel_rfl
theorem fLeft_R10 (G : List (Nat × Obj)) (x0 x1 x2 x3 x5 x6 x7 x8 x9 x10 x18 x31 x38 x39 x40 x47 : AV) (rows : List Row) (K : Kon) : wReg Try.prog G fLeft_V false fLeft_r10 [x0, x1, x2, x3, x5, x6, x7, x8, x9, x10, x18, x31, x38, x39, x40, x47] rows K =
   (wB (sIx (Try.prog.underlying 9) x0 x10 rows) fun t51_0 r0 =>
    wB (aopF (.bsl true 5 1 1 (.int .u8 (0)) [(0, 1, (.tm 51))]) Try.prog (evE [(51, t51_0)]) r0) fun t52_1 r1 =>
    wB (hApp 5 1 1 x9 t52_1 r1) fun t53_2 r2 =>
    K .normal [x0, x1, x2, x3, x5, x6, x7, x8, t53_2, x10, x18, x31, x38, x39, x40, x47] r2) := by kernel_rfl
theorem fLeft_R11 (G : List (Nat × Obj)) (x0 x1 x2 x3 x5 x6 x7 x8 x9 x10 x18 x31 x38 x39 x40 x47 : AV) (rows : List Row) (K : Kon) : wReg Try.prog G fLeft_V false fLeft_r11 [x0, x1, x2, x3, x5, x6, x7, x8, x9, x10, x18, x31, x38, x39, x40, x47] rows K =
   (wB (hBin .add x39 (AV.c (.int .i64 (1))) rows) fun t54_0 r0 =>
    K .normal [x0, x1, x2, x3, x5, x6, x7, x8, x9, x10, x18, x31, x38, t54_0, x40, x47] r0) := by kernel_rfl
theorem fLeft_W2 (G : List (Nat × Obj)) (n np : Nat) (ds : List (FuncId × List AV)) (vs : List AV) (rows : List Row) (K : Kon) : wV Try.prog G n np ds fLeft_V fLeft_L2 vs rows K = SV Try.prog G n np ds fLeft_V fLeft_L2 vs rows K := rfl
theorem fLeft_R12 (G : List (Nat × Obj)) (x0 x1 x2 x3 x5 x6 x7 x8 x9 x10 x18 x31 x38 x39 x40 x47 : AV) (rows : List Row) (K : Kon) : wReg Try.prog G fLeft_V false fLeft_r12 [x0, x1, x2, x3, x5, x6, x7, x8, x9, x10, x18, x31, x38, x39, x40, x47] rows K =
   (wB (hB2s x9 rows) fun t56_0 r0 =>
    K .normal [x0, x1, x2, x3, x5, x6, x7, t56_0, x9, x10, x18, x31, x38, x39, x40, x47] r0) := by kernel_rfl
theorem fLeft_E18 (x0 x1 x2 x3 x5 x6 x7 x8 x9 x10 x18 x31 x38 x39 x40 x47 : AV) : evE (fLeft_V.zip [x0, x1, x2, x3, x5, x6, x7, x8, x9, x10, x18, x31, x38, x39, x40, x47]) (.tm 18) = x18 := rfl
theorem fLeft_E31 (x0 x1 x2 x3 x5 x6 x7 x8 x9 x10 x18 x31 x38 x39 x40 x47 : AV) : evE (fLeft_V.zip [x0, x1, x2, x3, x5, x6, x7, x8, x9, x10, x18, x31, x38, x39, x40, x47]) (.tm 31) = x31 := rfl
theorem fLeft_E40 (x0 x1 x2 x3 x5 x6 x7 x8 x9 x10 x18 x31 x38 x39 x40 x47 : AV) : evE (fLeft_V.zip [x0, x1, x2, x3, x5, x6, x7, x8, x9, x10, x18, x31, x38, x39, x40, x47]) (.tm 40) = x40 := rfl
theorem fLeft_E47 (x0 x1 x2 x3 x5 x6 x7 x8 x9 x10 x18 x31 x38 x39 x40 x47 : AV) : evE (fLeft_V.zip [x0, x1, x2, x3, x5, x6, x7, x8, x9, x10, x18, x31, x38, x39, x40, x47]) (.tm 47) = x47 := rfl
theorem fLeft_in (a0 a1 a2 a3 : AV) : fLeft_V.map (look (enumE 0 [a0, a1, a2, a3])) = [a0, a1, a2, a3, AV.junk, AV.junk, AV.junk, AV.junk, AV.junk, AV.junk, AV.junk, AV.junk, AV.junk, AV.junk, AV.junk, AV.junk] := by kernel_rfl
theorem fLeft_res (x0 x1 x2 x3 x5 x6 x7 x8 x9 x10 x18 x31 x38 x39 x40 x47 : AV) (rows : List Row) : wRes (fLeft_V.zip [x0, x1, x2, x3, x5, x6, x7, x8, x9, x10, x18, x31, x38, x39, x40, x47]) rows [.tm 8] = some x8 := rfl
/- shibboleth/shibbolethref15.Stays -/
def fStays_V : List Nat := [0, 1, 2, 3, 5, 6, 7, 8, 9, 10, 11, 12, 26, 41, 47]
def fStays_r0 : List AOper := [
  ⟨(some 5), none, (.op (.fbox (.tm 1))), [], 0, []⟩,
  ⟨(some 6), none, (.op (.fbox (.tm 2))), [], 0, []⟩,
  ⟨(some 7), none, (.op (.fbox (.tm 3))), [], 0, []⟩,
  ⟨(some 8), none, (.op (.mv (.cst (.slice none 0 0)))), [], 0, []⟩]
def fStays_r1 : List AOper := [
  ⟨(some 13), none, (.op (.mv (.tm 0))), [], 0, []⟩,
  ⟨(some 14), none, (.op (.len true (.tm 13))), [0], 0, []⟩,
  ⟨(some 15), none, (.op (.make 4 1 1 (.bool false) (.tm 14) (.tm 14))), [1, 1], 0, []⟩,
  ⟨(some 9), none, (.op (.mv (.tm 15))), [2, 0, 1, 2], 0, []⟩]
def fStays_r2 : List AOper := [
  ⟨(some 10), none, (.op (.mv (.cst (.int .i64 (0))))), [], 0, []⟩]
def fStays_r3 : List AOper := [
  ⟨(some 16), none, (.op (.mv (.tm 10))), [], 3, []⟩,
  ⟨(some 17), none, (.op (.mv (.tm 0))), [], 3, []⟩,
  ⟨(some 18), none, (.op (.len true (.tm 17))), [1], 3, []⟩,
  ⟨(some 19), none, (.op (.bin .lss (.tm 16) (.tm 18))), [0, 2], 3, []⟩,
  ⟨(some 20), none, (.op (.mv (.tm 19))), [3], 3, []⟩,
  ⟨(some 21), (some (20, true)), (.op (.load true 4 (.tm 5))), [4], 3, []⟩,
  ⟨(some 22), (some (20, true)), (.op (.mv (.tm 0))), [4], 3, []⟩,
  ⟨(some 23), (some (20, true)), (.op (.mv (.tm 10))), [4], 3, []⟩,
  ⟨(some 24), (some (20, true)), (.op (.pure ⟨none, (.index 9 (.tmp 22) (.tmp 23)), 5, "", #[], none⟩)), [6, 7, 4], 3, []⟩,
  ⟨(some 25), (some (20, true)), (.call 92 [(.tm 21), (.tm 24)]), [5, 8, 4, 4], 1, []⟩,
  ⟨(some 26), none, (.op (.pick (.tm 20) (.tm 25) (.cst (.bool false)))), [4, 9], 3, []⟩]
def fStays_r4 : List AOper := [
  ⟨(some 27), none, (.op (.mv (.tm 10))), [], 0, []⟩,
  ⟨(some 28), none, (.op (.bin .add (.tm 27) (.cst (.int .i64 (1))))), [0], 0, []⟩,
  ⟨(some 10), none, (.op (.mv (.tm 28))), [1, 0, 1], 0, []⟩]
def fStays_l0 : ACode :=
  (.seq (.seq (.reg true fStays_r3)
  (.cond (.tm 26)
   .skip
   (.exit 0)))
  (.block 1 (.reg false fStays_r4)))
def fStays_L0 : ACode := .loop none fStays_l0
def fStays_r5 : List AOper := [
  ⟨(some 29), none, (.op (.mv (.tm 0))), [], 0, []⟩,
  ⟨(some 30), none, (.op (.len true (.tm 29))), [0], 0, []⟩,
  ⟨(some 11), none, (.op (.mv (.tm 30))), [1, 0, 1], 0, []⟩]
def fStays_r6 : List AOper := [
  ⟨(some 31), none, (.op (.mv (.tm 11))), [], 3, []⟩,
  ⟨(some 32), none, (.op (.mv (.tm 10))), [], 3, []⟩,
  ⟨(some 33), none, (.op (.bin .gtr (.tm 31) (.tm 32))), [0, 1], 3, []⟩,
  ⟨(some 34), none, (.op (.mv (.tm 33))), [2], 3, []⟩,
  ⟨(some 35), (some (34, true)), (.op (.load true 4 (.tm 6))), [3], 3, []⟩,
  ⟨(some 36), (some (34, true)), (.op (.mv (.tm 0))), [3], 3, []⟩,
  ⟨(some 37), (some (34, true)), (.op (.mv (.tm 11))), [3], 3, []⟩,
  ⟨(some 38), (some (34, true)), (.op (.bin .sub (.tm 37) (.cst (.int .i64 (1))))), [6, 3], 3, []⟩,
  ⟨(some 39), (some (34, true)), (.op (.pure ⟨none, (.index 9 (.tmp 36) (.tmp 38)), 5, "", #[], none⟩)), [5, 7, 3], 3, []⟩,
  ⟨(some 40), (some (34, true)), (.call 92 [(.tm 35), (.tm 39)]), [4, 8, 3, 3], 1, []⟩,
  ⟨(some 41), none, (.op (.pick (.tm 34) (.tm 40) (.cst (.bool false)))), [3, 9], 3, []⟩]
def fStays_r7 : List AOper := [
  ⟨(some 42), none, (.op (.mv (.tm 11))), [], 0, []⟩,
  ⟨(some 43), none, (.op (.bin .sub (.tm 42) (.cst (.int .i64 (1))))), [0], 0, []⟩,
  ⟨(some 11), none, (.op (.mv (.tm 43))), [1, 0, 1], 0, []⟩]
def fStays_l1 : ACode :=
  (.seq (.seq (.reg true fStays_r6)
  (.cond (.tm 41)
   .skip
   (.exit 2)))
  (.block 3 (.reg false fStays_r7)))
def fStays_L1 : ACode := .loop none fStays_l1
def fStays_r8 : List AOper := [
  ⟨(some 44), none, (.op (.mv (.tm 10))), [], 0, []⟩,
  ⟨(some 12), none, (.op (.mv (.tm 44))), [0, 0], 0, []⟩]
def fStays_r9 : List AOper := [
  ⟨(some 45), none, (.op (.mv (.tm 12))), [], 0, []⟩,
  ⟨(some 46), none, (.op (.mv (.tm 11))), [], 0, []⟩,
  ⟨(some 47), none, (.op (.bin .lss (.tm 45) (.tm 46))), [0, 1], 0, []⟩]
def fStays_r10 : List AOper := [
  ⟨(some 50), none, (.op (.mv (.tm 9))), [], 3, []⟩,
  ⟨(some 51), none, (.op (.mv (.tm 12))), [], 3, []⟩,
  ⟨(some 52), none, (.op (.load true 4 (.tm 7))), [], 3, []⟩,
  ⟨(some 53), none, (.op (.mv (.tm 0))), [], 3, []⟩,
  ⟨(some 54), none, (.op (.mv (.tm 12))), [], 3, []⟩,
  ⟨(some 55), none, (.op (.pure ⟨none, (.index 9 (.tmp 53) (.tmp 54)), 5, "", #[], none⟩)), [3, 4], 3, []⟩,
  ⟨(some 56), none, (.call 92 [(.tm 52), (.tm 55)]), [2, 5], 1, []⟩,
  ⟨(some 57), none, (.op (.un .not (.tm 56))), [6], 3, []⟩,
  ⟨(some 58), none, (.op (.iaS 1 (.tm 50) (.tm 51))), [0, 1, 0, 1, 2, 3, 4, 5, 6, 7], 3, []⟩,
  ⟨none, none, (.op (.store 1 (.tm 58) (.tm 57))), [8, 7, 6, 0, 1, 2, 3, 4, 5, 6, 7], 3, []⟩]
def fStays_r11 : List AOper := [
  ⟨(some 48), none, (.op (.mv (.tm 12))), [], 0, []⟩,
  ⟨(some 49), none, (.op (.bin .add (.tm 48) (.cst (.int .i64 (1))))), [0], 0, []⟩,
  ⟨(some 12), none, (.op (.mv (.tm 49))), [1, 0, 1], 0, []⟩]
def fStays_l2 : ACode :=
  (.seq (.seq (.reg false fStays_r9)
  (.cond (.tm 47)
   .skip
   (.exit 4)))
  (.seq (.block 5 (.reg true fStays_r10))
  (.reg false fStays_r11)))
def fStays_L2 : ACode := .loop none fStays_l2
def fStays_r12 : List AOper := [
  ⟨(some 59), none, (.op (.mv (.tm 9))), [], 0, []⟩,
  ⟨(some 8), none, (.op (.mv (.tm 59))), [0, 0], 0, []⟩]
def fStays : AFn := { ntmps := 60, results := [.tm 8], code :=
  (.seq (.reg false fStays_r0)
  (.seq (.reg false fStays_r1)
  (.seq (.reg false fStays_r2)
  (.seq (.block 0 fStays_L0)
  (.seq (.reg false fStays_r5)
  (.seq (.block 2 fStays_L1)
  (.seq (.seq (.reg false fStays_r8)
  (.block 4 fStays_L2))
  (.seq (.reg false fStays_r12)
  .ret)))))))) }
theorem fStays_R0 (G : List (Nat × Obj)) (x0 x1 x2 x3 x5 x6 x7 x8 x9 x10 x11 x12 x26 x41 x47 : AV) (rows : List Row) (K : Kon) : wReg Try.prog G fStays_V false fStays_r0 [x0, x1, x2, x3, x5, x6, x7, x8, x9, x10, x11, x12, x26, x41, x47] rows K =
   (wB (hFbox x1 rows) fun t5_0 r0 =>
    wB (hFbox x2 r0) fun t6_1 r1 =>
    wB (hFbox x3 r1) fun t7_2 r2 =>
    K .normal [x0, x1, x2, x3, t5_0, t6_1, t7_2, (AV.c (.slice none 0 0)), x9, x10, x11, x12, x26, x41, x47] r2) := by kernel_rfl
theorem fStays_R1 (G : List (Nat × Obj)) (x0 x1 x2 x3 x5 x6 x7 x8 x9 x10 x11 x12 x26 x41 x47 : AV) (rows : List Row) (K : Kon) : wReg Try.prog G fStays_V false fStays_r1 [x0, x1, x2, x3, x5, x6, x7, x8, x9, x10, x11, x12, x26, x41, x47] rows K =
   (wB (hLen true x0 rows) fun t14_0 r0 =>
    wB (hMake 4 1 1 (.bool false) t14_0 t14_0 r0) fun t15_1 r1 =>
    K .normal [x0, x1, x2, x3, x5, x6, x7, x8, t15_1, x10, x11, x12, x26, x41, x47] r1) := by kernel_rfl
theorem fStays_R2 (G : List (Nat × Obj)) (x0 x1 x2 x3 x5 x6 x7 x8 x9 x10 x11 x12 x26 x41 x47 : AV) (rows : List Row) (K : Kon) : wReg Try.prog G fStays_V false fStays_r2 [x0, x1, x2, x3, x5, x6, x7, x8, x9, x10, x11, x12, x26, x41, x47] rows K =
   (K .normal [x0, x1, x2, x3, x5, x6, x7, x8, x9, (AV.c (.int .i64 (0))), x11, x12, x26, x41, x47] rows) := by kernel_rfl
theorem fStays_R3 (G : List (Nat × Obj)) (x0 x1 x2 x3 x5 x6 x7 x8 x9 x10 x11 x12 x26 x41 x47 : AV) (rows : List Row) (K : Kon) : wReg Try.prog G fStays_V true fStays_r3 [x0, x1, x2, x3, x5, x6, x7, x8, x9, x10, x11, x12, x26, x41, x47] rows K =
   (wB (hLen true x0 rows) fun t18_0 r0 =>
    wB (hBin .lss x10 t18_0 r0) fun t19_1 r1 =>
    wG t19_1 true (wB (hLoad true 4 x5 r1) fun t21_2 r2 =>
    wB (sIx (Try.prog.underlying 9) x0 x10 r2) fun t24_3 r3 =>
    wDC Try.prog G false 92 [t21_2, t24_3] r3 fun t25_4 r4 _ =>
    wB (hPick t19_1 t25_4 (AV.c (.bool false)) r4) fun t26_5 r5 =>
    K .normal [x0, x1, x2, x3, x5, x6, x7, x8, x9, x10, x11, x12, t26_5, x41, x47] r5)
   (wB (hPick t19_1 (AV.c undef) (AV.c (.bool false)) r1) fun t26_6 r6 =>
    K .normal [x0, x1, x2, x3, x5, x6, x7, x8, x9, x10, x11, x12, t26_6, x41, x47] r6)) := by kernel_rfl
theorem fStays_R4 (G : List (Nat × Obj)) (x0 x1 x2 x3 x5 x6 x7 x8 x9 x10 x11 x12 x26 x41 x47 : AV) (rows : List Row) (K : Kon) : wReg Try.prog G fStays_V false fStays_r4 [x0, x1, x2, x3, x5, x6, x7, x8, x9, x10, x11, x12, x26, x41, x47] rows K =
   (wB (hBin .add x10 (AV.c (.int .i64 (1))) rows) fun t28_0 r0 =>
    K .normal [x0, x1, x2, x3, x5, x6, x7, x8, x9, t28_0, x11, x12, x26, x41, x47] r0) := by kernel_rfl
theorem fStays_W0 (G : List (Nat × Obj)) (n np : Nat) (ds : List (FuncId × List AV)) (vs : List AV) (rows : List Row) (K : Kon) : wV Try.prog G n np ds fStays_V fStays_L0 vs rows K = SV Try.prog G n np ds fStays_V fStays_L0 vs rows K := rfl
theorem fStays_R5 (G : List (Nat × Obj)) (x0 x1 x2 x3 x5 x6 x7 x8 x9 x10 x11 x12 x26 x41 x47 : AV) (rows : List Row) (K : Kon) : wReg Try.prog G fStays_V false fStays_r5 [x0, x1, x2, x3, x5, x6, x7, x8, x9, x10, x11, x12, x26, x41, x47] rows K =
   (wB (hLen true x0 rows) fun t30_0 r0 =>
    K .normal [x0, x1, x2, x3, x5, x6, x7, x8, x9, x10, t30_0, x12, x26, x41, x47] r0) := by kernel_rfl
theorem fStays_R6 (G : List (Nat × Obj)) (x0 x1 x2 x3 x5 x6 x7 x8 x9 x10 x11 x12 x26 x41 x47 : AV) (rows : List Row) (K : Kon) : wReg Try.prog G fStays_V true fStays_r6 [x0, x1, x2, x3, x5, x6, x7, x8, x9, x10, x11, x12, x26, x41, x47] rows K =
   (wB (hBin .gtr x11 x10 rows) fun t33_0 r0 =>
    wG t33_0 true (wB (hLoad true 4 x6 r0) fun t35_1 r1 =>
    wB (hBin .sub x11 (AV.c (.int .i64 (1))) r1) fun t38_2 r2 =>
    wB (sIx (Try.prog.underlying 9) x0 t38_2 r2) fun t39_3 r3 =>
    wDC Try.prog G false 92 [t35_1, t39_3] r3 fun t40_4 r4 _ =>
    wB (hPick t33_0 t40_4 (AV.c (.bool false)) r4) fun t41_5 r5 =>
    K .normal [x0, x1, x2, x3, x5, x6, x7, x8, x9, x10, x11, x12, x26, t41_5, x47] r5)
   (wB (hPick t33_0 (AV.c undef) (AV.c (.bool false)) r0) fun t41_6 r6 =>
    K .normal [x0, x1, x2, x3, x5, x6, x7, x8, x9, x10, x11, x12, x26, t41_6, x47] r6)) := by kernel_rfl
theorem fStays_R7 (G : List (Nat × Obj)) (x0 x1 x2 x3 x5 x6 x7 x8 x9 x10 x11 x12 x26 x41 x47 : AV) (rows : List Row) (K : Kon) : wReg Try.prog G fStays_V false fStays_r7 [x0, x1, x2, x3, x5, x6, x7, x8, x9, x10, x11, x12, x26, x41, x47] rows K =
   (wB (hBin .sub x11 (AV.c (.int .i64 (1))) rows) fun t43_0 r0 =>
    K .normal [x0, x1, x2, x3, x5, x6, x7, x8, x9, x10, t43_0, x12, x26, x41, x47] r0) := by kernel_rfl
theorem fStays_W1 (G : List (Nat × Obj)) (n np : Nat) (ds : List (FuncId × List AV)) (vs : List AV) (rows : List Row) (K : Kon) : wV Try.prog G n np ds fStays_V fStays_L1 vs rows K = SV Try.prog G n np ds fStays_V fStays_L1 vs rows K := rfl
theorem fStays_R8 (G : List (Nat × Obj)) (x0 x1 x2 x3 x5 x6 x7 x8 x9 x10 x11 x12 x26 x41 x47 : AV) (rows : List Row) (K : Kon) : wReg Try.prog G fStays_V false fStays_r8 [x0, x1, x2, x3, x5, x6, x7, x8, x9, x10, x11, x12, x26, x41, x47] rows K =
   (K .normal [x0, x1, x2, x3, x5, x6, x7, x8, x9, x10, x11, x10, x26, x41, x47] rows) := by kernel_rfl
theorem fStays_R9 (G : List (Nat × Obj)) (x0 x1 x2 x3 x5 x6 x7 x8 x9 x10 x11 x12 x26 x41 x47 : AV) (rows : List Row) (K : Kon) : wReg Try.prog G fStays_V false fStays_r9 [x0, x1, x2, x3, x5, x6, x7, x8, x9, x10, x11, x12, x26, x41, x47] rows K =
   (wB (hBin .lss x12 x11 rows) fun t47_0 r0 =>
    K .normal [x0, x1, x2, x3, x5, x6, x7, x8, x9, x10, x11, x12, x26, x41, t47_0] r0) := by kernel_rfl
theorem fStays_R10 (G : List (Nat × Obj)) (x0 x1 x2 x3 x5 x6 x7 x8 x9 x10 x11 x12 x26 x41 x47 : AV) (rows : List Row) (K : Kon) : wReg Try.prog G fStays_V true fStays_r10 [x0, x1, x2, x3, x5, x6, x7, x8, x9, x10, x11, x12, x26, x41, x47] rows K =
   (wB (hLoad true 4 x7 rows) fun t52_0 r0 =>
    wB (sIx (Try.prog.underlying 9) x0 x12 r0) fun t55_1 r1 =>
    wDC Try.prog G false 92 [t52_0, t55_1] r1 fun t56_2 r2 _ =>
    wB (hUn .not t56_2 r2) fun t57_3 r3 =>
    wB (hIaS 1 x9 x12 r3) fun t58_4 r4 =>
    wB (hStore 1 t58_4 t57_3 r4) fun _ r5 =>
    K .normal [x0, x1, x2, x3, x5, x6, x7, x8, x9, x10, x11, x12, x26, x41, x47] r5) := by kernel_rfl
theorem fStays_R11 (G : List (Nat × Obj)) (x0 x1 x2 x3 x5 x6 x7 x8 x9 x10 x11 x12 x26 x41 x47 : AV) (rows : List Row) (K : Kon) : wReg Try.prog G fStays_V false fStays_r11 [x0, x1, x2, x3, x5, x6, x7, x8, x9, x10, x11, x12, x26, x41, x47] rows K =
   (wB (hBin .add x12 (AV.c (.int .i64 (1))) rows) fun t49_0 r0 =>
    K .normal [x0, x1, x2, x3, x5, x6, x7, x8, x9, x10, x11, t49_0, x26, x41, x47] r0) := by kernel_rfl
theorem fStays_W2 (G : List (Nat × Obj)) (n np : Nat) (ds : List (FuncId × List AV)) (vs : List AV) (rows : List Row) (K : Kon) : wV Try.prog G n np ds fStays_V fStays_L2 vs rows K = SV Try.prog G n np ds fStays_V fStays_L2 vs rows K := rfl
theorem fStays_R12 (G : List (Nat × Obj)) (x0 x1 x2 x3 x5 x6 x7 x8 x9 x10 x11 x12 x26 x41 x47 : AV) (rows : List Row) (K : Kon) : wReg Try.prog G fStays_V false fStays_r12 [x0, x1, x2, x3, x5, x6, x7, x8, x9, x10, x11, x12, x26, x41, x47] rows K =
   (K .normal [x0, x1, x2, x3, x5, x6, x7, x9, x9, x10, x11, x12, x26, x41, x47] rows) := by kernel_rfl
theorem fStays_E26 (x0 x1 x2 x3 x5 x6 x7 x8 x9 x10 x11 x12 x26 x41 x47 : AV) : evE (fStays_V.zip [x0, x1, x2, x3, x5, x6, x7, x8, x9, x10, x11, x12, x26, x41, x47]) (.tm 26) = x26 := rfl
theorem fStays_E41 (x0 x1 x2 x3 x5 x6 x7 x8 x9 x10 x11 x12 x26 x41 x47 : AV) : evE (fStays_V.zip [x0, x1, x2, x3, x5, x6, x7, x8, x9, x10, x11, x12, x26, x41, x47]) (.tm 41) = x41 := rfl
theorem fStays_E47 (x0 x1 x2 x3 x5 x6 x7 x8 x9 x10 x11 x12 x26 x41 x47 : AV) : evE (fStays_V.zip [x0, x1, x2, x3, x5, x6, x7, x8, x9, x10, x11, x12, x26, x41, x47]) (.tm 47) = x47 := rfl
theorem fStays_in (a0 a1 a2 a3 : AV) : fStays_V.map (look (enumE 0 [a0, a1, a2, a3])) = [a0, a1, a2, a3, AV.junk, AV.junk, AV.junk, AV.junk, AV.junk, AV.junk, AV.junk, AV.junk, AV.junk, AV.junk, AV.junk] := by kernel_rfl
theorem fStays_res (x0 x1 x2 x3 x5 x6 x7 x8 x9 x10 x11 x12 x26 x41 x47 : AV) (rows : List Row) : wRes (fStays_V.zip [x0, x1, x2, x3, x5, x6, x7, x8, x9, x10, x11, x12, x26, x41, x47]) rows [.tm 8] = some x8 := rfl
/- shibboleth/shibbolethref15.Left -/
def fRefLeft_V : List Nat := [0, 1, 2, 3, 5, 6, 7, 8, 9, 10, 11, 20, 26]
def fRefLeft_r0 : List AOper := [
  ⟨(some 5), none, (.op (.fbox (.tm 1))), [], 0, []⟩,
  ⟨(some 6), none, (.op (.fbox (.tm 2))), [], 0, []⟩,
  ⟨(some 7), none, (.op (.fbox (.tm 3))), [], 0, []⟩,
  ⟨(some 8), none, (.op (.mv (.cst (.string ⟨#[]⟩)))), [], 0, []⟩]
def fRefLeft_r1 : List AOper := [
  ⟨(some 12), none, (.op (.mv (.tm 0))), [], 0, []⟩,
  ⟨(some 13), none, (.op (.load true 4 (.tm 5))), [], 0, []⟩,
  ⟨(some 14), none, (.op (.load true 4 (.tm 6))), [], 0, []⟩,
  ⟨(some 15), none, (.op (.load true 4 (.tm 7))), [], 0, []⟩,
  ⟨(some 16), none, (.call 38 [(.tm 12), (.tm 13), (.tm 14), (.tm 15)]), [0, 1, 2, 3], 0, []⟩,
  ⟨(some 9), none, (.op (.mv (.tm 16))), [4, 4, 0, 1, 2, 3, 4], 0, []⟩]
def fRefLeft_r2 : List AOper := [
  ⟨(some 10), none, (.op (.mv (.cst (.string ⟨#[]⟩)))), [], 0, []⟩]
def fRefLeft_r3 : List AOper := [
  ⟨(some 11), none, (.op (.mv (.cst (.int .i64 (0))))), [], 0, []⟩]
def fRefLeft_r4 : List AOper := [
  ⟨(some 17), none, (.op (.mv (.tm 11))), [], 0, []⟩,
  ⟨(some 18), none, (.op (.mv (.tm 0))), [], 0, []⟩,
  ⟨(some 19), none, (.op (.len true (.tm 18))), [1], 0, []⟩,
  ⟨(some 20), none, (.op (.bin .lss (.tm 17) (.tm 19))), [0, 2], 0, []⟩]
def fRefLeft_r5 : List AOper := [
  ⟨(some 23), none, (.op (.mv (.tm 9))), [], 0, []⟩,
  ⟨(some 24), none, (.op (.mv (.tm 11))), [], 0, []⟩,
  ⟨(some 25), none, (.op (.iaS 1 (.tm 23) (.tm 24))), [0, 1], 0, []⟩,
  ⟨(some 26), none, (.op (.load false 1 (.tm 25))), [2], 0, []⟩]
def fRefLeft_r6 : List AOper := [
  ⟨(some 27), none, (.op (.mv (.tm 10))), [], 0, []⟩,
  ⟨(some 28), none, (.op (.mv (.tm 0))), [], 0, []⟩,
  ⟨(some 29), none, (.op (.mv (.tm 11))), [], 0, []⟩,
  ⟨(some 30), none, (.op (.mv (.tm 11))), [], 0, []⟩,
  ⟨(some 31), none, (.op (.bin .add (.tm 30) (.cst (.int .i64 (1))))), [3], 0, []⟩,
  ⟨(some 32), none, (.op (.pure ⟨none, (.slice 9 (.tmp 28) (some (.tmp 29)) (some (.tmp 31)) none), 9, "", #[], none⟩)), [1, 2, 4], 0, []⟩,
  ⟨(some 33), none, (.op (.pure ⟨none, (.binOp .add 9 (.tmp 27) (.tmp 32) 9), 9, "", #[], none⟩)), [0, 5], 0, []⟩,
  ⟨(some 10), none, (.op (.mv (.tm 33))), [6, 0, 1, 2, 3, 4, 5, 6], 0, []⟩]
def fRefLeft_r7 : List AOper := [
  ⟨(some 21), none, (.op (.mv (.tm 11))), [], 0, []⟩,
  ⟨(some 22), none, (.op (.bin .add (.tm 21) (.cst (.int .i64 (1))))), [0], 0, []⟩,
  ⟨(some 11), none, (.op (.mv (.tm 22))), [1, 0, 1], 0, []⟩]
def fRefLeft_l0 : ACode :=
  (.seq (.seq (.reg false fRefLeft_r4)
  (.cond (.tm 20)
   .skip
   (.exit 0)))
  (.seq (.block 1 (.seq (.reg false fRefLeft_r5)
   (.cond (.tm 26)
    (.reg false fRefLeft_r6)
    .skip)))
  (.reg false fRefLeft_r7)))
def fRefLeft_L0 : ACode := .loop none fRefLeft_l0
def fRefLeft_r8 : List AOper := [
  ⟨(some 34), none, (.op (.mv (.tm 10))), [], 0, []⟩,
  ⟨(some 8), none, (.op (.mv (.tm 34))), [0, 0], 0, []⟩]
def fRefLeft : AFn := { ntmps := 35, results := [.tm 8], code :=
  (.seq (.reg false fRefLeft_r0)
  (.seq (.reg false fRefLeft_r1)
  (.seq (.reg false fRefLeft_r2)
  (.seq (.seq (.reg false fRefLeft_r3)
  (.block 0 fRefLeft_L0))
  (.seq (.reg false fRefLeft_r8)
  .ret))))) }
theorem fRefLeft_R0 (G : List (Nat × Obj)) (x0 x1 x2 x3 x5 x6 x7 x8 x9 x10 x11 x20 x26 : AV) (rows : List Row) (K : Kon) : wReg Try.prog G fRefLeft_V false fRefLeft_r0 [x0, x1, x2, x3, x5, x6, x7, x8, x9, x10, x11, x20, x26] rows K =
   (wB (hFbox x1 rows) fun t5_0 r0 =>
    wB (hFbox x2 r0) fun t6_1 r1 =>
    wB (hFbox x3 r1) fun t7_2 r2 =>
    K .normal [x0, x1, x2, x3, t5_0, t6_1, t7_2, (AV.c (.string ⟨#[]⟩)), x9, x10, x11, x20, x26] r2) := by kernel_rfl
theorem fRefLeft_R1 (G : List (Nat × Obj)) (x0 x1 x2 x3 x5 x6 x7 x8 x9 x10 x11 x20 x26 : AV) (rows : List Row) (K : Kon) : wReg Try.prog G fRefLeft_V false fRefLeft_r1 [x0, x1, x2, x3, x5, x6, x7, x8, x9, x10, x11, x20, x26] rows K =
   (wB (hLoad true 4 x5 rows) fun t13_0 r0 =>
    wB (hLoad true 4 x6 r0) fun t14_1 r1 =>
    wB (hLoad true 4 x7 r1) fun t15_2 r2 =>
    wCall Try.prog G 38 [x0, t13_0, t14_1, t15_2] r2 (fun t16_3 r3 =>
    K .normal [x0, x1, x2, x3, x5, x6, x7, x8, t16_3, x10, x11, x20, x26] r3) (fun ex3 q3 => K ex3 [x0, x1, x2, x3, x5, x6, x7, x8, x9, x10, x11, x20, x26] q3)) := by kernel_rfl
theorem fRefLeft_R2 (G : List (Nat × Obj)) (x0 x1 x2 x3 x5 x6 x7 x8 x9 x10 x11 x20 x26 : AV) (rows : List Row) (K : Kon) : wReg Try.prog G fRefLeft_V false fRefLeft_r2 [x0, x1, x2, x3, x5, x6, x7, x8, x9, x10, x11, x20, x26] rows K =
   (K .normal [x0, x1, x2, x3, x5, x6, x7, x8, x9, (AV.c (.string ⟨#[]⟩)), x11, x20, x26] rows) := by kernel_rfl
theorem fRefLeft_R3 (G : List (Nat × Obj)) (x0 x1 x2 x3 x5 x6 x7 x8 x9 x10 x11 x20 x26 : AV) (rows : List Row) (K : Kon) : wReg Try.prog G fRefLeft_V false fRefLeft_r3 [x0, x1, x2, x3, x5, x6, x7, x8, x9, x10, x11, x20, x26] rows K =
   (K .normal [x0, x1, x2, x3, x5, x6, x7, x8, x9, x10, (AV.c (.int .i64 (0))), x20, x26] rows) := by kernel_rfl
theorem fRefLeft_R4 (G : List (Nat × Obj)) (x0 x1 x2 x3 x5 x6 x7 x8 x9 x10 x11 x20 x26 : AV) (rows : List Row) (K : Kon) : wReg Try.prog G fRefLeft_V false fRefLeft_r4 [x0, x1, x2, x3, x5, x6, x7, x8, x9, x10, x11, x20, x26] rows K =
   (wB (hLen true x0 rows) fun t19_0 r0 =>
    wB (hBin .lss x11 t19_0 r0) fun t20_1 r1 =>
    K .normal [x0, x1, x2, x3, x5, x6, x7, x8, x9, x10, x11, t20_1, x26] r1) := by kernel_rfl
theorem fRefLeft_R5 (G : List (Nat × Obj)) (x0 x1 x2 x3 x5 x6 x7 x8 x9 x10 x11 x20 x26 : AV) (rows : List Row) (K : Kon) : wReg Try.prog G fRefLeft_V false fRefLeft_r5 [x0, x1, x2, x3, x5, x6, x7, x8, x9, x10, x11, x20, x26] rows K =
   (wB (hIaS 1 x9 x11 rows) fun t25_0 r0 =>
    wB (hLoad false 1 t25_0 r0) fun t26_1 r1 =>
    K .normal [x0, x1, x2, x3, x5, x6, x7, x8, x9, x10, x11, x20, t26_1] r1) := by kernel_rfl
theorem fRefLeft_R6 (G : List (Nat × Obj)) (x0 x1 x2 x3 x5 x6 x7 x8 x9 x10 x11 x20 x26 : AV) (rows : List Row) (K : Kon) : wReg Try.prog G fRefLeft_V false fRefLeft_r6 [x0, x1, x2, x3, x5, x6, x7, x8, x9, x10, x11, x20, x26] rows K =
   (wB (hBin .add x11 (AV.c (.int .i64 (1))) rows) fun t31_0 r0 =>
    wB (sSl (Try.prog.underlying 9) x0 (some x11) (some t31_0) r0) fun t32_1 r1 =>
    wB (sBin .add (Try.prog.underlying 9) x10 t32_1 r1) fun t33_2 r2 =>
    K .normal [x0, x1, x2, x3, x5, x6, x7, x8, x9, t33_2, x11, x20, x26] r2) := by kernel_rfl
theorem fRefLeft_R7 (G : List (Nat × Obj)) (x0 x1 x2 x3 x5 x6 x7 x8 x9 x10 x11 x20 x26 : AV) (rows : List Row) (K : Kon) : wReg Try.prog G fRefLeft_V false fRefLeft_r7 [x0, x1, x2, x3, x5, x6, x7, x8, x9, x10, x11, x20, x26] rows K =
   (wB (hBin .add x11 (AV.c (.int .i64 (1))) rows) fun t22_0 r0 =>
    K .normal [x0, x1, x2, x3, x5, x6, x7, x8, x9, x10, t22_0, x20, x26] r0) := by kernel_rfl
theorem fRefLeft_W0 (G : List (Nat × Obj)) (n np : Nat) (ds : List (FuncId × List AV)) (vs : List AV) (rows : List Row) (K : Kon) : wV Try.prog G n np ds fRefLeft_V fRefLeft_L0 vs rows K = SV Try.prog G n np ds fRefLeft_V fRefLeft_L0 vs rows K := rfl
theorem fRefLeft_R8 (G : List (Nat × Obj)) (x0 x1 x2 x3 x5 x6 x7 x8 x9 x10 x11 x20 x26 : AV) (rows : List Row) (K : Kon) : wReg Try.prog G fRefLeft_V false fRefLeft_r8 [x0, x1, x2, x3, x5, x6, x7, x8, x9, x10, x11, x20, x26] rows K =
   (K .normal [x0, x1, x2, x3, x5, x6, x7, x10, x9, x10, x11, x20, x26] rows) := by kernel_rfl
theorem fRefLeft_E20 (x0 x1 x2 x3 x5 x6 x7 x8 x9 x10 x11 x20 x26 : AV) : evE (fRefLeft_V.zip [x0, x1, x2, x3, x5, x6, x7, x8, x9, x10, x11, x20, x26]) (.tm 20) = x20 := rfl
theorem fRefLeft_E26 (x0 x1 x2 x3 x5 x6 x7 x8 x9 x10 x11 x20 x26 : AV) : evE (fRefLeft_V.zip [x0, x1, x2, x3, x5, x6, x7, x8, x9, x10, x11, x20, x26]) (.tm 26) = x26 := rfl
theorem fRefLeft_in (a0 a1 a2 a3 : AV) : fRefLeft_V.map (look (enumE 0 [a0, a1, a2, a3])) = [a0, a1, a2, a3, AV.junk, AV.junk, AV.junk, AV.junk, AV.junk, AV.junk, AV.junk, AV.junk, AV.junk] := by kernel_rfl
theorem fRefLeft_res (x0 x1 x2 x3 x5 x6 x7 x8 x9 x10 x11 x20 x26 : AV) (rows : List Row) : wRes (fRefLeft_V.zip [x0, x1, x2, x3, x5, x6, x7, x8, x9, x10, x11, x20, x26]) rows [.tm 8] = some x8 := rfl
/- shibboleth/shibbolethlaw15.WrapLeft -/
def fWrapLeft_V : List Nat := [0, 1, 2, 3, 5, 6, 7, 8, 11]
def fWrapLeft_r0 : List AOper := [
  ⟨(some 5), none, (.op (.fbox (.tm 1))), [], 0, []⟩,
  ⟨(some 6), none, (.op (.fbox (.tm 2))), [], 0, []⟩,
  ⟨(some 7), none, (.op (.fbox (.tm 3))), [], 0, []⟩,
  ⟨(some 8), none, (.op (.mv (.cst (.bool false)))), [], 0, []⟩]
def fWrapLeft_r1 : List AOper := [
  ⟨(some 9), none, (.op (.mv (.tm 0))), [], 0, []⟩,
  ⟨(some 10), none, (.op (.len true (.tm 9))), [0], 0, []⟩,
  ⟨(some 11), none, (.op (.bin .gtr (.tm 10) (.cst (.int .i64 (300))))), [1], 0, []⟩]
def fWrapLeft_r2 : List AOper := [
  ⟨(some 12), none, (.call 25 []), [], 0, []⟩,
  ⟨(some 8), none, (.op (.mv (.tm 12))), [0, 0, 0], 0, []⟩]
def fWrapLeft_r3 : List AOper := [
  ⟨(some 13), none, (.op (.mv (.tm 0))), [], 3, []⟩,
  ⟨(some 14), none, (.op (.load true 4 (.tm 5))), [], 3, []⟩,
  ⟨(some 15), none, (.op (.load true 4 (.tm 6))), [], 3, []⟩,
  ⟨(some 16), none, (.op (.load true 4 (.tm 7))), [], 3, []⟩,
  ⟨(some 17), none, (.call 26 [(.tm 13), (.tm 14), (.tm 15), (.tm 16)]), [0, 1, 2, 3], 1, []⟩,
  ⟨(some 18), none, (.op (.mv (.tm 0))), [], 3, []⟩,
  ⟨(some 19), none, (.op (.load true 4 (.tm 5))), [], 3, []⟩,
  ⟨(some 20), none, (.op (.load true 4 (.tm 6))), [], 3, []⟩,
  ⟨(some 21), none, (.op (.load true 4 (.tm 7))), [], 3, []⟩,
  ⟨(some 22), none, (.call 27 [(.tm 18), (.tm 19), (.tm 20), (.tm 21)]), [5, 6, 7, 8, 4], 1, []⟩,
  ⟨(some 23), none, (.op (.pure ⟨none, (.binOp .eql 9 (.tmp 17) (.tmp 22) 9), 4, "", #[], none⟩)), [4, 9], 3, []⟩,
  ⟨(some 24), none, (.op (.mv (.tm 23))), [10, 9], 3, []⟩,
  ⟨(some 25), (some (24, true)), (.call 25 []), [11, 11], 1, []⟩,
  ⟨(some 26), none, (.op (.pick (.tm 24) (.tm 25) (.cst (.bool false)))), [11, 12], 3, []⟩,
  ⟨(some 8), none, (.op (.mv (.tm 26))), [13, 12, 0, 1, 2, 3, 4, 5, 6, 7, 8, 9, 10, 11, 12, 13], 3, []⟩]
def fWrapLeft : AFn := { ntmps := 27, results := [.tm 8], code :=
  (.seq (.reg false fWrapLeft_r0)
  (.seq (.seq (.reg false fWrapLeft_r1)
  (.cond (.tm 11)
   (.seq (.reg false fWrapLeft_r2)
   .ret)
   .skip))
  (.seq (.reg true fWrapLeft_r3)
  .ret))) }
theorem fWrapLeft_R0 (G : List (Nat × Obj)) (x0 x1 x2 x3 x5 x6 x7 x8 x11 : AV) (rows : List Row) (K : Kon) : wReg Try.prog G fWrapLeft_V false fWrapLeft_r0 [x0, x1, x2, x3, x5, x6, x7, x8, x11] rows K =
   (wB (hFbox x1 rows) fun t5_0 r0 =>
    wB (hFbox x2 r0) fun t6_1 r1 =>
    wB (hFbox x3 r1) fun t7_2 r2 =>
    K .normal [x0, x1, x2, x3, t5_0, t6_1, t7_2, (AV.c (.bool false)), x11] r2) := by kernel_rfl
theorem fWrapLeft_R1 (G : List (Nat × Obj)) (x0 x1 x2 x3 x5 x6 x7 x8 x11 : AV) (rows : List Row) (K : Kon) : wReg Try.prog G fWrapLeft_V false fWrapLeft_r1 [x0, x1, x2, x3, x5, x6, x7, x8, x11] rows K =
   (wB (hLen true x0 rows) fun t10_0 r0 =>
    wB (hBin .gtr t10_0 (AV.c (.int .i64 (300))) r0) fun t11_1 r1 =>
    K .normal [x0, x1, x2, x3, x5, x6, x7, x8, t11_1] r1) := by kernel_rfl
theorem fWrapLeft_R2 (G : List (Nat × Obj)) (x0 x1 x2 x3 x5 x6 x7 x8 x11 : AV) (rows : List Row) (K : Kon) : wReg Try.prog G fWrapLeft_V false fWrapLeft_r2 [x0, x1, x2, x3, x5, x6, x7, x8, x11] rows K =
   (wCall Try.prog G 25 [] rows (fun t12_0 r0 =>
    K .normal [x0, x1, x2, x3, x5, x6, x7, t12_0, x11] r0) (fun ex0 q0 => K ex0 [x0, x1, x2, x3, x5, x6, x7, x8, x11] q0)) := by kernel_rfl
theorem fWrapLeft_R3 (G : List (Nat × Obj)) (x0 x1 x2 x3 x5 x6 x7 x8 x11 : AV) (rows : List Row) (K : Kon) : wReg Try.prog G fWrapLeft_V true fWrapLeft_r3 [x0, x1, x2, x3, x5, x6, x7, x8, x11] rows K =
   (wB (hLoad true 4 x5 rows) fun t14_0 r0 =>
    wB (hLoad true 4 x6 r0) fun t15_1 r1 =>
    wB (hLoad true 4 x7 r1) fun t16_2 r2 =>
    wDC Try.prog G false 26 [x0, t14_0, t15_1, t16_2] r2 fun t17_3 r3 _ =>
    wB (hLoad true 4 x5 r3) fun t19_4 r4 =>
    wB (hLoad true 4 x6 r4) fun t20_5 r5 =>
    wB (hLoad true 4 x7 r5) fun t21_6 r6 =>
    wDC Try.prog G false 27 [x0, t19_4, t20_5, t21_6] r6 fun t22_7 r7 _ =>
    wB (sBin .eql (Try.prog.underlying 9) t17_3 t22_7 r7) fun t23_8 r8 =>
    wG t23_8 true (wDC Try.prog G false 25 [] r8 fun t25_9 r9 _ =>
    wB (hPick t23_8 t25_9 (AV.c (.bool false)) r9) fun t26_10 r10 =>
    K .normal [x0, x1, x2, x3, x5, x6, x7, t26_10, x11] r10)
   (wB (hPick t23_8 (AV.c undef) (AV.c (.bool false)) r8) fun t26_11 r11 =>
    K .normal [x0, x1, x2, x3, x5, x6, x7, t26_11, x11] r11)) := by kernel_rfl
theorem fWrapLeft_E11 (x0 x1 x2 x3 x5 x6 x7 x8 x11 : AV) : evE (fWrapLeft_V.zip [x0, x1, x2, x3, x5, x6, x7, x8, x11]) (.tm 11) = x11 := rfl
theorem fWrapLeft_in (a0 a1 a2 a3 : AV) : fWrapLeft_V.map (look (enumE 0 [a0, a1, a2, a3])) = [a0, a1, a2, a3, AV.junk, AV.junk, AV.junk, AV.junk, AV.junk] := by kernel_rfl
theorem fWrapLeft_res (x0 x1 x2 x3 x5 x6 x7 x8 x11 : AV) (rows : List Row) : wRes (fWrapLeft_V.zip [x0, x1, x2, x3, x5, x6, x7, x8, x11]) rows [.tm 8] = some x8 := rfl

def WLcode_hints (f : Nat) : Hint := match f with | 26 => { fz := [5, 6, 7, 52] } | 5 | 27 | 38 => { fz := [5, 6, 7] } | 54 | 92 => { fz := [2] } | _ => {}
theorem fBit_ok : FnOK Try.prog 93 fBit := cgFn_ok (h := WLcode_hints 93) (by kernel_rfl)
theorem fHas_ok : FnOK Try.prog 54 fHas := cgFn_ok (h := WLcode_hints 54) (by kernel_rfl)
theorem fIn_ok : FnOK Try.prog 92 fIn := cgFn_ok (h := WLcode_hints 92) (by kernel_rfl)
theorem fLeft_ok : FnOK Try.prog 26 fLeft := cgFn_ok (h := WLcode_hints 26) (by kernel_rfl)
theorem fStays_ok : FnOK Try.prog 38 fStays := cgFn_ok (h := WLcode_hints 38) (by kernel_rfl)
theorem fRefLeft_ok : FnOK Try.prog 27 fRefLeft := cgFn_ok (h := WLcode_hints 27) (by kernel_rfl)
theorem fWrapLeft_ok : FnOK Try.prog 5 fWrapLeft := cgFn_ok (h := WLcode_hints 5) (by kernel_rfl)
theorem mixed : Try.prog.follows .mixedOrders = true := by kernel_rfl
end
end Go.Proofs.Ytfcfdedbbhdioaa.AI
