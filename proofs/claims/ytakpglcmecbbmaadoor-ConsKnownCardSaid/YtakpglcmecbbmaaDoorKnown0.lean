/- The configuration of the closed runs of this seat: what is known beforehand of three functions of the library. -/
import Derived.Test.YtakpglcmecbbmaaDoorAi25
import Derived.Test.YtakpglcmecbbmaaDoorShelf
namespace Go.Proofs.YtakpglcmecbbmaaDoor.AI
open Go Go.RowKit
set_option linter.unusedVariables false
set_option maxRecDepth 100000

noncomputable def prim0 (f : FuncId) (a : List AV) : Option AV := match f, a with
  | 22, [.c (.int .u64 (.ofNat x))] => if Nat.blt x 18446744073709551616 then some (.c (.int .i64 (.ofNat (Lib.ctz 64 x)))) else none
  | 62, [.c (.string b), .c (.int .u8 x)] => some (.c (.int .i64 (Lib.indexByte b.data.toList x.toNat.toUInt8)))
  | _, _ => none

noncomputable def C0 : Cfg := { P := Tryd.prog, fn := cgTab Tryd.prog {} 3 68, prim := prim0, keep := fun f => f == 29 }

/-- What is known of package-level variables. -/
def TabO (o : Obj) : Prop := ∀ w : World, w.heap[0]? = some o → TabAt 0 Lib.deBruijn64tab w

theorem prim0_ok {o : Obj} (ho : TabO o) (f : FuncId) (args : List AV) (r : AV) (h : prim0 f args = some r) (rows : List Row) : CallOK Tryd.prog [(0, o)] f args rows (.ret r rows) := by
  unfold prim0 at h
  split at h
  · rename_i x
    split at h
    · rename_i hx
      injection h with h
      subst h
      exact call_still (l := [.int .u64 (.ofNat x)]) (fun w hg => Tryd.bits_TrailingZeros64 x (Nat.blt_eq.mp hx) w fun _ => ho w (hg (0, o) (by simp)).2) rows
    · cases h
  · rename_i b x
    injection h with h
    subst h
    exact call_still (l := [.string b, .int .u8 x]) (fun w _ => Tryd.strings_IndexByte b x w) rows
  · cases h

theorem fns_ok : ((List.range 66).all fun i => match cgFn Tryd.prog {} (3 + i) with | some a => goodFn Tryd.prog (3 + i) a | none => true) = true := by kernel_rfl

theorem C0_ok {o : Obj} (ho : TabO o) : CfgOK Tryd.prog [(0, o)] C0 :=
  ⟨rfl, by kernel_rfl, fun f afn h => cgTab_ok (lo := 3) (n := 66) fns_ok f afn h (by decide), fun f args r h rows => prim0_ok ho f args r h rows⟩

theorem awake_run : runCall C0 3000 17 [] [] = .ok (.ret (.c (.bool true)) []) := by kernel_rfl

def allSet : AV := .agg [.ints .u64 4 [18446744073709551615, 18446744073709551615, 18446744073709551615, 18446744073709551615]]
def allList : AV := .fsl 256 1 [.ints .u8 256 [0, 1, 2, 3, 4, 5, 6, 7, 8, 9, 10, 11, 12, 13, 14, 15, 16, 17, 18, 19, 20, 21, 22, 23, 24, 25, 26, 27, 28, 29, 30, 31, 32, 33, 34, 35, 36, 37, 38, 39, 40, 41, 42, 43, 44, 45, 46, 47, 48, 49, 50, 51, 52, 53, 54, 55, 56, 57, 58, 59, 60, 61, 62, 63, 64, 65, 66, 67, 68, 69, 70, 71, 72, 73, 74, 75, 76, 77, 78, 79, 80, 81, 82, 83, 84, 85, 86, 87, 88, 89, 90, 91, 92, 93, 94, 95, 96, 97, 98, 99, 100, 101, 102, 103, 104, 105, 106, 107, 108, 109, 110, 111, 112, 113, 114, 115, 116, 117, 118, 119, 120, 121, 122, 123, 124, 125, 126, 127, 128, 129, 130, 131, 132, 133, 134, 135, 136, 137, 138, 139, 140, 141, 142, 143, 144, 145, 146, 147, 148, 149, 150, 151, 152, 153, 154, 155, 156, 157, 158, 159, 160, 161, 162, 163, 164, 165, 166, 167, 168, 169, 170, 171, 172, 173, 174, 175, 176, 177, 178, 179, 180, 181, 182, 183, 184, 185, 186, 187, 188, 189, 190, 191, 192, 193, 194, 195, 196, 197, 198, 199, 200, 201, 202, 203, 204, 205, 206, 207, 208, 209, 210, 211, 212, 213, 214, 215, 216, 217, 218, 219, 220, 221, 222, 223, 224, 225, 226, 227, 228, 229, 230, 231, 232, 233, 234, 235, 236, 237, 238, 239, 240, 241, 242, 243, 244, 245, 246, 247, 248, 249, 250, 251, 252, 253, 254, 255]]
theorem list_run : runCall C0 3000 25 [allSet] [] = .ok (.ret allList []) := by kernel_rfl

end Go.Proofs.YtakpglcmecbbmaaDoor.AI
