/- AI S5: symbolic runs: slices under construction. -/
import Derived.Test.YtfcfdedbbhdioaaAiS4
namespace Go.Proofs.Ytfcfdedbbhdioaa.AI
noncomputable section
open Go
set_option linter.unusedVariables false
set_option linter.unusedSimpArgs false

theorem aopF_bsl (fz : Bool) (e : TypeId) (sz ln : Nat) (z : Value) (ps : List (Nat × Nat × Opd)) (P : Program) (ev : Opd → AV) (rows : List Row) : aopF (.bsl fz e sz ln z ps) P ev rows =
    match bslCells ev sz ln z ps with
    | some r => if fz then some (.fsl ln sz (segsOf r), rows, r.all (AV.pur 4)) else some (.sl rows.length 0 ln sz, rows ++ [.blob e (segsOf r)], true)
    | none => none := rfl
theorem evE_hit (e : Env) (i : Nat) (x : AV) : evE ((i, x) :: e) (.tm i) = x := by simp [evE, look]
theorem evE_miss (e : Env) (i j : Nat) (x : AV) (h : j ≠ i) : evE ((j, x) :: e) (.tm i) = evE e (.tm i) := by simp [evE, look, h]
theorem aopF_build (z : Value) (ps : List (Nat × Nat × Opd)) (P : Program) (ev : Opd → AV) (rows : List Row) : aopF (.build z ps) P ev rows = match fillAV ev ps (z.cells.toList.map .c) with | some r => some (.agg (segsOf r), rows, true) | none => none := rfl

theorem wrap_u8 {n : Int} (h0 : 0 ≤ n) (h1 : n < 256) : IntKind.u8.wrap n = n := by simp [IntKind.wrap, IntKind.signed, IntKind.bits]; omega
theorem wrap_u64 {n : Int} (h0 : 0 ≤ n) (h1 : n < 18446744073709551616) : IntKind.u64.wrap n = n := by simp [IntKind.wrap, IntKind.signed, IntKind.bits]; omega
theorem wrap_i64 {n : Int} (h0 : -9223372036854775808 ≤ n) (h1 : n < 9223372036854775808) : IntKind.i64.wrap n = n := by simp [IntKind.wrap, IntKind.signed, IntKind.bits]; omega
/-- One more, one less. -/
theorem wrap_succ (n : Nat) (h : n < 9223372036854775807) : IntKind.i64.wrap ((n : Int) + 1) = ((n + 1 : Nat) : Int) := by rw [show (n : Int) + 1 = ((n + 1 : Nat) : Int) by omega]; exact wrap_i64 (by omega) (by omega)
theorem wrap_pred (n : Nat) (h : n < 9223372036854775807) : IntKind.i64.wrap ((n : Int) - 1) = (n : Int) - 1 := wrap_i64 (by omega) (by omega)
theorem wrap_nat (n : Nat) (h : n < 9223372036854775808) : IntKind.i64.wrap (n : Int) = (n : Int) := wrap_i64 (by omega) (by omega)
theorem tmod_64 (c : Nat) : Int.tmod (c : Int) 64 = ((c % 64 : Nat) : Int) := rfl
theorem tdiv_64 (c : Nat) : Int.tdiv (c : Int) 64 = ((c / 64 : Nat) : Int) := rfl
theorem tdiv_2 (c : Nat) : Int.tdiv (c : Int) 2 = ((c / 2 : Nat) : Int) := rfl
theorem tmod_2 (c : Nat) : Int.tmod (c : Int) 2 = ((c % 2 : Nat) : Int) := rfl

/-! ### Texts -/

/-- A text. -/
def S (l : List UInt8) : ByteArray := ⟨⟨l⟩⟩
def strA (l : List UInt8) : AV := .c (.string (S l))

theorem S_size (l : List UInt8) : (S l).size = l.length := by simp [S, ByteArray.size]
theorem S_list (l : List UInt8) : (S l).data.toList = l := by simp [S]
theorem S_inj (l m : List UInt8) : (S l = S m) = (l = m) := by
  simp [S]
theorem S_append (l m : List UInt8) : S l ++ S m = S (l ++ m) := by
  apply ByteArray.ext
  simp [S]
theorem S_extract (l : List UInt8) (a b : Nat) : (S l).extract a b = S ((l.take b).drop a) := by
  apply ByteArray.ext
  rw [ByteArray.data_extract]
  apply Array.ext'
  simp only [S, Array.toList_extract, List.extract_eq_take_drop]
  rw [List.drop_take]
theorem S_nil : (⟨#[]⟩ : ByteArray) = S [] := rfl

theorem strA_pur (l : List UInt8) : (strA l).pur 6 = true := rfl
theorem pur4_c (v : Value) : (AV.c v).pur 4 = true := rfl
theorem pur6_c (v : Value) : (AV.c v).pur 6 = true := rfl
theorem pur4_ints (k : IntKind) (n : Nat) (l : List Int) : (AV.agg [.ints k n l]).pur 4 = true := rfl
theorem pur6_ints (k : IntKind) (n : Nat) (l : List Int) : (AV.agg [.ints k n l]).pur 6 = true := rfl
theorem pur6_fints (m sz : Nat) (k : IntKind) (n : Nat) (l : List Int) : (AV.fsl m sz [.ints k n l]).pur 6 = true := rfl
theorem pur6_fbools (m sz : Nat) (n : Nat) (l : List Bool) : (AV.fsl m sz [.bools n l]).pur 6 = true := rfl

/-! ### Slices of whole numbers -/

/-- A slice of whole numbers under construction: what it holds. -/
def Acc (e : TypeId) (k : IntKind) (rows : List Row) (x : AV) (acc : List Int) : Prop :=
  (acc = [] ∧ x = .c (.slice none 0 0)) ∨ ∃ j, x = .sl j 0 acc.length 1 ∧ rows[j]? = some (.blob e [.ints k acc.length acc])

theorem Acc.nil (e : TypeId) (k : IntKind) (rows : List Row) : Acc e k rows (.c (.slice none 0 0)) [] := .inl ⟨rfl, rfl⟩

theorem wB_app {e : TypeId} {k : IntKind} {bytes : Nat} {rows : List Row} {x : AV} {acc : List Int} {n : Int} {K : AV → List Row → Prop} (h : Acc e k rows x acc) (hb : (acc.length + 1) * bytes ≤ 140737488355328) (hm : acc.length + 1 ≤ maxLen)
    (hK : ∀ x' rows', Acc e k rows' x' (acc ++ [n]) → K x' rows') : wB (hApp e 1 bytes x (.fsl 1 1 [.ints k 1 [n]]) rows) K := by
  rcases h with ⟨rfl, rfl⟩ | ⟨j, rfl, hj⟩
  · simp only [hApp, appAV, contents, segsApp, wB_some, Bool.and_eq_true, decide_eq_true_eq]
    refine ⟨by simp at hb hm ⊢; omega, hK _ _ (.inr ⟨rows.length, rfl, by simp⟩)⟩
  · have h1 : ((List.drop (0 + 0) acc).take (acc.length * 1)) = acc := by simp
    simp only [hApp, appAV, contents, hj, subAt, h1, segsApp, if_true, wB_some, Bool.and_eq_true, decide_eq_true_eq]
    refine ⟨by simp; omega, hK _ _ (.inr ⟨rows.length, by simp, ?_⟩)⟩
    rw [List.getElem?_append_right (by simp)]
    simp

def bytesZ (l : List UInt8) : List Int := l.map fun b => ((b.toNat : Nat) : Int)

theorem bytesZ_length (l : List UInt8) : (bytesZ l).length = l.length := by simp [bytesZ]
theorem bytesZ_append (l m : List UInt8) : bytesZ (l ++ m) = bytesZ l ++ bytesZ m := by simp [bytesZ]
theorem bytesZ_one (b : UInt8) : bytesZ [b] = [((b.toNat : Nat) : Int)] := rfl

theorem wB_app_u8 {e : TypeId} {bytes : Nat} {rows : List Row} {x : AV} {acc : List UInt8} {b : UInt8} {n : Int} {K : AV → List Row → Prop} (h : Acc e .u8 rows x (bytesZ acc)) (hn : n = ((b.toNat : Nat) : Int)) (hb : (acc.length + 1) * bytes ≤ 140737488355328) (hm : acc.length < 140737488355328)
    (hK : ∀ x' rows', Acc e .u8 rows' x' (bytesZ (acc ++ [b])) → K x' rows') : wB (hApp e 1 bytes x (.fsl 1 1 [.ints .u8 1 [n]]) rows) K := by
  subst hn
  refine wB_app h (by rwa [bytesZ_length]) (by rw [bytesZ_length]; simp [maxLen]; omega) fun x' rows' hA => hK x' rows' ?_
  rw [bytesZ_append, bytesZ_one]
  exact hA

theorem bstr_bytes (l : List UInt8) : bstr (bytesZ l) = S l := by
  simp only [bstr, bytesZ, List.map_map, S]
  congr 2
  conv => rhs; rw [← List.map_id l]
  apply List.map_congr_left
  intro b _
  simp

theorem wB_b2s {e : TypeId} {rows : List Row} {x : AV} {l : List UInt8} {K : AV → List Row → Prop} (h : Acc e .u8 rows x (bytesZ l)) (hK : K (strA l) rows) : wB (hB2s x rows) K := by
  rcases h with ⟨h, rfl⟩ | ⟨j, rfl, hj⟩
  · have : l = [] := by simpa [bytesZ] using h
    subst this
    simp only [hB2s, b2sAV, contents, Option.map_some, wB_some]
    exact ⟨trivial, hK⟩
  · have h1 : ((List.drop (0 + 0) (bytesZ l)).take ((bytesZ l).length * 1)) = bytesZ l := by simp
    simp only [hB2s, b2sAV, contents, hj, subAt, h1, Option.map_some, wB_some]
    simp only [Nat.mul_one, List.take_length, bstr_bytes]
    exact ⟨by simp, hK⟩

end
end Go.Proofs.Ytfcfdedbbhdioaa.AI
