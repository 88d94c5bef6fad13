/- AI 21: regions that draw: what comes before what; the law. -/
import Derived.Test.YtfcfdedbbhdioaaAi20
namespace Go.Proofs.Ytfcfdedbbhdioaa.AI
noncomputable section
open Go
set_option linter.unusedVariables false
set_option linter.unusedSimpArgs false

theorem hasBit_testBit (m k : Nat) : hasBit m k = m.testBit k := by
  unfold hasBit
  rw [Nat.testBit_eq_decide_div_mod_eq, Nat.shiftRight_eq_div_pow]
  by_cases h : m / 2 ^ k % 2 = 1 <;> simp [h]

theorem fold_bits (acc : List Nat) (a : Nat) : ∀ (ks : List Nat) (m : Nat), hasBit (ks.foldl (fun m k => m ||| (1 <<< k) ||| acc.getD k 0) m) a = true → hasBit m a = true ∨ ∃ k ∈ ks, a = k ∨ hasBit (acc.getD k 0) a = true
  | [], m, h => .inl h
  | k :: ks, m, h => by
    rcases fold_bits acc a ks _ h with h1 | ⟨k', hk', h1⟩
    · rw [hasBit_testBit, Nat.testBit_or, Nat.testBit_or, Bool.or_eq_true, Bool.or_eq_true] at h1
      rcases h1 with (h1 | h1) | h1
      · exact .inl (by rw [hasBit_testBit]; exact h1)
      · refine .inr ⟨k, by simp, .inl ?_⟩
        rw [Nat.one_shiftLeft, Nat.testBit_two_pow] at h1
        simpa [eq_comm] using h1
      · exact .inr ⟨k, by simp, .inr (by rw [hasBit_testBit]; exact h1)⟩
    · exact .inr ⟨k', by simp [hk'], h1⟩

theorem ancs_old : ∀ (l : List AOper) (acc : List Nat) (j : Nat), j < acc.length → (ancs l acc).getD j 0 = acc.getD j 0
  | [], acc, j, h => rfl
  | o :: l, acc, j, h => by
    unfold ancs
    rw [ancs_old l _ j (by simp; omega)]
    simp [List.getD, List.getElem?_append_left h]

theorem ancs_at : ∀ (l : List AOper) (acc : List Nat) (i : Nat) (o : AOper), l[i]? = some o → ∀ a, hasBit ((ancs l acc).getD (acc.length + i) 0) a = true →
    ∃ k ∈ o.after, a = k ∨ (k < acc.length + i ∧ hasBit ((ancs l acc).getD k 0) a = true)
  | [], acc, i, o, h, a, hb => by simp at h
  | o' :: l, acc, 0, o, h, a, hb => by
    simp at h
    subst h
    unfold ancs at hb
    rw [ancs_old l _ _ (by simp)] at hb
    simp only [Nat.add_zero, List.getD, List.getElem?_append_right (Nat.le_refl _), Nat.sub_self, List.getElem?_cons_zero, Option.getD_some] at hb
    rcases fold_bits acc a o'.after 0 hb with h0 | ⟨k, hk, h1⟩
    · rw [hasBit_testBit] at h0; simp at h0
    · refine ⟨k, hk, ?_⟩
      rcases h1 with h1 | h1
      · exact .inl h1
      · by_cases hkl : k < acc.length
        · refine .inr ⟨by omega, ?_⟩
          rw [ancs_old _ _ _ hkl]
          exact h1
        · exfalso
          rw [hasBit_testBit] at h1
          simp [List.getD, List.getElem?_eq_none (Nat.le_of_not_lt hkl)] at h1
  | o' :: l, acc, i + 1, o, h, a, hb => by
    unfold ancs at hb ⊢
    have := ancs_at l (acc ++ [o'.after.foldl (fun m k => m ||| (1 <<< k) ||| acc.getD k 0) 0]) i o (by simpa using h) a (by
      have e : (acc ++ [o'.after.foldl (fun m k => m ||| (1 <<< k) ||| acc.getD k 0) 0]).length + i = acc.length + (i + 1) := by simp; omega
      rw [e]; exact hb)
    obtain ⟨k, hk, h1⟩ := this
    refine ⟨k, hk, h1.imp id fun q => ⟨?_, q.2⟩⟩
    have := q.1
    simp at this
    omega

theorem zipIdx_mem {α : Type} : ∀ (l : List α) (k i : Nat) (x : α), l[i]? = some x → (k + i, x) ∈ zipIdx l k
  | [], k, i, x, h => by simp at h
  | y :: l, k, 0, x, h => by simp at h; subst h; simp [zipIdx]
  | y :: l, k, i + 1, x, h => by
    have := zipIdx_mem l (k + 1) i x (by simpa using h)
    simp only [zipIdx, List.mem_cons]
    exact .inr (by rw [show k + (i + 1) = k + 1 + i by omega]; exact this)

theorem anc_done {l : List AOper} {S : Nat → Bool} (hS : DownS l S) : ∀ (i : Nat) (o : AOper), l[i]? = some o → (∀ k ∈ o.after, S k = true) → ∀ a, hasBit ((ancs l []).getD i 0) a = true → S a = true := by
  intro i
  induction i using Nat.strongRecOn with
  | ind i ih =>
    intro o ho hpre a ha
    obtain ⟨k, hk, h1⟩ := ancs_at l [] i o ho a (by simpa using ha)
    rcases h1 with rfl | ⟨hlt, h1⟩
    · exact hpre _ hk
    · simp only [List.length_nil, Nat.zero_add] at hlt
      have hl : i < l.length := (List.getElem?_eq_some_iff.1 ho).1
      exact ih k hlt l[k] (by simp [show k < l.length by omega]) (fun k' hk' => hS k l[k] (by simp [show k < l.length by omega]) (hpre k hk) k' hk') a h1

structure RegOK (l : List AOper) : Prop where
  after : ∀ (i : Nat) (o : AOper), l[i]? = some o → ∀ k ∈ o.after, k < i
  nosel : ∀ (i : Nat) (o : AOper), l[i]? = some o → noSelB o.act = true
  apart : ∀ (i j : Nat) (x y : AOper), l[i]? = some x → l[j]? = some y → i < j → apart2 (ancs l []) i j x y = true

theorem regOK_spec {l : List AOper} (h : regOK l = true) : RegOK l := by
  unfold regOK at h
  simp only [List.all_eq_true, Bool.and_eq_true, Bool.or_eq_true, decide_eq_true_eq] at h
  refine ⟨fun i o ho k hk => ?_, fun i o ho => ?_, fun i j x y hx hy hij => ?_⟩
  · have := (h (0 + i, o) (zipIdx_mem l 0 i o ho)).1.1 k hk
    simpa using this
  · exact (h (0 + i, o) (zipIdx_mem l 0 i o ho)).1.2
  · have := (h (0 + i, x) (zipIdx_mem l 0 i x hx)).2 (0 + j, y) (zipIdx_mem l 0 j y hy)
    simp only [Nat.zero_add] at this
    rcases this with h1 | h1
    · omega
    · exact h1

structure Apart (x y : AOper) (i j : Nat) : Prop where
  dst : ∀ t, x.dst = some t → y.dst ≠ some t
  rd : ∀ t, x.dst = some t → .tm t ∉ y.reads
  dr : ∀ t, y.dst = some t → .tm t ∉ x.reads
  loud : ¬ (x.act.loud x.mode = true ∧ y.act.loud y.mode = true)
  fx : y.act.loud y.mode = true → j ∈ x.free
  fy : x.act.loud x.mode = true → i ∈ y.free

theorem apart2_spec {an : List Nat} {i j : Nat} {x y : AOper} (h : apart2 an i j x y = true) : hasBit (an.getD j 0) i = true ∨ Apart x y i j := by
  unfold apart2 at h
  rw [Bool.or_eq_true] at h
  rcases h with h | h
  · exact .inl h
  · refine .inr ?_
    simp only [Bool.and_eq_true, Bool.not_eq_true', Bool.or_eq_true, Bool.not_eq_true, Bool.and_eq_false_imp, List.contains_iff_mem] at h
    obtain ⟨⟨⟨⟨h1, h2⟩, h3⟩, h4⟩, h5⟩ := h
    have rdx : ∀ (z : AOper) t, (z.reads.any fun r => match r with | .tm t' => t' == t | _ => false) = false → .tm t ∉ z.reads := by
      intro z t ha hm
      rw [List.any_eq_false] at ha
      exact ha _ hm (by simp)
    refine ⟨fun t ht => ?_, fun t ht => ?_, fun t ht => ?_, fun q => ?_, fun q => ?_, fun q => ?_⟩
    · rw [ht] at h1; simp only [Bool.and_eq_true, Bool.not_eq_true', beq_eq_false_iff_ne] at h1; exact h1.1
    · rw [ht] at h1; simp only [Bool.and_eq_true, Bool.not_eq_true'] at h1; exact rdx y t h1.2
    · rw [ht] at h2; simp only [Bool.not_eq_true'] at h2; exact rdx x t h2
    · have := h3 q.1; rw [q.2] at this; cases this
    · rcases h4 with h4 | h4
      · rw [q] at h4; cases h4
      · exact h4
    · rcases h5 with h5 | h5
      · rw [q] at h5; cases h5
      · exact h5

end
end Go.Proofs.Ytfcfdedbbhdioaa.AI
