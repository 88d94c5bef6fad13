/- AI 20: regions that draw: every order ends as the text's order does. -/
import Derived.Test.YtfcfdedbbhdioaaAi19
namespace Go.Proofs.Ytfcfdedbbhdioaa.AI
noncomputable section
open Go
set_option linter.unusedVariables false
set_option linter.unusedSimpArgs false

section
variable (l : List AOper) (v : List (AV × List Row))

/-- Slots behind the operations below n that are in S. -/
def slt (S : Nat → Bool) (s : List AV) : Nat → List AV
  | 0 => s
  | i + 1 => if S i then (match l[i]?, v[i]? with | some o, some p => putL (slt S s i) o.dst p.1 | _, _ => slt S s i) else slt S s i

def loudAt (i : Nat) : Bool := match l[i]? with | some o => o.act.loud o.mode | none => false

/-- Rows behind them. -/
def rws (S : Nat → Bool) (rows : List Row) : Nat → List Row
  | 0 => rows
  | i + 1 => if S i && loudAt l i then (match v[i]? with | some p => p.2 | none => rws S rows i) else rws S rows i

def dstAt (i : Nat) : Option Nat := match l[i]? with | some o => o.dst | none => none

variable {l v}

theorem putL_length (s : List AV) (d : Option Nat) (x : AV) : (putL s d x).length = s.length := by
  cases d with
  | none => rfl
  | some d => exact lset_length s d x

theorem lget_putL (s : List AV) (d : Option Nat) (x : AV) (t : Nat) : lget (putL s d x) t = if d = some t then (if t < s.length then x else .junk) else lget s t := by
  cases d with
  | none => rfl
  | some d =>
    simp only [putL, lget_lset, Option.some.injEq]
    by_cases h : t = d
    · subst h; simp
    · rw [if_neg h, if_neg (Ne.symm h)]

theorem slt_length (S : Nat → Bool) (s : List AV) : ∀ n, (slt l v S s n).length = s.length
  | 0 => rfl
  | n + 1 => by
    have ih := slt_length S s n
    simp only [slt]
    split
    · split
      · rw [putL_length]; exact ih
      · exact ih
    · exact ih

/-- A slot: just those count that write it. -/
theorem slt_agree (S S' : Nat → Bool) (s : List AV) (t : Nat) : ∀ n, (∀ j, j < n → dstAt l j = some t → S j = S' j) → lget (slt l v S s n) t = lget (slt l v S' s n) t
  | 0, _ => rfl
  | n + 1, h => by
    have ih := slt_agree S S' s t n fun j hj => h j (by omega)
    have hn := h n (by omega)
    have key : ∀ S : Nat → Bool, dstAt l n ≠ some t → lget (slt l v S s (n + 1)) t = lget (slt l v S s n) t := by
      intro S hne
      simp only [slt]
      split
      · split
        · rename_i o p ho hp
          rw [lget_putL, if_neg]
          simpa [dstAt, ho] using hne
        · rfl
      · rfl
    by_cases hd : dstAt l n = some t
    · have hS := hn hd
      simp only [slt, hS]
      split
      · split
        · rw [lget_putL, lget_putL, slt_length, slt_length, ih]
        · exact ih
      · exact ih
    · rw [key S hd, key S' hd, ih]

theorem slt_last (S : Nat → Bool) (s : List AV) {i t : Nat} {o : AOper} {p : AV × List Row} (ho : l[i]? = some o) (hp : v[i]? = some p) (hd : o.dst = some t) (hS : S i = true) : ∀ n, i < n → (∀ j, i < j → j < n → S j = true → dstAt l j ≠ some t) →
    lget (slt l v S s n) t = if t < s.length then p.1 else .junk
  | 0, hi, _ => by omega
  | n + 1, hi, h => by
    by_cases hin : i = n
    · subst hin
      simp only [slt, hS, if_true, ho, hp]
      rw [lget_putL, if_pos hd, slt_length]
    · have ih := slt_last S s ho hp hd hS n (by omega) fun j hj hjn => h j hj (by omega)
      simp only [slt]
      split
      · rename_i hSn
        split
        · rename_i o' p' ho' hp'
          rw [lget_putL, if_neg, ih]
          have := h n (by omega) (by omega) hSn
          simpa [dstAt, ho'] using this
        · exact ih
      · exact ih

theorem list_ext {a b : List AV} (h : a.length = b.length) (hg : ∀ t, lget a t = lget b t) : a = b := by
  refine List.ext_getElem? fun i => ?_
  by_cases hi : i < a.length
  · have hi2 : i < b.length := by omega
    have := hg i
    rw [lget_getD, lget_getD] at this
    simp only [List.getD, hi, hi2, List.getElem?_eq_getElem, Option.getD_some] at this ⊢
    rw [this]
  · rw [List.getElem?_eq_none (by omega), List.getElem?_eq_none (by omega)]

theorem rws_agree (S S' : Nat → Bool) (rows : List Row) : ∀ n, (∀ j, j < n → loudAt l j = true → S j = S' j) → rws l v S rows n = rws l v S' rows n
  | 0, _ => rfl
  | n + 1, h => by
    have ih := rws_agree S S' rows n fun j hj => h j (by omega)
    simp only [rws]
    by_cases hl : loudAt l n = true
    · rw [h n (by omega) hl, hl, ih]
    · simp only [Bool.not_eq_true] at hl
      simp only [hl, Bool.and_false, Bool.false_eq_true, if_false]
      exact ih

theorem rws_last (S : Nat → Bool) (rows : List Row) {i : Nat} {p : AV × List Row} (hp : v[i]? = some p) (hl : loudAt l i = true) (hS : S i = true) : ∀ n, i < n → (∀ j, i < j → j < n → loudAt l j = true → S j = false) → rws l v S rows n = p.2
  | 0, hi, _ => by omega
  | n + 1, hi, h => by
    by_cases hin : i = n
    · subst hin
      simp only [rws, hS, hl, Bool.and_self, if_true, hp]
    · have ih := rws_last S rows hp hl hS n (by omega) fun j hj hjn => h j hj (by omega)
      simp only [rws]
      by_cases hln : loudAt l n = true
      · rw [h n (by omega) (by omega) hln]; exact ih
      · simp only [Bool.not_eq_true] at hln
        simp only [hln, Bool.and_false, Bool.false_eq_true, if_false]
        exact ih

/-- The state of the text's order before operation i. -/
theorem slt_prefix (s : List AV) (i : Nat) : ∀ n, i ≤ n → slt l v (fun j => decide (j < i)) s n = slt l v (fun _ => true) s i := by
  have below : ∀ m, m ≤ i → slt l v (fun j => decide (j < i)) s m = slt l v (fun _ => true) s m := by
    intro m
    induction m with
    | zero => intro _; rfl
    | succ m ih =>
      intro hm
      simp only [slt, ih (by omega), decide_eq_true_eq, if_true, show m < i by omega]
  intro n hn
  induction n with
  | zero => have : i = 0 := by omega
            subst this; rfl
  | succ n ih =>
    by_cases h : i = n + 1
    · subst h; exact below _ (Nat.le_refl _)
    · simp only [slt, decide_eq_true_eq, show ¬ n < i by omega, if_false]
      exact ih (by omega)

theorem rws_prefix (rows : List Row) (i : Nat) : ∀ n, i ≤ n → rws l v (fun j => decide (j < i)) rows n = rws l v (fun _ => true) rows i := by
  have below : ∀ m, m ≤ i → rws l v (fun j => decide (j < i)) rows m = rws l v (fun _ => true) rows m := by
    intro m
    induction m with
    | zero => intro _; rfl
    | succ m ih =>
      intro hm
      simp only [rws, ih (by omega), show m < i by omega, decide_true, Bool.true_and]
  intro n hn
  induction n with
  | zero => have : i = 0 := by omega
            subst this; rfl
  | succ n ih =>
    by_cases h : i = n + 1
    · subst h; exact below _ (Nat.le_refl _)
    · simp only [rws, show ¬ n < i by omega, decide_false, Bool.false_and, Bool.false_eq_true, if_false]
      exact ih (by omega)

end
end
end Go.Proofs.Ytfcfdedbbhdioaa.AI
