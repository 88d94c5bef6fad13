/- Arguments that are handed in, as abstract values: one codec for each type. -/
import Derived.Test.YtfcfdedbbhdioaaAiS5
import Derived.Test.YtfcfdedbbhdioaaAi25
import Derived.ChangeArms
import Derived.WideShapes
namespace Go.Proofs.Ytfcfdedbbhdioaa.AI
open Go
set_option linter.unusedVariables false
set_option linter.unusedSimpArgs false

/-- Cells, and their values. -/
def CellsFR (w : World) (R : Nat → Prop) (l : List AV) (cs : List Value) : Prop :=
  cs.length = l.length ∧ ∀ (j : Nat) (y : AV) (v : Value), l[j]? = some y → cs[j]? = some v → FR w R y v ∧ y.one = true ∧ v.oneCell' = true

/-- What is handed in of a type: the values of a Lean type, with bounds. -/
def Opens {H : Type} (enc : TypeId × Value → H) (P : Program) (w : World) (t : TypeId) {α : Type} (cells : α → List AV) (ok : α → Prop) : Prop :=
  ∀ (fuel : Nat) (cs : List Value) (x : DataW H × List MemPlace), DataW.trod enc P w 0 (fun _ => true) true fuel t cs = some x → ∃ a, ok a ∧ CellsFR w (oldR w) (cells a) cs

section
variable {H : Type} {enc : TypeId × Value → H} {P : Program} {w : World} {t e : TypeId} {α β : Type}

theorem Opens.map {cells : α → List AV} {ok : α → Prop} {cells' : β → List AV} {ok' : β → Prop} (h : Opens enc P w t cells ok) (hm : ∀ a, ok a → ∃ b, ok' b ∧ cells' b = cells a) : Opens enc P w t cells' ok' := by
  intro fuel cs x hx
  obtain ⟨a, h1, h2⟩ := h fuel cs x hx
  obtain ⟨b, h3, h4⟩ := hm a h1
  exact ⟨b, h3, h4 ▸ h2⟩

theorem CellsFR.one {R : Nat → Prop} {y : AV} {v : Value} (h : FR w R y v) (h1 : y.one = true) (h2 : v.oneCell' = true) : CellsFR w R [y] [v] := by
  refine ⟨rfl, fun j y' v' hy hv => ?_⟩
  cases j with
  | zero => cases hy; cases hv; exact ⟨h, h1, h2⟩
  | succ j => simp at hy

theorem opens_int {k : IntKind} (ht : P.underlying t = some (.int k)) : Opens enc P w t (fun n : Int => [.c (.int k n)]) (fun n => k.min ≤ n ∧ n ≤ k.max) := by
  intro fuel cs x hx
  obtain ⟨n, rfl, rfl, hw⟩ := DataW.trod_int ht hx
  exact ⟨n, by simpa [Lit.wf] using hw, .one (.c _) rfl rfl⟩

theorem opens_bool (ht : P.underlying t = some .bool) : Opens enc P w t (fun b : Bool => [.c (.bool b)]) (fun _ => True) := by
  intro fuel cs x hx
  cases fuel with
  | zero => simp [DataW.trod] at hx
  | succ n =>
    unfold DataW.trod at hx
    rw [ht] at hx
    rcases cs with _ | ⟨v, _ | ⟨v', cs⟩⟩
    · simp at hx
    · cases v <;> simp at hx
      exact ⟨_, trivial, .one (.c _) rfl rfl⟩
    · simp at hx

theorem S_back (s : ByteArray) : S s.data.toList = s := by
  apply ByteArray.ext
  simp [S]

theorem opens_string (ht : P.underlying t = some .string) : Opens enc P w t (fun l : List UInt8 => [strA l]) (fun l => l.length ≤ maxLen) := by
  intro fuel cs x hx
  obtain ⟨s, rfl, rfl, hw⟩ := DataW.trod_string ht hx
  refine ⟨s.data.toList, by show s.data.toList.length ≤ maxLen; rw [Array.length_toList]; exact hw, .one ?_ rfl rfl⟩
  rw [strA, S_back]
  exact .c _

theorem range_mapM_some {γ : Type} {f : Nat → Option γ} {n : Nat} {r : List γ} (h : (List.range n).mapM f = some r) (i : Nat) (hi : i < n) : ∃ x, f i = some x := by
  have h1 := Go.mapM_some_get h i i (by simp [hi])
  have h2 : r.length = n := by simpa using Go.mapM_some_length h
  exact ⟨r[i]'(by omega), by rw [h1]; simp [h2, hi]⟩

/-- A list of things that there are. -/
theorem list_of {γ : Type} {n : Nat} {p : Nat → γ → Prop} (h : ∀ i, i < n → ∃ a, p i a) : ∃ l : List γ, l.length = n ∧ ∀ (i : Nat) (a : γ), l[i]? = some a → p i a := by
  induction n with
  | zero => exact ⟨[], rfl, fun i a hi => by simp at hi⟩
  | succ n ih =>
    obtain ⟨l, h1, h2⟩ := ih fun i hi => h i (by omega)
    obtain ⟨a, ha⟩ := h n (by omega)
    refine ⟨l ++ [a], by simp [h1], fun i b hi => ?_⟩
    by_cases hl : i < l.length
    · rw [List.getElem?_append_left hl] at hi
      exact h2 i b hi
    · rw [List.getElem?_append_right (by omega)] at hi
      have : i = n := by
        rcases Nat.lt_or_ge (i - l.length) 1 with h | h
        · omega
        · rw [List.getElem?_eq_none (by simpa using h)] at hi; cases hi
      subst this
      rw [h1, Nat.sub_self] at hi
      cases hi
      exact ha

theorem flat_at {γ δ : Type} {sz : Nat} {f : γ → List δ} (hsz : 0 < sz) : ∀ (l : List γ), (∀ a ∈ l, (f a).length = sz) → ∀ j, (l.flatMap f)[j]? = (l[j / sz]?).bind fun a => (f a)[j % sz]?
  | [], _, j => by simp
  | a :: l, h, j => by
    have ha := h a (by simp)
    rw [List.flatMap_cons]
    by_cases hj : j < sz
    · rw [List.getElem?_append_left (by omega), Nat.div_eq_of_lt hj, Nat.mod_eq_of_lt hj]
      rfl
    · obtain ⟨k, rfl⟩ : ∃ k, j = sz + k := ⟨j - sz, by omega⟩
      rw [List.getElem?_append_right (by omega), flat_at hsz l (fun b hb => h b (by simp [hb])), ha]
      rw [Nat.add_sub_cancel_left, Nat.add_div_left _ hsz, Nat.add_mod_left]
      simp

theorem flat_len {γ δ : Type} {sz : Nat} {f : γ → List δ} : ∀ (l : List γ), (∀ a ∈ l, (f a).length = sz) → (l.flatMap f).length = l.length * sz
  | [], _ => by simp
  | a :: l, h => by rw [List.flatMap_cons, List.length_append, h a (by simp), flat_len l fun b hb => h b (by simp [hb]), List.length_cons, Nat.succ_mul]; omega

theorem opens_array {n sz : Nat} {cells : α → List AV} {ok : α → Prop} (ht : P.underlying t = some (.array n e)) (he : P.cellsOf e = sz) (hsz : 0 < sz) (hc : P.cellsOf t = n * sz) (hlen : ∀ a, ok a → (cells a).length = sz) (h : Opens enc P w e cells ok) :
    Opens enc P w t (fun l : List α => l.flatMap cells) (fun l => l.length = n ∧ ∀ a ∈ l, ok a) := by
  intro fuel cs x hx
  cases fuel with
  | zero => simp [DataW.trod] at hx
  | succ fuel =>
    have hx : (if cs.length = P.cellsOf t then ((List.range n).mapM fun i => DataW.trod enc P w 0 (fun _ => true) true fuel e ((cs.drop (i * P.cellsOf e)).take (P.cellsOf e))).map fun xs => (DataW.agg (xs.map (·.1)), xs.flatMap (·.2)) else none) = some x := by
      unfold DataW.trod at hx
      rw [ht] at hx
      split at hx <;> simp_all
    split at hx
    · rename_i hl
      simp only [Option.map_eq_some_iff] at hx
      obtain ⟨xs, hxs, _⟩ := hx
      have one := fun i hi => range_mapM_some hxs i hi
      obtain ⟨l, hl1, hl2⟩ := list_of (n := n) (p := fun i a => ok a ∧ CellsFR w (oldR w) (cells a) ((cs.drop (i * P.cellsOf e)).take (P.cellsOf e))) fun i hi => by
        obtain ⟨y, hy⟩ := one i hi
        exact h _ _ _ hy
      have hmem : ∀ a ∈ l, ok a := fun a ha => by
        obtain ⟨i, hi⟩ := List.mem_iff_getElem?.1 ha
        exact (hl2 i a hi).1
      refine ⟨l, ⟨hl1, hmem⟩, ?_, fun j y v hy hv => ?_⟩
      · rw [flat_len l fun a ha => hlen a (hmem a ha), hl1, hl, hc]
      · rw [flat_at hsz l fun a ha => hlen a (hmem a ha)] at hy
        simp only [Option.bind_eq_some_iff] at hy
        obtain ⟨a, ha, hy⟩ := hy
        refine (hl2 _ a ha).2.2 (j % sz) y v hy ?_
        rw [he, List.getElem?_take_of_lt (Nat.mod_lt _ hsz), List.getElem?_drop, show j / sz * sz + j % sz = j by rw [Nat.mul_comm]; exact Nat.div_add_mod j sz]
        exact hv
    · cases hx

/-- A value of one cell that is handed in. -/
theorem arg_single {cells : α → List AV} {ok : α → Prop} (h : Opens enc P w t cells ok) {v : Value} {d : DataW H} {ps : List MemPlace} (hv : v.cells.toList = [v]) (hd : DataW.Trod enc P w 0 (fun _ => true) true t v d ps) :
    ∃ a, ok a ∧ ∀ y, cells a = [y] → VR w (oldR w) unbornL y v := by
  obtain ⟨fuel, hf⟩ := hd
  rw [hv] at hf
  obtain ⟨a, h1, h2⟩ := h _ _ _ hf
  exact ⟨a, h1, fun y hy => .fr _ _ (h2.2 0 y v (by rw [hy]; rfl) rfl).1⟩

/-- A value of several cells that is handed in. -/
theorem arg_agg {cells : α → List AV} {ok : α → Prop} (h : Opens enc P w t cells ok) {v : Value} {cs : Array Value} {d : DataW H} {ps : List MemPlace} (hv : v = .agg cs) (hd : DataW.Trod enc P w 0 (fun _ => true) true t v d ps) :
    ∃ a, ok a ∧ ∀ b : List Seg, segsSize b = (cells a).length → (∀ j, segsCell b j = (cells a)[j]?) → VR w (oldR w) unbornL (.agg b) v := by
  obtain ⟨fuel, hf⟩ := hd
  subst hv
  obtain ⟨a, h1, h2⟩ := h _ _ _ hf
  refine ⟨a, h1, fun b hb hbc => .fr _ _ (.agg b cs ?_ (fun j y hy => ?_) (fun j y v hy hv => ?_))⟩
  · rw [hb, ← h2.1]; rfl
  · rw [hbc] at hy
    have hj : j < (cells a).length := by
      rcases Nat.lt_or_ge j (cells a).length with h | h
      · exact h
      · rw [List.getElem?_eq_none h] at hy; cases hy
    have hl := h2.1
    exact (h2.2 j y (cs.toList[j]'(by rw [show cs.toList.length = _ from hl]; exact hj)) hy (by simp [Value.cells])).2.1
  · rw [hbc] at hy
    exact (h2.2 j y v hy (by rw [Array.getElem?_toList]; exact hv)).1

theorem okWide_array {r : Reach} {b0 n : Nat} {v : Value} (ht : P.underlying t = some (.array n e)) (h : Value.okWide P w r b0 t v) : ∃ cs, v = .agg cs := by
  simp only [Value.okWide, ht] at h
  obtain ⟨cs, h, _⟩ := h
  exact ⟨cs, h⟩

end

end Go.Proofs.Ytfcfdedbbhdioaa.AI
