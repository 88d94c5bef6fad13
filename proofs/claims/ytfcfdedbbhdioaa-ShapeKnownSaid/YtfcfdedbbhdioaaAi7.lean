/- AI 7: len, append, make, literals. -/
import Derived.Test.YtfcfdedbbhdioaaAi6
import Derived.Laws.MakeOwn
import Derived.Great.BuildSlice
namespace Go.Proofs.Ytfcfdedbbhdioaa.AI
noncomputable section
open Go
set_option linter.unusedVariables false
set_option linter.unusedSimpArgs false

section
variable {P : Program} {G : List (Nat × Obj)} {s : List AV} {rows : List Row}

theorem does_len {o : Oper} {t : TypeId} {x : Operand} {y : AV} (ho : o.op = .call { callee := .builtin .len, args := #[x], argTypes := #[t] })
    (ht : (P.underlying t = some .string) ∨ ∃ e, P.underlying t = some (.slice e)) (h : lenAV rows ((Opd.of x).ev s) = some y)
    (hk : match (Opd.of x).ev s with | .c (.string _) => P.underlying t = some .string | .c (.slice ..) | .sl .. | .fsl .. => ∃ e, P.underlying t = some (.slice e) | _ => True) : Does P G o s rows y rows := by
  refine Does.quiet fun w R L a hs hr hg => ?_
  have hx := hs.ev x
  have k1 : ∀ p n c e, P.underlying t = some (.slice e) → a.eval x = .slice p n c → (execOp a.eval o).run P w = .ok (.value (.int .i64 n)) w := by
    intro p n c e hu hv
    simp [execOp, ho, resolve, invoke, builtin, hv, Builtin.len_, run_underlying hu, goInt]
  have k2 : ∀ b, P.underlying t = some .string → a.eval x = .string b → (execOp a.eval o).run P w = .ok (.value (.int .i64 b.size)) w := by
    intro b hu hv
    simp [execOp, ho, resolve, invoke, builtin, hv, Builtin.len_, run_underlying hu, goInt]
  generalize (Opd.of x).ev s = p at h hx hk
  generalize a.eval x = vx at hx k1 k2
  unfold lenAV at h
  split at h <;> try simp only [Option.some.injEq, reduceCtorEq] at h
  · split at h
    rotate_left
    · cases h
    rename_i hlv
    obtain ⟨e', b', hk'⟩ := live_ex hlv
    have hrow := hr.row _ _ hk'
    injection h with h
    subst h
    obtain ⟨e, hu⟩ := hk
    cases hx with
    | fr _ _ h' => cases h'
    | slGone _ _ _ _ _ _ _ hL => rw [hL] at hrow; exact hrow.elim
    | slNil => exact ⟨_, k1 _ _ _ e hu rfl, .fr _ _ (.c _)⟩
    | sl => exact ⟨_, k1 _ _ _ e hu rfl, .fr _ _ (.c _)⟩
  · subst h
    obtain ⟨e, hu⟩ := hk
    cases hx with
    | fr _ _ h' =>
      cases h' with
      | fsl => exact ⟨_, k1 _ _ _ e hu rfl, .fr _ _ (.c _)⟩
      | fslNil => exact ⟨_, k1 _ _ _ e hu rfl, .fr _ _ (.c _)⟩
  · subst h
    obtain ⟨e, hu⟩ := hk
    cases hx with
    | fr _ _ h' => cases h'; exact ⟨_, k1 _ _ _ e hu rfl, .fr _ _ (.c _)⟩
  · subst h
    cases hx with
    | fr _ _ h' => cases h'; exact ⟨_, k2 _ hk rfl, .fr _ _ (.c _)⟩

/-- A slice's elements: how many, their cells. -/
def contents (rows : List Row) (sz : Nat) : AV → Option (Nat × List Seg × Bool)
  | .sl k o len sz' =>
    match rows[k]? with
    | some (.blob _ b) => some (len, (subAt b o 0 (len * sz)).1, (subAt b o 0 (len * sz)).2 && decide (sz = sz'))
    | _ => none
  | .fsl n sz' b => some (n, b, decide (sz = sz'))
  | .c (.slice _ 0 _) => some (0, [], true)
  | _ => none

theorem contents_run {w : World} {R : Nat → Prop} {L : Nat → Place} {sz m : Nat} {y : AV} {vy : Value} {c : List Seg} (hr : RowsOK w R L rows) (hy : VR w R L y vy) (h : contents rows sz y = some (m, c, true)) :
    ∃ ya cap, vy = .slice ya m cap ∧ segsSize c = m * sz ∧ ∃ ys : List Value, ys.length = m * sz ∧ (∀ w'' : World, w''.heap = w.heap → (Builtin.firstCells sz m vy).run P w'' = .ok ys.toArray w'') ∧
      ∀ (j : Nat) (x : AV) (u : Value), segsCell c j = some x → ys[j]? = some u → VR w R L x u ∧ x.one = true := by
  have some_case : ∀ (g o cap : Nat) (cs : Array Value) (t : TypeId) (fr : Nat × Nat) (c : List Seg), w.heap[g]? = some (.cells cs t fr) → segsSize c = m * sz → o + m * sz ≤ cs.size →
      (∀ (j : Nat) (x : AV) (u : Value), segsCell c j = some x → cs[o + j]? = some u → VR w R L x u ∧ x.one = true) → vy = .slice (some ⟨g, o, none⟩) m cap →
      ∃ ya cap, vy = .slice ya m cap ∧ segsSize c = m * sz ∧ ∃ ys : List Value, ys.length = m * sz ∧ (∀ w'' : World, w''.heap = w.heap → (Builtin.firstCells sz m vy).run P w'' = .ok ys.toArray w'') ∧
      ∀ (j : Nat) (x : AV) (u : Value), segsCell c j = some x → ys[j]? = some u → VR w R L x u ∧ x.one = true := by
    intro g o cap cs t fr c hb hc hl hv hvy
    subst hvy
    have hlen : ((cs.toList.drop o).take (m * sz)).length = m * sz := by simp; omega
    refine ⟨_, _, rfl, hc, (cs.toList.drop o).take (m * sz), hlen, fun w'' hw => ?_, fun j x u hx hu => hv j x u hx ?_⟩
    · refine run_firstCells_some (P := P) w'' sz m ⟨g, o, none⟩ m cap _ hlen fun j v hv' => ?_
      rw [addr_add, cell_of_row w'' g (o + j) cs t fr (by rw [hw]; exact hb)]
      rw [List.getElem?_take] at hv'
      split at hv'
      · rw [List.getElem?_drop] at hv'; rw [← Array.getElem?_toList]; exact hv'
      · cases hv'
    · rw [List.getElem?_take] at hu
      split at hu
      · rw [List.getElem?_drop] at hu; rw [← Array.getElem?_toList]; exact hu
      · cases hu
  have none_case : ∀ (c : List Seg) (a : Option Addr) (cap : Nat), m = 0 → segsSize c = 0 → vy = .slice a 0 cap → ∃ ya cap, vy = .slice ya m cap ∧ segsSize c = m * sz ∧ ∃ ys : List Value, ys.length = m * sz ∧ (∀ w'' : World, w''.heap = w.heap → (Builtin.firstCells sz m vy).run P w'' = .ok ys.toArray w'') ∧
      ∀ (j : Nat) (x : AV) (u : Value), segsCell c j = some x → ys[j]? = some u → VR w R L x u ∧ x.one = true := by
    intro c a cap hm hc hvy
    subst hm hvy
    exact ⟨a, cap, rfl, by omega, [], by simp, fun w'' _ => by cases a <;> simp [Builtin.firstCells, loadCells, loadCellsFrom], fun j x u hx hu => by simp at hu⟩
  unfold contents at h
  split at h
  · rename_i k o len sz'
    split at h
    · rename_i e b hk
      simp only [Option.some.injEq, Prod.mk.injEq, Bool.and_eq_true, decide_eq_true_eq] at h
      obtain ⟨rfl, h2, h3, rfl⟩ := h
      obtain ⟨h4, h5, h6⟩ := subAt_spec h3
      have hrow := hr.row k _ hk
      cases hy with
      | fr _ _ h' => cases h'
      | slGone _ _ _ _ _ _ _ hL => rw [hL] at hrow; exact hrow.elim
      | slNil _ _ hL =>
        refine none_case _ _ _ rfl ?_ rfl
        rw [← h2, h4]; simp
      | sl _ _ _ _ g cap cs t fr hL hb hl hcap hm =>
        rw [hL] at hrow
        obtain ⟨_, cs', hb', hz, hc⟩ := hrow
        rw [hb] at hb'
        injection hb' with hb'
        injection hb' with q1 q2 q3
        subst q1
        refine some_case g o cap cs t fr c hb (by rw [← h2]; exact h4) (by omega) (fun j x u hx hu => ?_) rfl
        rw [← h2] at hx
        obtain ⟨x', hx', hmay⟩ := h6 j x hx
        have := hc _ x' u hx' (by rw [← hu]; congr 1)
        exact ⟨may_vr hmay this.1, may_one hmay this.2⟩
    · cases h
  · rename_i n sz' b
    simp only [Option.some.injEq, Prod.mk.injEq, decide_eq_true_eq] at h
    obtain ⟨rfl, rfl, rfl⟩ := h
    cases hy with
    | fr _ _ h' =>
      cases h' with
      | fsl _ _ _ g o cap cs t fr hb hR f hs hn hc h1 hv =>
        have hle : o + n * sz ≤ cs.size ∨ n * sz = 0 := by
          rcases Nat.eq_zero_or_pos (n * sz) with q | q
          · exact .inr q
          · obtain ⟨y', hy'⟩ := segsCell_ex (b := b) (j := n * sz - 1) (by omega)
            have := (Array.getElem?_eq_some_iff.1 (hc _ _ hy')).1
            exact .inl (by omega)
        rcases hle with hle | hle
        · exact some_case g o cap cs t fr b hb hs hle (fun j x u hx hu => by
            have e2 := hc j x hx
            rw [hu] at e2
            injection e2 with e2
            subst e2
            exact ⟨.fr _ _ (hv j x hx), h1 j x hx⟩) rfl
        · refine ⟨_, _, rfl, hs, [], by simp [hle], fun w'' _ => ?_, fun j x u hx hu => by simp at hu⟩
          simp [Builtin.firstCells, hle, loadCells, loadCellsFrom]
      | fslNil _ _ a cap hs => exact none_case _ a cap rfl hs rfl
  · simp only [Option.some.injEq, Prod.mk.injEq] at h
    obtain ⟨rfl, rfl, _⟩ := h
    cases hy with
    | fr _ _ h' => cases h'; exact none_case [] _ _ rfl rfl rfl
  · cases h

/-- The rows behind append. -/
def appAV (rows : List Row) (e : TypeId) (sz bytes : Nat) (x y : AV) : Option (AV × List Row × Bool) :=
  match contents rows sz x, contents rows sz y with
  | some (n, c, ok), some (m, c', ok') =>
    let r := segsApp c c'
    let small := ok && ok' && r.2 && decide ((n + m) * bytes ≤ 140737488355328) && decide (n + m ≤ maxLen)
    match x with
    | .sl k 0 _ _ =>
      match rows[k]? with
      | some (.blob e' _) => some (.sl rows.length 0 (n + m) sz, rows.set k .dead ++ [.blob e r.1], small && decide (e = e'))
      | _ => none
    | .c (.slice none 0 0) => some (.sl rows.length 0 (n + m) sz, rows ++ [.blob e r.1], small)
    | _ => none
  | _, _ => none

theorem run_app_in (w : World) (t ty e : TypeId) (i : TypeInfo) (ht : P.underlying t = some (.slice e)) (hi : P.info? e = some i) (g len cap : Nat) (cur : Array Value) (hg : w.heap[g]? = some (.cells cur e (0, 0)))
    (ya : Option Addr) (m c : Nat) (ys : List Value) (hl : ys.length = m * i.size) (hy : ∀ w'' : World, w''.heap = w.heap → (Builtin.firstCells i.size m (.slice ya m c)).run P w'' = .ok ys.toArray w'') (h1 : ∀ u ∈ ys, u.oneCell' = true)
    (hroom : len + m ≤ cap) (hfit : len * i.size + ys.length ≤ cur.size) :
    (Builtin.append_ #[t, t] ty #[.slice (some ⟨g, 0, none⟩) len cap, .slice ya m c]).run P w =
      .ok (.slice (some ⟨g, 0, none⟩) (len + m) cap) (w.setRow g (cur.toList.take (len * i.size) ++ ys ++ cur.toList.drop (len * i.size + ys.length)).toArray) := by
  have hf := hy w rfl
  have hst := run_storeCells_at P g (len * i.size) e ys 0 cur w hg (by simpa using hfit) h1
  simp only [Nat.add_zero] at hst
  simp [Builtin.append_, run_underlying ht, sizeOf, typeInfo, hi, Builtin.lenOf, hroom, hf, Addr.add_lit, hst]

theorem run_app_grow (w : World) (t ty e : TypeId) (i : TypeInfo) (z : Value) (ht : P.underlying t = some (.slice e)) (hi : P.info? e = some i) (hz : i.zero = some z)
    (xa : Option Addr) (len cap : Nat) (xs : List Value) (hx : ∀ w'' : World, w''.heap = w.heap → (Builtin.firstCells i.size len (.slice xa len cap)).run P w'' = .ok xs.toArray w'')
    (ya : Option Addr) (m c : Nat) (ys : List Value) (hy : ∀ w'' : World, w''.heap = w.heap → (Builtin.firstCells i.size m (.slice ya m c)).run P w'' = .ok ys.toArray w'')
    (hg : cap < len + m) (h63 : ((len + m : Nat) : Int) ≤ 9223372036854775807) (hfit : Builtin.nextslicecap (len + m) cap * i.bytes ≤ 281474976710656) :
    (Builtin.append_ #[t, t] ty #[.slice xa len cap, .slice ya m c]).run P w =
      .ok (.slice (some ⟨w.heap.size, 0, none⟩) (len + m) (grownCap w (len + m) cap e))
        (w.drew.alloc (.cells (xs.toArray ++ ys.toArray ++ Builtin.zeroCells z.cells (grownCap w (len + m) cap e - (len + m))) e)) := by
  have hn : ¬ (len + m ≤ cap) := by omega
  have h63' : ¬ (9223372036854775807 < ((len : Int) + (m : Int))) := by omega
  have h48' : ¬ (281474976710656 < Builtin.nextslicecap (len + m) cap * i.bytes) := by omega
  have hfx := hx w.drew rfl
  have hfy := hy w.drew rfl
  simp [Builtin.append_, run_underlying ht, sizeOf, typeInfo, zeroValue, hi, hz, Builtin.lenOf, hn, h63', h48', Question.forced, hfx, hfy, newRow, grownCap]
  congr 2
  apply Array.ext'
  simp [List.append_assoc]

theorem run_app_nothing (w : World) (t ty e : TypeId) (i : TypeInfo) (ht : P.underlying t = some (.slice e)) (hi : P.info? e = some i)
    (ya : Option Addr) (c : Nat) (ys : List Value) (hy : ∀ w'' : World, w''.heap = w.heap → (Builtin.firstCells i.size 0 (.slice ya 0 c)).run P w'' = .ok ys.toArray w'') :
    (Builtin.append_ #[t, t] ty #[.slice none 0 0, .slice ya 0 c]).run P w = .ok (.slice none 0 0) w := by
  have hfy := hy w rfl
  simp [Builtin.append_, run_underlying ht, sizeOf, typeInfo, hi, Builtin.lenOf, hfy]

/-- A row of no cells that need not lie anywhere. -/
theorem step_nil {w : World} {R : Nat → Prop} {L : Nat → Place} (hr : RowsOK w R L rows) (t : TypeId) (b : List Seg) (hb : segsSize b = 0) :
    Step w R L w R (fun k => if k = rows.length then .nil else L k) ∧ RowsOK w R (fun k => if k = rows.length then .nil else L k) (rows ++ [.blob t b]) := by
  have hs : Step w R L w R (fun k => if k = rows.length then .nil else L k) := by
    refine ⟨⟨rfl, rfl, rfl, Nat.le_refl _, fun _ _ _ => rfl, fun _ h => h, fun _ h => .inl h, fun k b h => ?_⟩, fun k hk => ?_⟩
    · split at h
      · cases h
      · exact .inr ⟨k, h⟩
    · have hne : k ≠ rows.length := fun e => hk (hr.none k (by omega))
      exact .inr ⟨if_neg hne, fun b cs t fr _ hb => ⟨cs, t, fr, hb, rfl⟩⟩
  refine ⟨hs, ⟨fun k r hk => ?_, fun k hk => ?_, hr.ro, fun k k' b hk hk' => ?_⟩⟩
  · rcases Nat.lt_trichotomy k rows.length with q | q | q
    · rw [List.getElem?_append_left q] at hk
      try dsimp only
      rw [if_neg (by omega)]
      exact Row.holds_mono (hr.row k r hk) (fun _ _ => hs.vr hr) fun b hb => ⟨rfl, hr.notR hb⟩
    · subst q
      simp at hk
      subst hk
      try dsimp only
      rw [if_pos rfl]
      exact hb
    · rw [List.getElem?_eq_none (by simp; omega)] at hk; cases hk
  · simp at hk
    try dsimp only
    rw [if_neg (by omega)]
    exact hr.none k (by omega)
  · try dsimp only at hk hk'
    split at hk
    · cases hk
    · split at hk'
      · cases hk'
      · exact hr.inj k k' b hk hk'

theorem zeroCells_size (z : Array Value) (n : Nat) : (Builtin.zeroCells z n).size = n * z.size := by simp [Builtin.zeroCells]

def zeroOf (P : Program) (t : TypeId) : Option Value := (P.info? t).bind (·.zero)

theorem does_append {o : Oper} {t e : TypeId} {x y : Operand} {sz bytes : Nat} {z : Value} {r : AV} {rows' : List Row} (ho : o.op = .call { callee := .builtin .append, args := #[x, y], argTypes := #[t, t] })
    (ht : sliOf P t = some e) (hn : tySize P e = some sz) (hby : (P.info? e).map (·.bytes) = some bytes) (hz : zeroOf P e = some z) (hzs : z.cells.size = sz) (hsz : 0 < sz)
    (h : appAV rows e sz bytes ((Opd.of x).ev s) ((Opd.of y).ev s) = some (r, rows', true)) : Does P G o s rows r rows' := by
  intro w R L a hs hr hg
  have hx := hs.ev x
  have hy := hs.ev y
  have key : ∀ v w', (Builtin.append_ #[t, t] o.type #[a.eval x, a.eval y]).run P w = .ok v w' → (execOp a.eval o).run P w = .ok (.value v) w' := by
    intro v w' hv
    simp [execOp, ho, resolve, invoke, builtin, hv]
  generalize (Opd.of x).ev s = px at h hx
  generalize (Opd.of y).ev s = py at h hy
  generalize a.eval x = vx at hx key
  generalize a.eval y = vy at hy key
  obtain ⟨i, hi⟩ : ∃ i, P.info? e = some i := by
    cases hq : P.info? e with
    | none => simp [tySize, hq] at hn
    | some i => exact ⟨i, rfl⟩
  have hisz : i.size = sz := by simpa [tySize, hi] using hn
  have hiby : i.bytes = bytes := by simpa [hi] using hby
  have hiz : i.zero = some z := by simpa [zeroOf, hi] using hz
  have hu := sliOf_u ht
  unfold appAV at h
  split at h
  rotate_left
  · cases h
  rename_i n c ok m c' ok' hcx hcy
  dsimp only at h
  -- what is known of the two
  have common : (ok = true ∧ ok' = true) → (segsApp c c').2 = true → (n + m) * bytes ≤ 140737488355328 → n + m ≤ maxLen →
      ∀ (k? : Option Nat), (∀ k, k? = some k → k < rows.length ∧ ∃ len sz', px = .sl k 0 len sz') → (k? = none → vx = .slice none 0 0) → (∀ k, k? = some k → ∃ b, rows[k]? = some (.blob e b)) →
      rows' = (match k? with | some k => rows.set k .dead | none => rows) ++ [.blob e (segsApp c c').1] → r = .sl rows.length 0 (n + m) sz →
      ∃ v w' R' L', ((execOp a.eval o).run P w = .ok (.value v) w' ∨ ((execOp a.eval o).run P w = .ok .skip w' ∧ v = undef)) ∧ VR w' R' L' r v ∧ RowsOK w' R' L' rows' ∧ Step w R L w' R' L' := by
    rintro ⟨rfl, rfl⟩ happ hbytes hmax k? hk1 hk2 hk3 rfl rfl
    obtain ⟨xa, xcap, rfl, hcz, xs, hxl, hxf, hxv⟩ := contents_run (P := P) hr hx hcx
    obtain ⟨ya, ycap, rfl, hcz', ys, hyl, hyf, hyv⟩ := contents_run (P := P) hr hy hcy
    obtain ⟨hasz, hacell⟩ := segsApp_spec happ
    have h63 : ((n + m : Nat) : Int) ≤ 9223372036854775807 := by simp only [maxLen] at hmax; omega
    -- the cells of the new row
    have hcells : ∀ (cs : Array Value), (∀ j, j < n * sz → cs[j]? = xs[j]?) → (∀ j, j < m * sz → cs[n * sz + j]? = ys[j]?) →
        ∀ (j : Nat) (q : AV) (u : Value), segsCell (segsApp c c').1 j = some q → cs[j]? = some u → VR w R L q u ∧ q.one = true := by
      intro cs hc1 hc2 j q u hq hu'
      rw [hacell] at hq
      split at hq
      · rename_i hj
        rw [hcz] at hj
        rw [hc1 j hj] at hu'
        exact hxv j q u hq hu'
      · rename_i hj
        have hlt := segsCell_lt hq
        rw [hcz] at hj hlt hq
        have : cs[j]? = ys[j - n * sz]? := by rw [← hc2 (j - n * sz) (by omega)]; congr 1; omega
        rw [this] at hu'
        exact hyv _ q u hq hu'
    have hone : ∀ u ∈ ys, u.oneCell' = true := by
      intro u hu'
      obtain ⟨j, hj⟩ := List.mem_iff_getElem?.1 hu'
      have hjl : j < segsSize c' := by have := (List.getElem?_eq_some_iff.1 hj).1; omega
      obtain ⟨q, hq⟩ := segsCell_ex hjl
      exact (hyv j q u hq hj).1.one (hyv j q u hq hj).2
    have hnm : n * sz + m * sz = (n + m) * sz := (Nat.add_mul _ _ _).symm
    -- a new block, or none at all
    have fresh : ∀ cap', ((Builtin.append_ #[t, t] o.type #[.slice xa n xcap, .slice ya m ycap]).run P w = .ok (.slice (some ⟨w.heap.size, 0, none⟩) (n + m) cap') (w.drew.alloc (.cells (xs.toArray ++ ys.toArray ++ Builtin.zeroCells z.cells (cap' - (n + m))) e))) → n + m ≤ cap' → cap' ≤ maxLen →
        ∃ v w' R' L', ((execOp a.eval o).run P w = .ok (.value v) w' ∨ ((execOp a.eval o).run P w = .ok .skip w' ∧ v = undef)) ∧ VR w' R' L' (.sl rows.length 0 (n + m) sz) v ∧ RowsOK w' R' L' ((match k? with | some k => rows.set k .dead | none => rows) ++ [.blob e (segsApp c c').1]) ∧ Step w R L w' R' L' := by
      intro cap' hrun hle hcm
      have hsize : (xs.toArray ++ ys.toArray ++ Builtin.zeroCells z.cells (cap' - (n + m))).size = cap' * sz := by
        simp only [Array.size_append, List.size_toArray, zeroCells_size, hxl, hyl, hzs, hnm, ← Nat.add_mul]
        congr 1
        omega
      have hall := hcells (xs.toArray ++ ys.toArray ++ Builtin.zeroCells z.cells (cap' - (n + m)))
        (fun j hj => by rw [Array.getElem?_append_left (by simp; omega), Array.getElem?_append_left (by simp; omega)]; simp)
        (fun j hj => by rw [Array.getElem?_append_left (by simp; omega), Array.getElem?_append_right (by simp; omega)]; simp [hxl])
      have hle2 : segsSize (segsApp c c').1 ≤ cap' * sz := by rw [hasz, hcz, hcz', hnm]; exact Nat.mul_le_mul_right _ hle
      have hro : ¬ R w.heap.size := fun q => by have := hr.ro _ q; omega
      cases k? with
      | none =>
        obtain ⟨hst, hok⟩ := step_new hr (w1 := w.drew.alloc (.cells (xs.toArray ++ ys.toArray ++ Builtin.zeroCells z.cells (cap' - (n + m))) e)) (o := .cells (xs.toArray ++ ys.toArray ++ Builtin.zeroCells z.cells (cap' - (n + m))) e) rfl rfl rfl rfl
        refine ⟨_, _, _, _, .inl (key _ _ hrun), ?_, hok _ ⟨hro, _, heap_alloc_new w.drew _, by rw [hsize]; exact hle2, fun j q u hq hu' => ?_⟩, hst⟩
        · exact .sl _ 0 _ _ w.heap.size cap' _ e (0, 0) (by simp) (heap_alloc_new w.drew _) hle (by rw [hsize]; omega) hcm
        · exact ⟨hst.vr hr (hall j q u hq hu').1, (hall j q u hq hu').2⟩
      | some k =>
        obtain ⟨hkl, _⟩ := hk1 k rfl
        obtain ⟨hst, hok⟩ := step_use hr hkl (.at_ w.heap.size) (w1 := w.drew.alloc (.cells (xs.toArray ++ ys.toArray ++ Builtin.zeroCells z.cells (cap' - (n + m))) e)) (fun b hb => by injection hb with hb; exact .inl (by omega)) (.inr ⟨_, rfl, by simp⟩) (by simp) (fun b' hb' _ => heap_alloc_old w.drew _ b' hb') rfl rfl rfl
        refine ⟨_, _, _, _, .inl (key _ _ hrun), ?_, hok _ ⟨hro, _, heap_alloc_new w.drew _, by rw [hsize]; exact hle2, fun j q u hq hu' => ?_⟩, hst⟩
        · exact .sl _ 0 _ _ w.heap.size cap' _ e (0, 0) (by simp) (heap_alloc_new w.drew _) hle (by rw [hsize]; omega) hcm
        · exact ⟨hst.vr hr (hall j q u hq hu').1, (hall j q u hq hu').2⟩
    have grow : ∀ (hg' : xcap < n + m), Builtin.nextslicecap (n + m) xcap * i.bytes ≤ 281474976710656 → ∃ v w' R' L', ((execOp a.eval o).run P w = .ok (.value v) w' ∨ ((execOp a.eval o).run P w = .ok .skip w' ∧ v = undef)) ∧ VR w' R' L' (.sl rows.length 0 (n + m) sz) v ∧ RowsOK w' R' L' ((match k? with | some k => rows.set k .dead | none => rows) ++ [.blob e (segsApp c c').1]) ∧ Step w R L w' R' L' := fun hg' hfit =>
      fresh (grownCap w (n + m) xcap e) (run_app_grow w t o.type e i z hu hi hiz xa n xcap xs (by rw [hisz]; exact hxf) ya m ycap ys (by rw [hisz]; exact hyf) hg' h63 hfit) (grownCap_ge _ _ _ _) (grownCap_le_maxLen _ _ _ _ hmax)
    have hb48 : (n + m) * i.bytes ≤ 140737488355328 := by rw [hiby]; exact hbytes
    cases hxa : xa with
    | none =>
      subst hxa
      -- the nil slice
      have hnil : n = 0 ∧ xcap = 0 := by
        cases k? with
        | none => have := hk2 rfl; injection this with _ q1 q2; exact ⟨q1, q2⟩
        | some k =>
          obtain ⟨_, len, sz', rfl⟩ := hk1 k rfl
          obtain ⟨b, hkb⟩ := hk3 k rfl
          cases hx with
          | fr _ _ h' => cases h'
          | slGone _ _ _ _ _ _ _ hL => have hrow := hr.row k _ hkb; rw [hL] at hrow; exact hrow.elim
          | slNil => exact ⟨rfl, rfl⟩
      obtain ⟨rfl, rfl⟩ := hnil
      rcases Nat.eq_zero_or_pos m with hm0 | hm0
      · subst hm0
        have hrun := run_app_nothing w t o.type e i hu hi ya ycap ys (by rw [hisz]; exact hyf)
        have hz0 : segsSize (segsApp c c').1 = 0 := by rw [hasz, hcz, hcz']; simp
        cases k? with
        | none =>
          obtain ⟨hst, hok⟩ := step_nil hr e _ hz0
          exact ⟨_, _, _, _, .inl (key _ _ hrun), .slNil rows.length sz (by simp), hok, hst⟩
        | some k =>
          obtain ⟨hkl, _⟩ := hk1 k rfl
          obtain ⟨hst, hok⟩ := step_use hr hkl .nil (w1 := w) (fun b hb => by cases hb) (.inl rfl) (Nat.le_refl _) (fun _ _ _ => rfl) rfl rfl rfl
          exact ⟨_, _, _, _, .inl (key _ _ hrun), .slNil rows.length sz (by simp), hok _ hz0, hst⟩
      · exact grow (by omega) (by rw [Nat.zero_add, nextslicecap_zero hm0]; simp only [Nat.zero_add] at hb48; omega)
    | some ad =>
      subst hxa
      by_cases hroom : n + m ≤ xcap
      · -- in its own block
        cases k? with
        | none => exact absurd (hk2 rfl) (by simp)
        | some k =>
          obtain ⟨hkl, len, sz', rfl⟩ := hk1 k rfl
          obtain ⟨b, hkb⟩ := hk3 k rfl
          have hrow := hr.row k _ hkb
          cases hx with
          | fr _ _ h' => cases h'
          | slGone _ _ _ _ _ _ _ hL => rw [hL] at hrow; exact hrow.elim
          | sl _ _ _ _ g cap cs tt fr hL hb hl hcap hm =>
            rw [hL] at hrow
            obtain ⟨hnR, cs', hb', hzb, hcb⟩ := hrow
            rw [hb] at hb'
            injection hb' with hb'
            injection hb' with q1 q2 q3
            subst q1 q2 q3
            have hsz' : sz = sz' := by
              simp only [contents, hkb, Option.some.injEq, Prod.mk.injEq, Bool.and_eq_true, decide_eq_true_eq] at hcx
              exact hcx.2.2.2
            subst hsz'
            have hroom2 : (n + m) * sz ≤ cs.size := by have := Nat.mul_le_mul_right sz hroom; omega
            have hrun := run_app_in w t o.type _ i hu hi g n xcap cs hb ya m ycap ys (by rw [hisz]; exact hyl) (by rw [hisz]; exact hyf) hone hroom (by rw [hisz, hyl, hnm]; exact hroom2)
            rw [hisz] at hrun
            have hset := setRow_heap w g cs (cs.toList.take (n * sz) ++ ys ++ cs.toList.drop (n * sz + ys.length)).toArray _ (0, 0) hb
            have hnz : (cs.toList.take (n * sz) ++ ys ++ cs.toList.drop (n * sz + ys.length)).toArray.size = cs.size := by simp [hyl]; omega
            obtain ⟨hst, hok⟩ := step_use hr hkl (.at_ g) (w1 := w.setRow g (cs.toList.take (n * sz) ++ ys ++ cs.toList.drop (n * sz + ys.length)).toArray) (fun b' hb' => by injection hb' with hb'; subst hb'; exact .inr hL)
              (.inr ⟨g, rfl, by simp; exact hr.block_lt hL⟩) (by simp) (fun b' _ hb' => setRow_other w g b' _ fun q => hb' (q ▸ hL)) rfl rfl rfl
            refine ⟨_, _, _, _, .inl (key _ _ hrun), ?_, hok _ ⟨hnR, _, hset, by rw [hnz, hasz, hcz, hcz', hnm]; exact hroom2, fun j q u hq hu' => ?_⟩, hst⟩
            · exact .sl _ 0 _ _ g xcap _ _ (0, 0) (by simp) hset hroom (by rw [hnz]; omega) hm
            · have hxs : ∀ j, j < n * sz → (cs.toList.take (n * sz) ++ ys ++ cs.toList.drop (n * sz + ys.length)).toArray[j]? = xs[j]? := by
                intro j hj
                have hfc := hxf w rfl
                have hl2 : ((cs.toList).take (n * sz)).length = n * sz := by simp; omega
                have hfc2 := run_firstCells_some (P := P) w sz n ⟨g, 0, none⟩ n xcap (cs.toList.take (n * sz)) hl2 (fun j v hv' => by
                  rw [addr_add, cell_of_row w g (0 + j) cs _ _ hb]
                  rw [List.getElem?_take] at hv'
                  split at hv'
                  · rw [Nat.zero_add, ← Array.getElem?_toList]; exact hv'
                  · cases hv')
                rw [hfc] at hfc2
                injection hfc2 with hfc2
                have hfc3 : xs = cs.toList.take (n * sz) := by simpa using hfc2
                have : (cs.toList.take (n * sz) ++ ys ++ cs.toList.drop (n * sz + ys.length))[j]? = (cs.toList.take (n * sz))[j]? := by
                  rw [List.append_assoc, List.getElem?_append_left (by omega)]
                rw [hfc3]
                simpa using this
              have hys : ∀ j, j < m * sz → (cs.toList.take (n * sz) ++ ys ++ cs.toList.drop (n * sz + ys.length)).toArray[n * sz + j]? = ys[j]? := by
                intro j hj
                have hl2 : ((cs.toList).take (n * sz)).length = n * sz := by simp; omega
                have : (cs.toList.take (n * sz) ++ ys ++ cs.toList.drop (n * sz + ys.length))[n * sz + j]? = ys[j]? := by
                  rw [List.append_assoc, List.getElem?_append_right (by omega), hl2, List.getElem?_append_left (by omega)]
                  congr 1; omega
                simpa using this
              have := hcells _ hxs hys j q u hq hu'
              exact ⟨hst.vr hr this.1, this.2⟩
      · exact grow (by omega) (growslice_fits (by omega) hb48)
  split at h
  · rename_i k len sz'
    split at h
    · rename_i e' b hkb
      simp only [Option.some.injEq, Prod.mk.injEq, Bool.and_eq_true, decide_eq_true_eq] at h
      obtain ⟨h1, h2, ⟨⟨⟨h3, h4⟩, h5⟩, h6⟩, rfl⟩ := h
      exact common h3 h4 h5 h6 (some k) (fun k' hk' => by injection hk' with hk'; subst hk'; exact ⟨(List.getElem?_eq_some_iff.1 hkb).1, _, _, rfl⟩) (fun q => by cases q) (fun k' hk' => by injection hk' with hk'; subst hk'; exact ⟨b, hkb⟩) h2.symm h1.symm
    · cases h
  · simp only [Option.some.injEq, Prod.mk.injEq, Bool.and_eq_true, decide_eq_true_eq] at h
    obtain ⟨h1, h2, ⟨⟨h3, h4⟩, h5⟩, h6⟩ := h
    refine common h3 h4 h5 h6 none (fun k' hk' => by cases hk') (fun _ => ?_) (fun k' hk' => by cases hk') h2.symm h1.symm
    cases hx with | fr _ _ h' => cases h'; rfl
  · cases h

end
end
end Go.Proofs.Ytfcfdedbbhdioaa.AI
