/- AI 1: abstract values, rows of cells, and their relation to the model's values. -/
import Derived.Calls
import Derived.RowKit3
import Derived.KernelRfl
namespace Go.Proofs.Ytfcfdedbbhdioaa.AI
noncomputable section
open Go
set_option linter.unusedVariables false
set_option linter.unusedSimpArgs false

mutual
/-- Abstract values. `c v`: just that value. `ptr`, `sl`, `mp`: into the local rows. `fptr`, `fsl`: into memory that nobody writes any more. -/
inductive AV where
  | c (v : Value)
  | junk
  | ptr (k off ix : Nat)
  | sl (k off len sz : Nat)
  | mp (k : Nat)
  | fptr (x : AV) (off ix : Nat)
  | fsl (n sz : Nat) (b : List Seg)
  | agg (b : List Seg)
  | tup (l : List AV)
  | fn (f : FuncId) (caps : List AV)
  | ifc (t : TypeId) (x : AV)
  | fz (x : AV)
  | junk1
/-- Cells, by their make. -/
inductive Seg where
  | ints (k : IntKind) (n : Nat) (l : List Int)
  | bools (n : Nat) (l : List Bool)
  | avs (l : List AV)
  | recs (sz n : Nat) (f : Nat → Nat → AV)
end

instance : Inhabited AV := ⟨.junk⟩
instance : Inhabited Seg := ⟨.avs []⟩

def Seg.size : Seg → Nat
  | .ints _ n _ => n
  | .bools n _ => n
  | .avs l => l.length
  | .recs sz n _ => n * sz

def Seg.cell : Seg → Nat → Option AV
  | .ints k n l, j => if j < n then some (.c (.int k (l.getD j 0))) else none
  | .bools n l, j => if j < n then some (.c (.bool (l.getD j false))) else none
  | .avs l, j => l[j]?
  | .recs sz n f, j => if j < n * sz then some (.fz (f (j / sz) (j % sz))) else none

def segsSize : List Seg → Nat
  | [] => 0
  | s :: b => s.size + segsSize b

def segsCell : List Seg → Nat → Option AV
  | [], _ => none
  | s :: b, j => if j < s.size then s.cell j else segsCell b (j - s.size)

theorem Seg.cell_some (s : Seg) (j : Nat) : (s.cell j).isSome = true ↔ j < s.size := by
  cases s <;> simp only [Seg.cell, Seg.size]
  · split <;> simp_all
  · split <;> simp_all
  · simp
  · split <;> simp_all

theorem segsCell_some (b : List Seg) : ∀ j, (segsCell b j).isSome = true ↔ j < segsSize b := by
  induction b with
  | nil => intro j; simp [segsCell, segsSize]
  | cons s b ih =>
    intro j
    simp only [segsCell, segsSize]
    split
    · rename_i h; rw [Seg.cell_some]; omega
    · rename_i h; rw [ih]; omega

/-- The cells of a value that lies in cells. -/
def AV.cell : AV → Nat → Option AV
  | .agg b, j => segsCell b j
  | .c (.agg cs), j => (cs.toList[j]?).map .c
  | .junk, _ => none
  | .tup _, _ => none
  | x, 0 => some x
  | _, _ + 1 => none

/-- Is it (for certain) the value of one cell? -/
def AV.one : AV → Bool
  | .c v => v.oneCell'
  | .ptr .. | .sl .. | .mp _ | .fptr .. | .fsl .. | .fn .. | .ifc .. | .junk1 => true
  | .fz x => x.one
  | _ => false

/-- What a cell of quiet memory holds. -/
def AV.unfz : AV → AV
  | .fz x => x
  | x => x

def AV.size : AV → Option Nat
  | .agg b => some (segsSize b)
  | .c (.agg cs) => some cs.size
  | .c (.tuple _) => none
  | .junk => none
  | .tup _ => none
  | _ => some 1

/-- Where a row lies. -/
inductive Place where
  | unborn | gone | nil | at_ (b : Nat)
  deriving DecidableEq

/-- A value of memory that nobody writes: `R b`: block b is such. -/
inductive FR (w : World) (R : Nat → Prop) : AV → Value → Prop
  | c (v : Value) : FR w R (.c v) v
  | fptr (x : AV) (off ix b o : Nat) (cs : Array Value) (t : TypeId) (fr : Nat × Nat) (hb : w.heap[b]? = some (.cells cs t fr)) (hR : R b) (g : Nat → Value)
      (hc : ∀ (j : Nat) (y : AV), x.cell j = some y → cs[o + j]? = some (g j)) (h1 : ∀ (j : Nat) (y : AV), x.cell j = some y → y.one = true) (hv : ∀ (j : Nat) (y : AV), x.cell j = some y → FR w R y (g j)) :
      FR w R (.fptr x off ix) (.pointer (some ⟨b, o + (off + ix), none⟩))
  | fsl (n sz : Nat) (b : List Seg) (g o cap : Nat) (cs : Array Value) (t : TypeId) (fr : Nat × Nat) (hb : w.heap[g]? = some (.cells cs t fr)) (hR : R g) (f : Nat → Value) (hs : segsSize b = n * sz) (hn : n ≤ cap)
      (hc : ∀ (j : Nat) (y : AV), segsCell b j = some y → cs[o + j]? = some (f j)) (h1 : ∀ (j : Nat) (y : AV), segsCell b j = some y → y.one = true) (hv : ∀ (j : Nat) (y : AV), segsCell b j = some y → FR w R y (f j)) :
      FR w R (.fsl n sz b) (.slice (some ⟨g, o, none⟩) n cap)
  | fslNil (sz : Nat) (b : List Seg) (a : Option Addr) (cap : Nat) (hs : segsSize b = 0) : FR w R (.fsl 0 sz b) (.slice a 0 cap)
  | agg (b : List Seg) (cs : Array Value) (hsz : cs.size = segsSize b) (h1 : ∀ (j : Nat) (y : AV), segsCell b j = some y → y.one = true) (hv : ∀ (j : Nat) (y : AV) (v : Value), segsCell b j = some y → cs[j]? = some v → FR w R y v) : FR w R (.agg b) (.agg cs)
  | tup (l : List AV) (vs : Array Value) (hsz : vs.size = l.length) (hv : ∀ (j : Nat) (y : AV) (v : Value), l[j]? = some y → vs[j]? = some v → FR w R y v) : FR w R (.tup l) (.tuple vs)
  | fn (f : FuncId) (caps : List AV) (vs : Array Value) (hsz : vs.size = caps.length) (hv : ∀ (j : Nat) (y : AV) (v : Value), caps[j]? = some y → vs[j]? = some v → FR w R y v) : FR w R (.fn f caps) (.func (.func f) #[] vs)
  | ifc (t : TypeId) (x : AV) (v : Value) (h : FR w R x v) : FR w R (.ifc t x) (.iface t v)
  | fz (x : AV) (v : Value) (h : FR w R x v) (h1 : v.oneCell' = true) : FR w R (.fz x) v

/-- An abstract value, and the model's. -/
inductive VR (w : World) (R : Nat → Prop) (L : Nat → Place) : AV → Value → Prop
  | fr (x : AV) (v : Value) (h : FR w R x v) : VR w R L x v
  | junk (v : Value) : VR w R L .junk v
  | junk1 (v : Value) (h : v.oneCell' = true) : VR w R L .junk1 v
  | ptrGone (k off ix : Nat) (a : Option Addr) (h : L k = .gone) : VR w R L (.ptr k off ix) (.pointer a)
  | ptr (k off ix b : Nat) (h : L k = .at_ b) : VR w R L (.ptr k off ix) (.pointer (some ⟨b, off + ix, none⟩))
  | slGone (k off len sz : Nat) (a : Option Addr) (n cap : Nat) (h : L k = .gone) : VR w R L (.sl k off len sz) (.slice a n cap)
  | slNil (k sz : Nat) (h : L k = .nil) : VR w R L (.sl k 0 0 sz) (.slice none 0 0)
  | sl (k off len sz b cap : Nat) (cs : Array Value) (t : TypeId) (fr : Nat × Nat) (h : L k = .at_ b) (hb : w.heap[b]? = some (.cells cs t fr)) (hl : len ≤ cap) (hcap : off + cap * sz ≤ cs.size) (hm : cap ≤ maxLen) :
      VR w R L (.sl k off len sz) (.slice (some ⟨b, off, none⟩) len cap)
  | mpGone (k : Nat) (r : Option Nat) (h : L k = .gone) : VR w R L (.mp k) (.map r)
  | mp (k b : Nat) (h : L k = .at_ b) : VR w R L (.mp k) (.map (some b))
  | agg (b : List Seg) (cs : Array Value) (hsz : cs.size = segsSize b) (h1 : ∀ (j : Nat) (y : AV), segsCell b j = some y → y.one = true) (hv : ∀ (j : Nat) (y : AV) (v : Value), segsCell b j = some y → cs[j]? = some v → VR w R L y v) : VR w R L (.agg b) (.agg cs)
  | tup (l : List AV) (vs : Array Value) (hsz : vs.size = l.length) (hv : ∀ (j : Nat) (y : AV) (v : Value), l[j]? = some y → vs[j]? = some v → VR w R L y v) : VR w R L (.tup l) (.tuple vs)
  | fn (f : FuncId) (caps : List AV) (vs : Array Value) (hsz : vs.size = caps.length) (hv : ∀ (j : Nat) (y : AV) (v : Value), caps[j]? = some y → vs[j]? = some v → VR w R L y v) : VR w R L (.fn f caps) (.func (.func f) #[] vs)
  | ifc (t : TypeId) (x : AV) (v : Value) (h : VR w R L x v) : VR w R L (.ifc t x) (.iface t v)

/-- Rows: cells with their element type; a map's entries; nothing. -/
inductive Row where
  | blob (t : TypeId) (b : List Seg)
  | map (es : List (Value × AV))
  | dead

instance : Inhabited Row := ⟨.dead⟩

/-- What a row says of memory. -/
def Row.holds (w : World) (R : Nat → Prop) (L : Nat → Place) : Row → Place → Prop
  | .dead, p => p = .gone
  | .blob t b, .at_ g => ¬ R g ∧ ∃ cs, w.heap[g]? = some (.cells cs t (0, 0)) ∧ segsSize b ≤ cs.size ∧ ∀ (j : Nat) (y : AV) (v : Value), segsCell b j = some y → cs[j]? = some v → VR w R L y v ∧ y.one = true
  | .blob _ b, .nil => segsSize b = 0
  | .map es, .at_ g => ¬ R g ∧ ∃ ms clock, w.heap[g]? = some (.map ms clock) ∧ ms.size = es.length ∧ (∀ (j : Nat) (x : Value × AV) (m : MapEntry), es[j]? = some x → ms[j]? = some m → m.key = x.1 ∧ VR w R L x.2 m.val ∧ m.born < clock) ∧
      (∀ (i j : Nat) (m m' : MapEntry), ms[i]? = some m → ms[j]? = some m' → m.born = m'.born → i = j)
  | _, _ => False

structure RowsOK (w : World) (R : Nat → Prop) (L : Nat → Place) (rows : List Row) : Prop where
  row : ∀ (k : Nat) (r : Row), rows[k]? = some r → r.holds w R L (L k)
  none : ∀ k, rows.length ≤ k → L k = .unborn
  ro : ∀ b, R b → b < w.heap.size
  inj : ∀ k k' b, L k = .at_ b → L k' = .at_ b → k = k'

/-- Blocks that may be written: a row's, and new ones. -/
def Mine (w : World) (L : Nat → Place) (b : Nat) : Prop := w.heap.size ≤ b ∨ ∃ k, L k = .at_ b

/-- What a step may have turned. `A`: the blocks that may be written. -/
structure Frm (A : Nat → Prop) (w : World) (R : Nat → Prop) (w' : World) (R' : Nat → Prop) (L' : Nat → Place) : Prop where
  os : w'.os = w.os
  tape : w'.tape = w.tape
  output : w'.output = w.output
  size : w.heap.size ≤ w'.heap.size
  block : ∀ b, b < w.heap.size → ¬ A b → w'.heap[b]? = w.heap[b]?
  ro : ∀ b, R b → R' b
  ro' : ∀ b, R' b → R b ∨ A b
  mine : ∀ k b, L' k = .at_ b → A b

theorem Frm.refl (A : Nat → Prop) (w : World) (R : Nat → Prop) (L : Nat → Place) (h : ∀ k b, L k = .at_ b → A b) : Frm A w R w R L :=
  ⟨rfl, rfl, rfl, Nat.le_refl _, fun _ _ _ => rfl, fun _ h => h, fun _ h => .inl h, h⟩

theorem Frm.trans {A A' : Nat → Prop} {w w1 w2 : World} {R R1 R2 : Nat → Prop} {L1 L2 : Nat → Place} (h : Frm A w R w1 R1 L1) (h' : Frm A' w1 R1 w2 R2 L2) (hA : ∀ b, A' b → A b) :
    Frm A w R w2 R2 L2 :=
  ⟨h'.os.trans h.os, h'.tape.trans h.tape, h'.output.trans h.output, Nat.le_trans h.size h'.size,
    fun b hb hn => (h'.block b (Nat.lt_of_lt_of_le hb h.size) (fun c => hn (hA b c))).trans (h.block b hb hn),
    fun b hb => h'.ro b (h.ro b hb), fun b hb => (h'.ro' b hb).elim (fun q => h.ro' b q) (fun q => .inr (hA b q)), fun k b hk => hA b (h'.mine k b hk)⟩

/-- A value of quiet memory stays. -/
theorem FR.mono {w w' : World} {R R' : Nat → Prop} {x : AV} {v : Value} (h : FR w R x v) (hR : ∀ b, R b → R' b) (hw : ∀ b, R b → w'.heap[b]? = w.heap[b]?) : FR w' R' x v := by
  induction h with
  | c v => exact .c v
  | fptr x off ix b o cs t fr hb hr g hc h1 _ ih => exact .fptr x off ix b o cs t fr ((hw b hr).trans hb) (hR b hr) g hc h1 ih
  | fsl n sz b g o cap cs t fr hb hr f hs hn hc h1 _ ih => exact .fsl n sz b g o cap cs t fr ((hw g hr).trans hb) (hR g hr) f hs hn hc h1 ih
  | fslNil sz b a cap hs => exact .fslNil sz b a cap hs
  | agg b cs hsz h1 _ ih => exact .agg b cs hsz h1 ih
  | tup l vs hsz _ ih => exact .tup l vs hsz ih
  | fn f caps vs hsz _ ih => exact .fn f caps vs hsz ih
  | ifc t x v _ ih => exact .ifc t x v ih
  | fz x v _ h1 ih => exact .fz x v ih h1

/-- How places may turn: a row may go; a row that stays lies where it lay, and its block has as many cells. -/
def Keeps (w w' : World) (L L' : Nat → Place) : Prop :=
  ∀ k, L k ≠ .unborn → L' k = .gone ∨ (L' k = L k ∧ ∀ b cs t fr, L k = .at_ b → w.heap[b]? = some (.cells cs t fr) → ∃ cs' t' fr', w'.heap[b]? = some (.cells cs' t' fr') ∧ cs'.size = cs.size)

theorem VR.mono {w w' : World} {R R' : Nat → Prop} {L L' : Nat → Place} {x : AV} {v : Value} (h : VR w R L x v) (hR : ∀ b, R b → R' b) (hw : ∀ b, R b → w'.heap[b]? = w.heap[b]?)
    (hk : Keeps w w' L L') : VR w' R' L' x v := by
  induction h with
  | fr x v h => exact .fr x v (h.mono hR hw)
  | junk v => exact .junk v
  | junk1 v h => exact .junk1 v h
  | ptrGone k off ix a h => exact .ptrGone k off ix a ((hk k (by simp [h])).elim id fun q => q.1.trans h)
  | ptr k off ix b h =>
    rcases hk k (by simp [h]) with h' | ⟨h', _⟩
    · exact .ptrGone k off ix _ h'
    · exact .ptr k off ix b (h'.trans h)
  | slGone k off len sz a n cap h => exact .slGone k off len sz a n cap ((hk k (by simp [h])).elim id fun q => q.1.trans h)
  | slNil k sz h =>
    rcases hk k (by simp [h]) with h' | ⟨h', _⟩
    · exact .slGone k 0 0 sz _ _ _ h'
    · exact .slNil k sz (h'.trans h)
  | sl k off len sz b cap cs t fr h hb hl hcap hm =>
    rcases hk k (by simp [h]) with h' | ⟨h', hc⟩
    · exact .slGone k off len sz _ _ _ h'
    · obtain ⟨cs', t', fr', hb', hs'⟩ := hc b cs t fr h hb
      exact .sl k off len sz b cap cs' t' fr' (h'.trans h) hb' hl (hs' ▸ hcap) hm
  | mpGone k r h => exact .mpGone k r ((hk k (by simp [h])).elim id fun q => q.1.trans h)
  | mp k b h =>
    rcases hk k (by simp [h]) with h' | ⟨h', _⟩
    · exact .mpGone k _ h'
    · exact .mp k b (h'.trans h)
  | agg b cs hsz h1 _ ih => exact .agg b cs hsz h1 ih
  | tup l vs hsz _ ih => exact .tup l vs hsz ih
  | fn f caps vs hsz _ ih => exact .fn f caps vs hsz ih
  | ifc t x v _ ih => exact .ifc t x v ih

/-! ### Cells of related values -/

theorem Value.cells_of_one {v : Value} (h : v.oneCell' = true) : v.cells = #[v] := by cases v <;> simp_all [Value.oneCell', Value.cells]

theorem VR.size {w : World} {R : Nat → Prop} {L : Nat → Place} {x : AV} {v : Value} {n : Nat} (h : VR w R L x v) (hs : x.size = some n) : v.cells.size = n := by
  cases h with
  | fr _ _ h =>
    cases h with
    | c => cases v <;> simp_all [AV.size, Value.cells]
    | fz x v _ h1 => simp [AV.size] at hs; subst hs; rw [Value.cells_of_one h1]; rfl
    | _ => simp_all [AV.size, Value.cells]
  | junk1 v h => simp [AV.size] at hs; subst hs; rw [Value.cells_of_one h]; rfl
  | _ => simp_all [AV.size, Value.cells]

theorem VR.cell {w : World} {R : Nat → Prop} {L : Nat → Place} {x : AV} {v : Value} {j : Nat} {y : AV} {u : Value} (h : VR w R L x v) (hx : x.cell j = some y) (hu : v.cells[j]? = some u) : VR w R L y u := by
  have aux : ∀ {x : AV} {v : Value} {j : Nat} {y : AV} {u : Value}, (x.cell j = match j with | 0 => some x | _ + 1 => none) → v.cells = #[v] → VR w R L x v → x.cell j = some y → v.cells[j]? = some u → VR w R L y u := by
    intro x v j y u h1 h2 h3 h4 h5
    rw [h1] at h4
    rw [h2] at h5
    cases j with
    | zero =>
      simp at h4 h5
      exact h4 ▸ h5 ▸ h3
    | succ j => simp at h4
  cases h with
  | fr _ _ h =>
    cases h with
    | c =>
      cases v
      case agg cs =>
        simp only [AV.cell, Value.cells] at hx hu
        have : cs.toList[j]? = some u := by simpa using hu
        rw [this] at hx
        simp at hx
        exact hx ▸ .fr _ _ (.c u)
      all_goals exact aux (by cases j <;> rfl) rfl (.fr _ _ (.c _)) hx hu
    | fptr _ _ _ _ _ _ _ _ hb hr g hc h1 hv => exact aux (by cases j <;> rfl) rfl (.fr _ _ (.fptr _ _ _ _ _ _ _ _ hb hr g hc h1 hv)) hx hu
    | fsl _ _ _ _ _ _ _ _ _ hb hr g hs hn hc h1 hv => exact aux (by cases j <;> rfl) rfl (.fr _ _ (.fsl _ _ _ _ _ _ _ _ _ hb hr g hs hn hc h1 hv)) hx hu
    | fslNil sz b a cap hs => exact aux (by cases j <;> rfl) rfl (.fr _ _ (.fslNil sz b a cap hs)) hx hu
    | agg b cs hsz h1 hv => exact .fr _ _ (hv j y u hx hu)
    | tup l vs hsz hv => simp [AV.cell] at hx
    | fn f caps vs hsz hv => exact aux (by cases j <;> rfl) rfl (.fr _ _ (.fn f caps vs hsz hv)) hx hu
    | ifc t x v h => exact aux (by cases j <;> rfl) rfl (.fr _ _ (.ifc t x v h)) hx hu
    | fz x v h h1 => exact aux (by cases j <;> rfl) (Value.cells_of_one h1) (.fr _ _ (.fz x v h h1)) hx hu
  | junk => simp [AV.cell] at hx
  | junk1 v h => exact aux (by cases j <;> rfl) (Value.cells_of_one h) (.junk1 v h) hx hu
  | ptrGone k off ix a h => exact aux (by cases j <;> rfl) rfl (.ptrGone k off ix a h) hx hu
  | ptr k off ix b h => exact aux (by cases j <;> rfl) rfl (.ptr k off ix b h) hx hu
  | slGone k off len sz a n cap h => exact aux (by cases j <;> rfl) rfl (.slGone k off len sz a n cap h) hx hu
  | slNil k sz h => exact aux (by cases j <;> rfl) rfl (.slNil k sz h) hx hu
  | sl k off len sz b cap cs t fr h hb hl hcap hm => exact aux (by cases j <;> rfl) rfl (.sl k off len sz b cap cs t fr h hb hl hcap hm) hx hu
  | mpGone k r h => exact aux (by cases j <;> rfl) rfl (.mpGone k r h) hx hu
  | mp k b h => exact aux (by cases j <;> rfl) rfl (.mp k b h) hx hu
  | agg b cs hsz h1 hv => exact hv j y u hx hu
  | tup l vs hsz hv => simp [AV.cell] at hx
  | fn f caps vs hsz hv => exact aux (by cases j <;> rfl) rfl (.fn f caps vs hsz hv) hx hu
  | ifc t x v h => exact aux (by cases j <;> rfl) rfl (.ifc t x v h) hx hu

theorem VR.one {w : World} {R : Nat → Prop} {L : Nat → Place} {x : AV} {v : Value} (h : VR w R L x v) (hx : x.one = true) : v.oneCell' = true := by
  cases h with
  | fr _ _ h => cases h <;> simp_all [AV.one, Value.oneCell']
  | _ => simp_all [AV.one, Value.oneCell']

theorem VR.unfz {w : World} {R : Nat → Prop} {L : Nat → Place} {x : AV} {v : Value} (h : VR w R L x v) : VR w R L x.unfz v := by
  cases x
  case fz x => cases h with | fr _ _ h => cases h with | fz _ _ h => exact .fr _ _ h
  all_goals exact h

end
end Go.Proofs.Ytfcfdedbbhdioaa.AI
