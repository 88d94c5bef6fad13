/- AI S4: symbolic runs over the values of named variables. -/
import Derived.Test.YtfcfdedbbhdioaaAiS3
namespace Go.Proofs.Ytfcfdedbbhdioaa.AI
noncomputable section
open Go
set_option linter.unusedVariables false
set_option linter.unusedSimpArgs false

/-! ### Operations by their operands' values -/

def hBox (t : TypeId) (x : AV) (rows : List Row) : Option (AV × List Row × Bool) := match x.segs with | some b => some (.ptr rows.length 0 0, rows ++ [.blob t b], true) | none => none
def hFbox (x : AV) (rows : List Row) : Option (AV × List Row × Bool) := match x.segs with | some _ => some (.fptr x 0 0, rows, x.pur 4) | none => none
def hAlloc (t : TypeId) (z : Value) (rows : List Row) : Option (AV × List Row × Bool) := match (AV.c z).segs with | some b => some (.ptr rows.length 0 0, rows ++ [.blob t b], true) | none => none
def hPick (c x y : AV) (rows : List Row) : Option (AV × List Row × Bool) := match c with | .c (.bool b) => some (if b then x else y, rows, true) | _ => none
def hLoad (agg : Bool) (n : Nat) (a : AV) (rows : List Row) : Option (AV × List Row × Bool) := (loadAV agg n rows a).map fun p => (p.1, rows, p.2)
def hStore (n : Nat) (a x : AV) (rows : List Row) : Option (AV × List Row × Bool) := (storeAV n rows a x).map fun p => (.c undef, p.1, p.2)
def hNil (x : AV) (rows : List Row) : Option (AV × List Row × Bool) := some (x, rows, nilAV rows x)
def hBin (op : BinOp) (x y : AV) (rows : List Row) : Option (AV × List Row × Bool) := (binAV op x y).map fun r => (r, rows, true)
def hNilEq (eq : Bool) (x : AV) (rows : List Row) : Option (AV × List Row × Bool) := (nilEq rows x).map fun b => (.c (.bool (if eq then b else !b)), rows, true)
def hNilEq2 (eq : Bool) (z : Value) (x : AV) (rows : List Row) : Option (AV × List Row × Bool) := (nilEq2 rows z x).map fun b => (.c (.bool (if eq then b else !b)), rows, true)
def hUn (op : UnOp) (x : AV) (rows : List Row) : Option (AV × List Row × Bool) := (unAV op x).map fun r => (r, rows, true)
def hConv (k : IntKind) (x : AV) (rows : List Row) : Option (AV × List Row × Bool) := match x with | .c (.int _ n) => some (.c (.int k (k.wrap n)), rows, true) | _ => none
def hFa (off : Nat) (x : AV) (rows : List Row) : Option (AV × List Row × Bool) := andThen ((faAV off x).map fun y => (y, true)) rows true
def hIaA (ln sz : Nat) (x i : AV) (rows : List Row) : Option (AV × List Row × Bool) := andThen (iaA ln sz x i) rows true
def hIaS (sz : Nat) (x i : AV) (rows : List Row) : Option (AV × List Row × Bool) := andThen (iaS sz rows x i) rows true
def hExtract (i : Nat) (x : AV) (rows : List Row) : Option (AV × List Row × Bool) := (extractAV i x).map fun r => (r, rows, true)
def hLen (str : Bool) (x : AV) (rows : List Row) : Option (AV × List Row × Bool) := (lenAV rows x).map fun r => (r, rows, match x with | .c (.string _) => str | .c (.slice ..) | .sl .. | .fsl .. => !str | _ => false)
def hApp (e : TypeId) (sz bytes : Nat) (x y : AV) (rows : List Row) : Option (AV × List Row × Bool) := appAV rows e sz bytes x y
def hMake (e : TypeId) (sz bytes : Nat) (z : Value) (l c : AV) (rows : List Row) : Option (AV × List Row × Bool) := mkAV rows e sz bytes z l c
def hMkfn (f : FuncId) (caps : List AV) (rows : List Row) : Option (AV × List Row × Bool) := some (.fn f caps, rows, true)
def hMkif (t : TypeId) (x : AV) (rows : List Row) : Option (AV × List Row × Bool) := some (.ifc t x, rows, true)
def hNilrow (t : TypeId) (sz : Nat) (rows : List Row) : Option (AV × List Row × Bool) := some (.sl rows.length 0 0 sz, rows ++ [.blob t []], true)
def hSlc (sz : Nat) (x : AV) (lo hi : Option AV) (rows : List Row) : Option (AV × List Row × Bool) := (slcAV rows sz x lo hi).map fun p => (p.1, rows, p.2)
def hFld (agg : Bool) (off n : Nat) (x : AV) (rows : List Row) : Option (AV × List Row × Bool) := (fldAV agg off n x).map fun p => (p.1, rows, p.2)
def hIx (agg : Bool) (ln sz : Nat) (x i : AV) (rows : List Row) : Option (AV × List Row × Bool) := (ixAV agg ln sz x i).map fun p => (p.1, rows, p.2)
def hTas (t : TypeId) (z : Value) (ok : Bool) (x : AV) (rows : List Row) : Option (AV × List Row × Bool) := (tasAV t z ok x).map fun y => (y, rows, true)
def hBsl0 (e : TypeId) (sz : Nat) (rows : List Row) : Option (AV × List Row × Bool) := some (.sl rows.length 0 0 sz, rows ++ [.blob e []], true)
def hB2s (x : AV) (rows : List Row) : Option (AV × List Row × Bool) := (b2sAV rows x).map fun p => (p.1, rows, p.2)
def hS2b (x : AV) (rows : List Row) : Option (AV × List Row × Bool) := (s2bAV x).map fun p => (p.1, rows, p.2)
def hClr (z : Value) (x : AV) (rows : List Row) : Option (AV × List Row × Bool) := (clrAV rows z x).map fun p => (.c (.tuple #[]), p.1, p.2)

/-- Parts put into cells. -/
def fillV : List (Nat × Nat × AV) → List AV → Option (List AV)
  | [], z => some z
  | p :: ps, z => fillAV (fun _ => p.2.2) [(p.1, p.2.1, .tm 0)] z >>= fillV ps
def hBuild (z : Value) (ps : List (Nat × Nat × AV)) (rows : List Row) : Option (AV × List Row × Bool) := match fillV ps (z.cells.toList.map .c) with | some r => some (.agg (segsOf r), rows, true) | none => none
def bslV (sz ln : Nat) (z : Value) (ps : List (Nat × Nat × AV)) : Option (List AV) := fillV ps ((List.range ln).flatMap fun _ => z.cells.toList.map .c)

/-! ### Code -/

/-- What is known of a guard. -/
abbrev Known := Option (Nat × Bool × Bool)

def Known.behind (kn : Known) (d : Option Nat) : Known := match kn, d with
  | some (t, w, v), some d => bif Nat.beq t d then none else some (t, w, v)
  | kn, none => kn
  | none, _ => none

def Known.says (kn : Known) (g : Nat × Bool) : Option Bool := match kn with
  | some (t, w, v) => bif Nat.beq t g.1 && (w == g.2) then some v else none
  | none => none

section
variable (P : Program) (G : List (Nat × Obj)) (n np : Nat) (ds : List (FuncId × List AV))

def hA (a : AAct) (e : Env) (rows : List Row) (k : AV → List Row → Prop) (kp : AEx → List Row → Prop) : Prop := match a with
  | .op (.mv x) => k (evE e x) rows
  | a => wA P G a e rows k kp

def hDA (loud : Bool) (a : AAct) (e : Env) (rows : List Row) (k : AV → List Row → Prop) : Prop := match a with
  | .op (.mv x) => k (evE e x) rows
  | .op a => wB (aopS a P (evE e) rows) k
  | a => wDA P G loud a e rows fun x rows' _ => k x rows'

def hO : List AOper → Known → Env → List Row → Kont → Prop
  | [], _, e, rows, K => K .normal e rows
  | o :: l, kn, e, rows, K =>
    match o.guard with
    | none => hA P G o.act e rows (fun x rows' => hO l (kn.behind o.dst) (upd e o.dst x) rows' K) (fun ex rows' => K ex e rows')
    | some g =>
      match kn.says g with
      | some true => hA P G o.act e rows (fun x rows' => hO l (kn.behind o.dst) (upd e o.dst x) rows' K) (fun ex rows' => K ex e rows')
      | some false => hO l (kn.behind o.dst) (upd e o.dst (.c undef)) rows K
      | none => wG (look e g.1) g.2 (hA P G o.act e rows (fun x rows' => hO l (Known.behind (some (g.1, g.2, true)) o.dst) (upd e o.dst x) rows' K) (fun ex rows' => K ex e rows')) (hO l (Known.behind (some (g.1, g.2, false)) o.dst) (upd e o.dst (.c undef)) rows K)

/-- A region that draws, where nothing need be remembered. -/
def hDN : List AOper → Known → Env → List Row → (Env → List Row → Prop) → Prop
  | [], _, e, rows, K => K e rows
  | o :: l, kn, e, rows, K =>
    match o.guard with
    | none => hDA P G (o.act.loud o.mode) o.act e rows fun x rows' => hDN l (kn.behind o.dst) (upd e o.dst x) rows' K
    | some g =>
      match kn.says g with
      | some true => hDA P G (o.act.loud o.mode) o.act e rows fun x rows' => hDN l (kn.behind o.dst) (upd e o.dst x) rows' K
      | some false => hDN l (kn.behind o.dst) (upd e o.dst (.c undef)) rows K
      | none => wG (look e g.1) g.2 (hDA P G (o.act.loud o.mode) o.act e rows fun x rows' => hDN l (Known.behind (some (g.1, g.2, true)) o.dst) (upd e o.dst x) rows' K) (hDN l (Known.behind (some (g.1, g.2, false)) o.dst) (upd e o.dst (.c undef)) rows K)

abbrev Kon := AEx → List AV → List Row → Prop

/-- What code comes to, of the variables V. -/
def SV (V : List Nat) (c : ACode) (vs : List AV) (rows : List Row) (K : Kon) : Prop := SC P G n np ds c (V.zip vs) rows fun ex e rows => K ex (V.map (look e)) rows

def vSeq (k : List AV → List Row → Prop) (K : Kon) : Kon := fun ex e rows => match ex with | .normal => k e rows | ex => K ex e rows
def vBlock (i : Nat) (K : Kon) : Kon := fun ex e rows => match ex with | .exit j => if j = i then K .normal e rows else K (.exit j) e rows | ex => K ex e rows

def wReg (V : List Nat) (d : Bool) (l : List AOper) (vs : List AV) (rows : List Row) (K : Kon) : Prop := match d with
  | false => hO P G l none (V.zip vs) rows fun ex e rows => K ex (V.map (look e)) rows
  | true => bif noFree l then hDN P G l none (V.zip vs) rows (fun e rows => K .normal (V.map (look e)) rows) else wD P G l (V.zip vs) rows [] fun e rows tr => apartB tr 0 l = true ∧ K .normal (V.map (look e)) rows

def wV (V : List Nat) : ACode → List AV → List Row → Kon → Prop
  | .skip, vs, rows, K => K .normal vs rows
  | .reg d l, vs, rows, K => wReg P G V d l vs rows K
  | .seq a b, vs, rows, K => wV V a vs rows (vSeq (fun vs' rows' => wV V b vs' rows' K) K)
  | .cond c a b, vs, rows, K => wCond (evE (V.zip vs) c) (wV V a vs rows K) (wV V b vs rows K)
  | .block i a, vs, rows, K => wV V a vs rows (vBlock i K)
  | .loop m a, vs, rows, K => SV P G n np ds V (.loop m a) vs rows K
  | .exit i, vs, rows, K => K (.exit i) vs rows
  | .ret, vs, rows, K => K .ret vs rows

end

section
variable {P : Program} {G : List (Nat × Obj)} {n np : Nat} {ds : List (FuncId × List AV)}

theorem hA_wA {a : AAct} {e : Env} {rows : List Row} {k : AV → List Row → Prop} {kp : AEx → List Row → Prop} (h : hA P G a e rows k kp) : wA P G a e rows k kp := by
  unfold hA at h
  split at h
  · exact ⟨rfl, h⟩
  · exact h

theorem wA_mono {a : AAct} {e : Env} {rows : List Row} {k k' : AV → List Row → Prop} {kp : AEx → List Row → Prop} (h : wA P G a e rows k kp) (hk : ∀ x rows, k x rows → k' x rows) : wA P G a e rows k' kp := by
  cases a with
  | op a =>
    simp only [wA, wB] at h ⊢
    split at h
    · exact ⟨h.1, hk _ _ h.2⟩
    · exact h.elim
  | call f args =>
    rcases h with ⟨r, r1, h1, h2⟩ | h
    · exact .inl ⟨r, r1, h1, hk _ _ h2⟩
    · exact .inr h
  | callv fx args =>
    simp only [wA, wCallv] at h ⊢
    split at h
    · obtain ⟨h1, r, r1, h2, h3⟩ := h
      exact ⟨h1, r, r1, h2, hk _ _ h3⟩
    · exact h.elim
  | panic x => exact h
  | defer x => exact h
  | recov => exact h

theorem hDA_wDA {loud : Bool} {a : AAct} {e : Env} {rows : List Row} {k : AV → List Row → Prop} (h : hDA P G loud a e rows k) : wDA P G loud a e rows fun x rows' _ => k x rows' := by
  unfold hDA at h
  split at h
  · exact ⟨rfl, h⟩
  · simp only [wB] at h
    simp only [wDA, wDB]
    split at h
    · exact h
    · exact h.elim
  · exact h

def Known.OK (kn : Known) (e : Env) : Prop := ∀ t w v, kn = some (t, w, v) → gSay (look e t) w = some v

theorem Known.OK.behind {kn : Known} {e : Env} (h : kn.OK e) (d : Option Nat) (x : AV) : (kn.behind d).OK (upd e d x) := by
  intro t w v hk
  cases d with
  | none =>
    cases kn with
    | none => cases hk
    | some p => exact h t w v hk
  | some d =>
    cases kn with
    | none => cases hk
    | some p =>
      obtain ⟨t', w', v'⟩ := p
      simp only [Known.behind] at hk
      cases hb : Nat.beq t' d with
      | true => rw [hb] at hk; cases hk
      | false =>
        rw [hb] at hk
        simp only [cond_false, Option.some.injEq, Prod.mk.injEq] at hk
        obtain ⟨rfl, rfl, rfl⟩ := hk
        have hne : ¬ d = t' := fun e => by subst e; simp at hb
        simp only [upd, look, if_neg hne]
        exact h t' w' v' rfl

theorem says_ok {kn : Known} {e : Env} (h : kn.OK e) {g : Nat × Bool} {b : Bool} (hs : kn.says g = some b) : gSay (look e g.1) g.2 = some b := by
  cases kn with
  | none => cases hs
  | some p =>
    obtain ⟨t, w, v⟩ := p
    simp only [Known.says] at hs
    cases hb : (Nat.beq t g.1 && (w == g.2)) with
    | false => rw [hb] at hs; cases hs
    | true =>
      rw [hb] at hs
      simp only [cond_true, Option.some.injEq] at hs
      subst hs
      simp only [Bool.and_eq_true, beq_iff_eq] at hb
      have := Nat.eq_of_beq_eq_true hb.1
      rw [← this, ← hb.2]
      exact h t w v rfl

theorem gSay_wG {x : AV} {w b : Bool} {A B : Prop} (h : gSay x w = some b) : (if b then A else B) → wG x w A B := by
  intro q
  unfold gSay at h
  split at h
  · injection h with h
    simp only [wG]
    subst h
    exact ⟨fun h1 => by rw [h1] at q; simpa using q, fun h1 => by rw [h1] at q; simpa using q⟩
  · injection h with h
    subst h
    simpa [wG] using q
  · cases h

theorem wG_imp {x : AV} {w : Bool} {A B A' B' : Prop} (h : wG x w A B) (ha : gSay x w = some true → A → A') (hb : gSay x w = some false → B → B') : wG x w A' B' := by
  unfold wG at h ⊢
  split at h
  · rename_i v
    exact ⟨fun q => ha (by simp [gSay, q]) (h.1 q), fun q => hb (by simp [gSay, q]) (h.2 q)⟩
  · exact hb (by simp [gSay]) h
  · exact h

theorem one_known {e : Env} {t : Nat} {w v : Bool} (h : gSay (look e t) w = some v) : Known.OK (some (t, w, v)) e := by
  intro t' w' v' hk
  simp only [Option.some.injEq, Prod.mk.injEq] at hk
  obtain ⟨rfl, rfl, rfl⟩ := hk
  exact h

theorem hO_wO : ∀ {l : List AOper} {kn : Known} {e : Env} {rows : List Row} {K : Kont}, kn.OK e → hO P G l kn e rows K → wO P G l e rows K
  | [], kn, e, rows, K, _, h => h
  | o :: l, kn, e, rows, K, hk, h => by
    have go : ∀ (kn : Known), kn.OK e → hA P G o.act e rows (fun x rows' => hO P G l (kn.behind o.dst) (upd e o.dst x) rows' K) (fun ex rows' => K ex e rows') → wA P G o.act e rows (fun x rows' => wO P G l (upd e o.dst x) rows' K) (fun ex rows' => K ex e rows') :=
      fun kn hk q => wA_mono (hA_wA q) fun x r q => hO_wO (hk.behind o.dst x) q
    simp only [hO] at h
    simp only [wO]
    split at h
    · rename_i hg
      simp only [hg]
      exact go kn hk h
    · rename_i g hg
      simp only [hg]
      split at h
      · rename_i hs
        exact gSay_wG (says_ok hk hs) (go kn hk h)
      · rename_i hs
        exact gSay_wG (says_ok hk hs) (hO_wO (hk.behind o.dst _) h)
      · exact wG_imp h (fun q1 q => go _ (one_known q1) q) fun q1 q => hO_wO ((one_known q1).behind o.dst _) q

theorem hDN_wDN : ∀ {l : List AOper} {kn : Known} {e : Env} {rows : List Row} {K : Env → List Row → Prop}, kn.OK e → hDN P G l kn e rows K → wDN P G l e rows K
  | [], kn, e, rows, K, _, h => h
  | o :: l, kn, e, rows, K, hk, h => by
    have go : ∀ (kn : Known), kn.OK e → (hDA P G (o.act.loud o.mode) o.act e rows fun x rows' => hDN P G l (kn.behind o.dst) (upd e o.dst x) rows' K) → wDA P G (o.act.loud o.mode) o.act e rows fun x rows' _ => wDN P G l (upd e o.dst x) rows' K :=
      fun kn hk q => wDA_mono (hDA_wDA q) fun x r fp q => hDN_wDN (hk.behind o.dst x) q
    simp only [hDN] at h
    simp only [wDN]
    split at h
    · rename_i hg
      simp only [hg]
      exact go kn hk h
    · rename_i g hg
      simp only [hg]
      split at h
      · rename_i hs
        exact gSay_wG (says_ok hk hs) (go kn hk h)
      · rename_i hs
        exact gSay_wG (says_ok hk hs) (hDN_wDN (hk.behind o.dst _) h)
      · exact wG_imp h (fun q1 q => go _ (one_known q1) q) fun q1 q => hDN_wDN ((one_known q1).behind o.dst _) q

theorem zip_look {V : List Nat} {e : Env} : ∀ p ∈ V.zip (V.map (look e)), look e p.1 = p.2 := by
  induction V with
  | nil => intro p hp; simp at hp
  | cons v V ih =>
    intro p hp
    simp only [List.map_cons, List.zip_cons_cons, List.mem_cons] at hp
    rcases hp with rfl | hp
    · rfl
    · exact ih p hp

theorem look_zip : ∀ {V : List Nat} {vs : List AV}, nodupB V = true → vs.length = V.length → V.map (look (V.zip vs)) = vs
  | [], vs, _, h => by simp at h; simp [h]
  | v :: V, vs, hn, h => by
    cases vs with
    | nil => simp at h
    | cons x vs =>
      simp only [nodupB, Bool.and_eq_true, Bool.not_eq_true'] at hn
      have ih := look_zip (V := V) (vs := vs) hn.2 (by simpa using h)
      simp only [List.zip_cons_cons, List.map_cons, look, if_true, List.cons.injEq, true_and]
      have : V.map (look ((v, x) :: V.zip vs)) = V.map (look (V.zip vs)) := by
        refine List.map_congr_left fun y hy => ?_
        have : ¬ v = y := by
          rintro rfl
          have := hn.1
          simp at this
          exact this hy
        simp only [look, if_neg this]
      show V.map (look ((v, x) :: V.zip vs)) = vs
      rw [this, ih]

theorem wV_sound (hm : P.follows .mixedOrders = true) {V : List Nat} (hV : nodupB V = true) : ∀ {c : ACode} {vs : List AV} {rows : List Row} {K : Kon}, goodC n c = true → vs.length = V.length → wV P G n np ds V c vs rows K → SV P G n np ds V c vs rows K := by
  intro c
  induction c with
  | skip =>
    intro vs rows K _ hl h
    refine ⟨.normal, _, rows, .cskip _, ?_⟩
    show K .normal (V.map (look (V.zip vs))) rows
    rw [look_zip hV hl]
    exact h
  | reg d l =>
    intro vs rows K hg hl h
    refine wC_sound hm hg ?_
    simp only [wV, wReg] at h
    cases d with
    | false => exact hO_wO (fun t w v q => by cases q) h
    | true =>
      simp only [wC]
      cases hn : noFree l with
      | true => rw [hn] at h; exact hDN_wDN (fun t w v q => by cases q) h
      | false => rw [hn] at h; exact h
  | seq a b iha ihb =>
    intro vs rows K hg hl h
    simp only [goodC, Bool.and_eq_true] at hg
    obtain ⟨ex, e', rows', h1, h2⟩ := iha hg.1 hl h
    by_cases hex : ex = .normal
    · subst hex
      obtain ⟨ex2, e2, rows2, h3, h4⟩ := SC_eq (e := e') zip_look (ihb hg.2 (by simp) h2)
      exact ⟨ex2, e2, rows2, .seq a b _ _ _ ex2 h1 h3, h4⟩
    · refine ⟨ex, e', rows', .seqX a b _ _ ex hex h1, ?_⟩
      cases ex <;> first | exact h2 | exact absurd rfl hex
  | cond c a b iha ihb =>
    intro vs rows K hg hl h
    simp only [goodC, Bool.and_eq_true] at hg
    simp only [wV, wCond] at h
    split at h
    · rename_i v hv
      have hev : Opd.ev (dense n (V.zip vs)) c = .c (.bool v) := (ev_dense hg.1.1).trans hv
      cases v with
      | true =>
        obtain ⟨ex, e', rows', h1, h2⟩ := iha hg.1.2 hl (h.1 rfl)
        exact ⟨ex, e', rows', .cond c a b true _ _ ex hev h1, h2⟩
      | false =>
        obtain ⟨ex, e', rows', h1, h2⟩ := ihb hg.2 hl (h.2 rfl)
        exact ⟨ex, e', rows', .cond c a b false _ _ ex hev h1, h2⟩
    · exact h.elim
  | block i a ih =>
    intro vs rows K hg hl h
    obtain ⟨ex, e', rows', h1, h2⟩ := ih hg hl h
    cases ex with
    | exit j =>
      simp only [vBlock] at h2
      split at h2
      · rename_i hj
        subst hj
        exact ⟨.normal, e', rows', .blockX _ a _ _ h1, h2⟩
      · rename_i hj
        exact ⟨.exit j, e', rows', .block i a _ _ _ (fun k hk => by injection hk with hk; subst hk; exact hj) h1, h2⟩
    | _ => exact ⟨_, e', rows', .block i a _ _ _ (fun k hk => by cases hk) h1, h2⟩
  | loop m a ih => intro vs rows K _ _ h; exact h
  | exit i =>
    intro vs rows K _ hl h
    refine ⟨.exit i, _, rows, .exit i _, ?_⟩
    show K (.exit i) (V.map (look (V.zip vs))) rows
    rw [look_zip hV hl]
    exact h
  | ret =>
    intro vs rows K _ hl h
    refine ⟨.ret, _, rows, .cret _, ?_⟩
    show K .ret (V.map (look (V.zip vs))) rows
    rw [look_zip hV hl]
    exact h

/-- A loop by its name. -/
theorem SV_rec {c a : ACode} {V : List Nat} (hc : c = .loop none a) (hm : P.follows .mixedOrders = true) (hV : nodupB V = true) (hg : goodC n a = true) {vs : List AV} (hl : Nat.beq vs.length V.length = true) {rows : List Row} {K : Kon}
    (h : wV P G n np ds V a vs rows (vSeq (fun vs' rows' => SV P G n np ds V c vs' rows' K) K)) : SV P G n np ds V c vs rows K := by
  subst hc
  obtain ⟨ex, e', rows', h1, h2⟩ := wV_sound hm hV hg (Nat.eq_of_beq_eq_true hl) h
  by_cases hex : ex = .normal
  · subst hex
    obtain ⟨ex2, e2, rows2, h3, h4⟩ := SC_eq (e := e') zip_look h2
    exact ⟨ex2, e2, rows2, .loop none a _ _ _ _ ex2 h1 weaker_refl h3, h4⟩
  · refine ⟨ex, e', rows', .loopX none a _ _ ex hex h1, ?_⟩
    cases ex <;> first | exact h2 | exact absurd rfl hex

theorem SV_mono {c : ACode} {V : List Nat} {vs : List AV} {rows : List Row} {K K' : Kon} (h : SV P G n np ds V c vs rows K) (hk : ∀ ex vs rows, K ex vs rows → K' ex vs rows) : SV P G n np ds V c vs rows K' :=
  SC_mono h fun ex e rows q => hk ex _ rows q

/-- Values that say less. -/
theorem SV_le {c : ACode} {V : List Nat} {vs vs2 : List AV} {rows : List Row} {K : Kon} (hV : nodupB V = true) (hl : vs.length = V.length) (hl2 : vs2.length = V.length) (hle : ∀ (i : Nat) (x y : AV), vs[i]? = some x → vs2[i]? = some y → x.le y) (h : SV P G n np ds V c vs2 rows K) : SV P G n np ds V c vs rows K := by
  refine SC_env (fun p hp => ?_) h
  obtain ⟨i, hi⟩ := List.mem_iff_getElem?.1 hp
  rw [List.getElem?_zip_eq_some] at hi
  have hlk := congrArg (fun l => l[i]?) (look_zip (V := V) (vs := vs) hV hl)
  simp only [List.getElem?_map, hi.1, Option.map_some] at hlk
  exact hle i _ _ hlk.symm hi.2

/-- How a call's code must end. -/
def vEnd (V : List Nat) (np how : Nat) (l : List ARes) (Q : AV → List Row → Prop) : Kon := fun ex vs rows => isEnd ex ∧ ∃ r r' rows', wRes (V.zip vs) rows l = some r ∧ endOK how np r rows r' rows' ∧ Q r' rows'

def resV (V : List Nat) : ARes → Bool
  | .tm i => V.contains i
  | .cell i _ _ => V.contains i

theorem look_back {V : List Nat} {e : Env} (hV : nodupB V = true) {i : Nat} (h : V.contains i = true) : look (V.zip (V.map (look e))) i = look e i := by
  have hm : i ∈ V := by simpa using h
  obtain ⟨j, hj⟩ := List.mem_iff_getElem?.1 hm
  have := congrArg (fun l => l[j]?) (look_zip (V := V) (vs := V.map (look e)) hV (by simp))
  simp only [List.getElem?_map, hj, Option.map_some, Option.some.injEq] at this
  exact this

theorem wRes_back {V : List Nat} {e : Env} {rows : List Row} {l : List ARes} (hV : nodupB V = true) (h : l.all (resV V) = true) : wRes (V.zip (V.map (look e))) rows l = wRes e rows l := by
  have one : ∀ r : ARes, resV V r = true → resE (evE (V.zip (V.map (look e)))) rows r = resE (evE e) rows r := by
    intro r hr
    cases r with
    | tm i => simp only [resE, evE, look_back hV hr]
    | cell i agg m => simp only [resE, evE, look_back hV hr]
  have all : ∀ l : List ARes, l.all (resV V) = true → l.mapM (resE (evE (V.zip (V.map (look e)))) rows) = l.mapM (resE (evE e) rows) := by
    intro l
    induction l with
    | nil => intro _; rfl
    | cons r l ih =>
      intro h
      simp only [List.all_cons, Bool.and_eq_true] at h
      simp only [List.mapM_cons, one r h.1, ih h.2]
  unfold wRes resEs
  cases l with
  | nil => rfl
  | cons r l =>
    cases l with
    | nil => simp only [List.all_cons, Bool.and_eq_true] at h; exact one r h.1
    | cons r2 l =>
      show Option.map AV.tup _ = Option.map AV.tup _
      rw [all _ h]

def goodV (V : List Nat) (afn : AFn) : Bool := goodF afn && nodupB V && afn.results.all (resV V)

theorem fn_V {f : FuncId} {afn : AFn} {args : List AV} {rows : List Row} {Q : AV → List Row → Prop} {V : List Nat} {vs : List AV} (how : Nat) (hm : P.follows .mixedOrders = true) (hf : FnOK P f afn) (hlen : Nat.ble args.length afn.ntmps = true) (hgood : goodV V afn = true)
    (hvs : V.map (look (enumE 0 args)) = vs) (h : wV P G afn.ntmps rows.length [] V afn.code vs rows (vEnd V rows.length how afn.results Q)) :
    ∃ r' rows', Ev P G (.call f args rows (.ret r' rows')) ∧ Q r' rows' := by
  simp only [goodV, goodF, Bool.and_eq_true] at hgood
  obtain ⟨⟨⟨hg1, hg2⟩, hg3⟩, hg4⟩ := hgood
  subst hvs
  obtain ⟨ex, e, rows1, h1, h2, r, r', rows', h3, h4, h5⟩ := SC_eq (e := enumE 0 args) zip_look (wV_sound hm hg3 hg1 (by simp) h)
  rw [wRes_back hg3 hg4] at h3
  refine ⟨r', rows', .body f afn args rows _ ex r r' rows' hf (Nat.ble_eq.mp hlen) (.weak _ _ _ _ _ (weaker_entry (Nat.ble_eq.mp hlen)) h1) ?_ rfl (by rw [wRes_dense hg2]; exact h3) (endOK_spec h4), h5⟩
  cases ex <;> simp_all [isEnd]

/-- A function whose result is told: with all rows, which stay. -/
theorem fnV_same {f : FuncId} {afn : AFn} {args : List AV} {rows : List Row} {r : AV} {V : List Nat} {vs : List AV} (hm : P.follows .mixedOrders = true) (hf : FnOK P f afn) (hlen : Nat.ble args.length afn.ntmps = true) (hgood : goodV V afn = true)
    (hvs : V.map (look (enumE 0 args)) = vs) (h : wV P G afn.ntmps rows.length [] V afn.code vs rows (vEnd V rows.length 0 afn.results fun r' rows' => r' = r ∧ rows' = rows)) : Ev P G (.call f args rows (.ret r rows)) := by
  obtain ⟨r', rows', h1, rfl, rfl⟩ := fn_V 0 hm hf hlen hgood hvs h
  exact h1

/-- A function of quiet memory, beside whatever rows; how: 1: its result is of quiet memory; 2: frozen. -/
theorem fnV_beside {f : FuncId} {afn : AFn} {args : List AV} {r : AV} {V : List Nat} {vs : List AV} (how : Nat) (hm : P.follows .mixedOrders = true) (hf : FnOK P f afn) (hlen : Nat.ble args.length afn.ntmps = true) (hgood : goodV V afn = true)
    (ha : args.all (AV.pur 6) = true) (hp : r.pur 6 = true) (hvs : V.map (look (enumE 0 args)) = vs)
    (h : wV P G afn.ntmps 0 [] V afn.code vs [] (vEnd V 0 how afn.results fun r' rows' => r' = r ∧ rows' = [])) (rows : List Row) : Ev P G (.call f args rows (.ret r rows)) := by
  obtain ⟨r', rows', h1, rfl, rfl⟩ := fn_V (rows := []) how hm hf hlen hgood hvs h
  exact .prim f args rows _ (call_beside (call_holds h1) ha hp rows)

@[congr] theorem wV_congr {V : List Nat} {c : ACode} {vs vs' : List AV} {rows rows' : List Row} {K : Kon} (h : vs = vs') (hr : rows = rows') : wV P G n np ds V c vs rows K = wV P G n np ds V c vs' rows' K := by rw [h, hr]
@[congr] theorem wReg_congr {V : List Nat} {d : Bool} {l : List AOper} {vs vs' : List AV} {rows rows' : List Row} {K : Kon} (h : vs = vs') (hr : rows = rows') : wReg P G V d l vs rows K = wReg P G V d l vs' rows' K := by rw [h, hr]
@[congr] theorem SV_congr {V : List Nat} {c : ACode} {vs vs' : List AV} {rows rows' : List Row} {K : Kon} (h : vs = vs') (hr : rows = rows') : SV P G n np ds V c vs rows K = SV P G n np ds V c vs' rows' K := by rw [h, hr]
@[congr] theorem vSeq_congr {k : List AV → List Row → Prop} {K : Kon} {ex ex' : AEx} {e e' : List AV} {rows rows' : List Row} (hx : ex = ex') (h : e = e') (hr : rows = rows') : vSeq k K ex e rows = vSeq k K ex' e' rows' := by rw [hx, h, hr]
@[congr] theorem vBlock_congr {i : Nat} {K : Kon} {ex ex' : AEx} {e e' : List AV} {rows rows' : List Row} (hx : ex = ex') (h : e = e') (hr : rows = rows') : vBlock i K ex e rows = vBlock i K ex' e' rows' := by rw [hx, h, hr]
@[congr] theorem vEnd_congr {V : List Nat} {how : Nat} {l : List ARes} {Q : AV → List Row → Prop} {ex ex' : AEx} {e e' : List AV} {rows rows' : List Row} (hx : ex = ex') (h : e = e') (hr : rows = rows') : vEnd V np how l Q ex e rows = vEnd V np how l Q ex' e' rows' := by rw [hx, h, hr]

theorem vSeq_normal (k : List AV → List Row → Prop) (K : Kon) (e : List AV) (rows : List Row) : vSeq k K .normal e rows = k e rows := rfl
theorem vSeq_ret (k : List AV → List Row → Prop) (K : Kon) (e : List AV) (rows : List Row) : vSeq k K .ret e rows = K .ret e rows := rfl
theorem vSeq_exit (k : List AV → List Row → Prop) (K : Kon) (i : Nat) (e : List AV) (rows : List Row) : vSeq k K (.exit i) e rows = K (.exit i) e rows := rfl
theorem vSeq_panic (k : List AV → List Row → Prop) (K : Kon) (x : AV) (e : List AV) (rows : List Row) : vSeq k K (.panic x) e rows = K (.panic x) e rows := rfl
theorem vBlock_normal (i : Nat) (K : Kon) (e : List AV) (rows : List Row) : vBlock i K .normal e rows = K .normal e rows := rfl
theorem vBlock_ret (i : Nat) (K : Kon) (e : List AV) (rows : List Row) : vBlock i K .ret e rows = K .ret e rows := rfl
theorem vBlock_exit (i j : Nat) (K : Kon) (e : List AV) (rows : List Row) : vBlock i K (.exit j) e rows = if j = i then K .normal e rows else K (.exit j) e rows := rfl
theorem vBlock_panic (i : Nat) (K : Kon) (x : AV) (e : List AV) (rows : List Row) : vBlock i K (.panic x) e rows = K (.panic x) e rows := rfl
theorem vEnd_normal (V : List Nat) (how : Nat) (l : List ARes) (Q : AV → List Row → Prop) (e : List AV) (rows : List Row) : vEnd V np how l Q .normal e rows = ∃ r r' rows', wRes (V.zip e) rows l = some r ∧ endOK how np r rows r' rows' ∧ Q r' rows' := by simp [vEnd, isEnd]
theorem vEnd_ret (V : List Nat) (how : Nat) (l : List ARes) (Q : AV → List Row → Prop) (e : List AV) (rows : List Row) : vEnd V np how l Q .ret e rows = ∃ r r' rows', wRes (V.zip e) rows l = some r ∧ endOK how np r rows r' rows' ∧ Q r' rows' := by simp [vEnd, isEnd]

end
end
end Go.Proofs.Ytfcfdedbbhdioaa.AI
