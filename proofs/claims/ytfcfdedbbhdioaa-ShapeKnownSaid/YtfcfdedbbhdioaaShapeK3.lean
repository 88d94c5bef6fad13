/- ShapeKnown's run. -/
import Derived.Test.YtfcfdedbbhdioaaShapeK2
namespace Go.Proofs.Ytfcfdedbbhdioaa.AI
open Go
set_option linter.unusedVariables false
set_option maxRecDepth 100000

noncomputable def primS1 (f : FuncId) (a : List AV) (rows : List Row) : Option CRes := match f, a with
  | 15, [] => some (.ret (.c (.bool true)) rows)
  | 46, [x] => match AV.eqB 4 x wordsA with | true => some (.ret othersM rows) | false => none
  | 33, [x, .c (.string ⟨⟨w⟩⟩)] => match AV.eqB 8 x othersM with
    | true => match memB w goodW with
      | true => some (.ret (.c (.bool true)) rows)
      | false => match memB w badW with
        | true => some (.ret (.c (.bool false)) rows)
        | false => none
    | false => none
  | f, a => primS0 f a rows

noncomputable def hints1 (f : Nat) : Hint := match f with
  | 8 => { fz := [82, 84, 89, 93, 108, 59, 61, 72] }
  | f => hints0 f

theorem fns_ok1 : ((List.range 172).all fun i => bad0.contains (3 + i) || match cgFn Try.prog (hints1 (3 + i)) (3 + i) with | some a => goodFn Try.prog (3 + i) a | none => true) = true := by kernel_rfl

noncomputable def CS1 : Cfg := { CS0 with prim := primS1, fn := cgTab Try.prog hints1 3 174 bad0 }

theorem CS1_ok : CfgOK Try.prog [] CS1 := by
  refine ⟨rfl, C0_ok.hm, fun f afn h => cgTab_ok (lo := 3) (n := 172) fns_ok1 f afn h (by decide), fun f args rows r h => ?_⟩
  change primS1 f args rows = some r at h
  unfold primS1 at h
  split at h
  · injection h with h
    subst h
    exact shape_awake rows
  · split at h
    · rename_i x hx
      injection h with h
      subst h
      rw [AV.eqB_eq hx]
      exact others_ok rows
    · cases h
  · split at h
    · rename_i x w _ hx
      rw [AV.eqB_eq hx]
      split at h
      · rename_i hm
        injection h with h
        subst h
        exact runsB_ok good_run w (memB_mem hm) rows
      · split at h
        · rename_i hm
          injection h with h
          subst h
          exact runsB_ok bad_run w (memB_mem hm) rows
        · cases h
    · cases h
  · exact primS0_ok _ _ _ _ h

theorem shape_known_run : runCall CS1 3000 8 [] [] = .ok (.ret (.c (.bool true)) []) := by kernel_rfl

end Go.Proofs.Ytfcfdedbbhdioaa.AI
