/-
  No cell of these rows narrows 'for every input' (looked for: loops, veiled, ifaces, maps, wideKeys, modest, calm, conditions, laid).
  DERIVED. THE GIVEN ROWS OF THIS SEAT. 11 by the template 'for every input the law returns true; each argument reads behind the call as it read before'; 0 by the template 'total and deterministic' (their statements: YtfcfdedbbhdioaaTotals.lean).
  GIVEN WITH THE SEED: the statements are not yours to turn. If you find one false, say at which input.
  Laid BY PROGRAM, IN A SANDBOX (cutbox-rows.mjs): the forced cells as the released guide's own fill.sh prints them over the translation 2cf3094df9c3bed3… (all of the seat's roots in one cut). By AI agents, Wed Nov 11 2026. No macro, syntax, notation, axiom, sorry.
-/
import Derived.Test.YtfcfdedbbhdioaaChecked
import GoSem.Claim
import GoSem.ClaimJoined
import GoSem.ClaimMapViews
import Derived.JoinedTies
import Derived.KernelRfl
namespace Go.Proofs.Ytfcfdedbbhdioaa
/- THE CELL 'sum', in the pinned program and in every row, IS THE sha256 OF THE DUMP (.gsa) THAT YtfcfdedbbhdioaaProg.lean LOADS. Nothing in Lean hashes anything: it is a label: what it is worth is what the hold of that sum in a sandbox is worth. -/
noncomputable def Try.pinned : Pinned := { name := "ytfcfdedbbhdioaa", sum := "2cf3094df9c3bed38c01b1e15deaa79fb07c17aae82c1b742b93df691b67a3b0", checked := Try.checked }
namespace Rows
def none {H : Type} : Left H := { results := [], args := [] }

/-- 'shibbolethlaw17.ShapeMakes': WHATEVER THE INPUT: true; the input reads as it did. -/
def shapeMakesSpec : ChangeSpec := { name := "shapeMakes", fn := fun _ => fun
  | [d1, d2] => { results := [.lit (.bool true)], args := [d1, d2] }
  | _ => none }
def shapeMakesRow : OpenClaim := { program := "ytfcfdedbbhdioaa", sum := "2cf3094df9c3bed38c01b1e15deaa79fb07c17aae82c1b742b93df691b67a3b0", func := "shibboleth/shibbolethlaw17.ShapeMakes", spec := "shapeMakes", unfollowed := true, recurses := true, plainKeys := false, apart := false }
def ShapeMakesSaid : Prop := shapeMakesRow.holds Try.pinned (OpenSpec.ofChange shapeMakesSpec)

/-- ITS FALSE NEIGHBOUR: 'it returns false'. Refute it at one input. -/
def shapeMakesWrong : ChangeSpec := { name := "shapeMakes", fn := fun _ => fun
  | [d1, d2] => { results := [.lit (.bool false)], args := [d1, d2] }
  | _ => none }
def ShapeMakesWrongFalsely : Prop := shapeMakesRow.holds Try.pinned (OpenSpec.ofChange shapeMakesWrong)

/-- 'shibbolethlaw17.ShapeThree': WHATEVER THE INPUT: true; the input reads as it did. -/
def shapeThreeSpec : ChangeSpec := { name := "shapeThree", fn := fun _ => fun
  | [d1, d2, d3] => { results := [.lit (.bool true)], args := [d1, d2, d3] }
  | _ => none }
def shapeThreeRow : OpenClaim := { program := "ytfcfdedbbhdioaa", sum := "2cf3094df9c3bed38c01b1e15deaa79fb07c17aae82c1b742b93df691b67a3b0", func := "shibboleth/shibbolethlaw17.ShapeThree", spec := "shapeThree", unfollowed := true, recurses := true, plainKeys := false, apart := false }
def ShapeThreeSaid : Prop := shapeThreeRow.holds Try.pinned (OpenSpec.ofChange shapeThreeSpec)

/-- ITS FALSE NEIGHBOUR: 'it returns false'. Refute it at one input. -/
def shapeThreeWrong : ChangeSpec := { name := "shapeThree", fn := fun _ => fun
  | [d1, d2, d3] => { results := [.lit (.bool false)], args := [d1, d2, d3] }
  | _ => none }
def ShapeThreeWrongFalsely : Prop := shapeThreeRow.holds Try.pinned (OpenSpec.ofChange shapeThreeWrong)

/-- 'shibbolethlaw15.WrapLeft': WHATEVER THE INPUT: true; the input reads as it did. -/
def wrapLeftSpec : ChangeSpec := { name := "wrapLeft", fn := fun _ => fun
  | [d1, d2, d3, d4] => { results := [.lit (.bool true)], args := [d1, d2, d3, d4] }
  | _ => none }
def wrapLeftRow : OpenClaim := { program := "ytfcfdedbbhdioaa", sum := "2cf3094df9c3bed38c01b1e15deaa79fb07c17aae82c1b742b93df691b67a3b0", func := "shibboleth/shibbolethlaw15.WrapLeft", spec := "wrapLeft", unfollowed := true, recurses := true, plainKeys := false, apart := false }
def WrapLeftSaid : Prop := wrapLeftRow.holds Try.pinned (OpenSpec.ofChange wrapLeftSpec)

/-- ITS FALSE NEIGHBOUR: 'it returns false'. Refute it at one input. -/
def wrapLeftWrong : ChangeSpec := { name := "wrapLeft", fn := fun _ => fun
  | [d1, d2, d3, d4] => { results := [.lit (.bool false)], args := [d1, d2, d3, d4] }
  | _ => none }
def WrapLeftWrongFalsely : Prop := wrapLeftRow.holds Try.pinned (OpenSpec.ofChange wrapLeftWrong)

/-- 'shibbolethlaw15.WrapTakes': WHATEVER THE INPUT: true; the input reads as it did. -/
def wrapTakesSpec : ChangeSpec := { name := "wrapTakes", fn := fun _ => fun
  | [d1, d2, d3, d4, d5] => { results := [.lit (.bool true)], args := [d1, d2, d3, d4, d5] }
  | _ => none }
def wrapTakesRow : OpenClaim := { program := "ytfcfdedbbhdioaa", sum := "2cf3094df9c3bed38c01b1e15deaa79fb07c17aae82c1b742b93df691b67a3b0", func := "shibboleth/shibbolethlaw15.WrapTakes", spec := "wrapTakes", unfollowed := true, recurses := true, plainKeys := false, apart := false }
def WrapTakesSaid : Prop := wrapTakesRow.holds Try.pinned (OpenSpec.ofChange wrapTakesSpec)

/-- ITS FALSE NEIGHBOUR: 'it returns false'. Refute it at one input. -/
def wrapTakesWrong : ChangeSpec := { name := "wrapTakes", fn := fun _ => fun
  | [d1, d2, d3, d4, d5] => { results := [.lit (.bool false)], args := [d1, d2, d3, d4, d5] }
  | _ => none }
def WrapTakesWrongFalsely : Prop := wrapTakesRow.holds Try.pinned (OpenSpec.ofChange wrapTakesWrong)

/-- 'shibbolethlaw15.WrapKnown': WHATEVER THE INPUT: true; the input reads as it did. -/
def wrapKnownSpec : ChangeSpec := { name := "wrapKnown", fn := fun _ => fun
  | [] => { results := [.lit (.bool true)], args := [] }
  | _ => none }
def wrapKnownRow : OpenClaim := { program := "ytfcfdedbbhdioaa", sum := "2cf3094df9c3bed38c01b1e15deaa79fb07c17aae82c1b742b93df691b67a3b0", func := "shibboleth/shibbolethlaw15.WrapKnown", spec := "wrapKnown", unfollowed := true, recurses := true, plainKeys := false, apart := false }
def WrapKnownSaid : Prop := wrapKnownRow.holds Try.pinned (OpenSpec.ofChange wrapKnownSpec)

/-- ITS FALSE NEIGHBOUR: 'it returns false'. Refute it at one input. -/
def wrapKnownWrong : ChangeSpec := { name := "wrapKnown", fn := fun _ => fun
  | [] => { results := [.lit (.bool false)], args := [] }
  | _ => none }
def WrapKnownWrongFalsely : Prop := wrapKnownRow.holds Try.pinned (OpenSpec.ofChange wrapKnownWrong)

/-- 'shibbolethlaw17.ShapeKnown': WHATEVER THE INPUT: true; the input reads as it did. -/
def shapeKnownSpec : ChangeSpec := { name := "shapeKnown", fn := fun _ => fun
  | [] => { results := [.lit (.bool true)], args := [] }
  | _ => none }
def shapeKnownRow : OpenClaim := { program := "ytfcfdedbbhdioaa", sum := "2cf3094df9c3bed38c01b1e15deaa79fb07c17aae82c1b742b93df691b67a3b0", func := "shibboleth/shibbolethlaw17.ShapeKnown", spec := "shapeKnown", unfollowed := true, recurses := true, plainKeys := false, apart := false }
def ShapeKnownSaid : Prop := shapeKnownRow.holds Try.pinned (OpenSpec.ofChange shapeKnownSpec)

/-- ITS FALSE NEIGHBOUR: 'it returns false'. Refute it at one input. -/
def shapeKnownWrong : ChangeSpec := { name := "shapeKnown", fn := fun _ => fun
  | [] => { results := [.lit (.bool false)], args := [] }
  | _ => none }
def ShapeKnownWrongFalsely : Prop := shapeKnownRow.holds Try.pinned (OpenSpec.ofChange shapeKnownWrong)

/-- 'shibbolethlaw17.ShapeTakes': WHATEVER THE INPUT: true; the input reads as it did. -/
def shapeTakesSpec : ChangeSpec := { name := "shapeTakes", fn := fun _ => fun
  | [d1, d2] => { results := [.lit (.bool true)], args := [d1, d2] }
  | _ => none }
def shapeTakesRow : OpenClaim := { program := "ytfcfdedbbhdioaa", sum := "2cf3094df9c3bed38c01b1e15deaa79fb07c17aae82c1b742b93df691b67a3b0", func := "shibboleth/shibbolethlaw17.ShapeTakes", spec := "shapeTakes", unfollowed := true, recurses := true, plainKeys := false, apart := false }
def ShapeTakesSaid : Prop := shapeTakesRow.holds Try.pinned (OpenSpec.ofChange shapeTakesSpec)

/-- ITS FALSE NEIGHBOUR: 'it returns false'. Refute it at one input. -/
def shapeTakesWrong : ChangeSpec := { name := "shapeTakes", fn := fun _ => fun
  | [d1, d2] => { results := [.lit (.bool false)], args := [d1, d2] }
  | _ => none }
def ShapeTakesWrongFalsely : Prop := shapeTakesRow.holds Try.pinned (OpenSpec.ofChange shapeTakesWrong)

/-- 'shibbolethlaw17.ShapeOwn': WHATEVER THE INPUT: true; the input reads as it did. -/
def shapeOwnSpec : ChangeSpec := { name := "shapeOwn", fn := fun _ => fun
  | [d1, d2] => { results := [.lit (.bool true)], args := [d1, d2] }
  | _ => none }
def shapeOwnRow : OpenClaim := { program := "ytfcfdedbbhdioaa", sum := "2cf3094df9c3bed38c01b1e15deaa79fb07c17aae82c1b742b93df691b67a3b0", func := "shibboleth/shibbolethlaw17.ShapeOwn", spec := "shapeOwn", unfollowed := true, recurses := true, plainKeys := false, apart := false }
def ShapeOwnSaid : Prop := shapeOwnRow.holds Try.pinned (OpenSpec.ofChange shapeOwnSpec)

/-- ITS FALSE NEIGHBOUR: 'it returns false'. Refute it at one input. -/
def shapeOwnWrong : ChangeSpec := { name := "shapeOwn", fn := fun _ => fun
  | [d1, d2] => { results := [.lit (.bool false)], args := [d1, d2] }
  | _ => none }
def ShapeOwnWrongFalsely : Prop := shapeOwnRow.holds Try.pinned (OpenSpec.ofChange shapeOwnWrong)

/-- 'shibbolethlaw15.WrapDrops': WHATEVER THE INPUT: true; the input reads as it did. -/
def wrapDropsSpec : ChangeSpec := { name := "wrapDrops", fn := fun _ => fun
  | [d1, d2, d3, d4, d5, d6, d7] => { results := [.lit (.bool true)], args := [d1, d2, d3, d4, d5, d6, d7] }
  | _ => none }
def wrapDropsRow : OpenClaim := { program := "ytfcfdedbbhdioaa", sum := "2cf3094df9c3bed38c01b1e15deaa79fb07c17aae82c1b742b93df691b67a3b0", func := "shibboleth/shibbolethlaw15.WrapDrops", spec := "wrapDrops", unfollowed := true, recurses := true, plainKeys := false, apart := false }
def WrapDropsSaid : Prop := wrapDropsRow.holds Try.pinned (OpenSpec.ofChange wrapDropsSpec)

/-- ITS FALSE NEIGHBOUR: 'it returns false'. Refute it at one input. -/
def wrapDropsWrong : ChangeSpec := { name := "wrapDrops", fn := fun _ => fun
  | [d1, d2, d3, d4, d5, d6, d7] => { results := [.lit (.bool false)], args := [d1, d2, d3, d4, d5, d6, d7] }
  | _ => none }
def WrapDropsWrongFalsely : Prop := wrapDropsRow.holds Try.pinned (OpenSpec.ofChange wrapDropsWrong)

/-- 'shibbolethlaw15.WrapNone': WHATEVER THE INPUT: true; the input reads as it did. -/
def wrapNoneSpec : ChangeSpec := { name := "wrapNone", fn := fun _ => fun
  | [d1, d2] => { results := [.lit (.bool true)], args := [d1, d2] }
  | _ => none }
def wrapNoneRow : OpenClaim := { program := "ytfcfdedbbhdioaa", sum := "2cf3094df9c3bed38c01b1e15deaa79fb07c17aae82c1b742b93df691b67a3b0", func := "shibboleth/shibbolethlaw15.WrapNone", spec := "wrapNone", unfollowed := true, recurses := true, plainKeys := false, apart := false }
def WrapNoneSaid : Prop := wrapNoneRow.holds Try.pinned (OpenSpec.ofChange wrapNoneSpec)

/-- ITS FALSE NEIGHBOUR: 'it returns false'. Refute it at one input. -/
def wrapNoneWrong : ChangeSpec := { name := "wrapNone", fn := fun _ => fun
  | [d1, d2] => { results := [.lit (.bool false)], args := [d1, d2] }
  | _ => none }
def WrapNoneWrongFalsely : Prop := wrapNoneRow.holds Try.pinned (OpenSpec.ofChange wrapNoneWrong)

/-- 'shibbolethlaw15.WrapSingle': WHATEVER THE INPUT: true; the input reads as it did. -/
def wrapSingleSpec : ChangeSpec := { name := "wrapSingle", fn := fun _ => fun
  | [d1, d2, d3, d4, d5, d6, d7] => { results := [.lit (.bool true)], args := [d1, d2, d3, d4, d5, d6, d7] }
  | _ => none }
def wrapSingleRow : OpenClaim := { program := "ytfcfdedbbhdioaa", sum := "2cf3094df9c3bed38c01b1e15deaa79fb07c17aae82c1b742b93df691b67a3b0", func := "shibboleth/shibbolethlaw15.WrapSingle", spec := "wrapSingle", unfollowed := true, recurses := true, plainKeys := false, apart := false }
def WrapSingleSaid : Prop := wrapSingleRow.holds Try.pinned (OpenSpec.ofChange wrapSingleSpec)

/-- ITS FALSE NEIGHBOUR: 'it returns false'. Refute it at one input. -/
def wrapSingleWrong : ChangeSpec := { name := "wrapSingle", fn := fun _ => fun
  | [d1, d2, d3, d4, d5, d6, d7] => { results := [.lit (.bool false)], args := [d1, d2, d3, d4, d5, d6, d7] }
  | _ => none }
def WrapSingleWrongFalsely : Prop := wrapSingleRow.holds Try.pinned (OpenSpec.ofChange wrapSingleWrong)

/- THE SECOND FORM. 'bulk': how many values and letters a reading holds, each counted each time it is reached (what is shared counts as often as it is met; a slice's spare places count too). A statement '..UptoSaid' is the law's where the arguments, and the package variables that the reading takes, are together of bulk at most 1048576: NARROWER than '..Said'. Prove '..Said' where nothing that the law and all that it calls make is longer than what came in: it says more and counts as full. Else prove '..UptoSaid'. A law counts once. -/
mutual
def uptoBulk {H : Type} : DataW H → Nat
  | .lit (.string bytes) => bytes.length + 1
  | .lit _ => 1
  | .nil => 1
  | .ptr d => uptoBulk d + 1
  | .slice elems spare => uptoBulkAll elems + uptoBulkAll spare + 1
  | .agg parts => uptoBulkAll parts + 1
  | .iface _ d => uptoBulk d + 1
  | .map entries => uptoBulkEntries entries + 1
  | .held _ => 1
def uptoBulkAll {H : Type} : List (DataW H) → Nat
  | [] => 0
  | d :: r => uptoBulk d + uptoBulkAll r
def uptoBulkEntries {H : Type} : List (Lit × DataW H) → Nat
  | [] => 0
  | x :: r => uptoBulkEntry x + uptoBulkEntries r
def uptoBulkEntry {H : Type} : Lit × DataW H → Nat
  | (.string bytes, d) => bytes.length + uptoBulk d + 1
  | (_, d) => uptoBulk d + 1
 end
def uptoSmall : (H : Type) → List (DataW H) → Bool := fun _ ds => decide (uptoBulkAll ds ≤ 1048576)
def OpenSpec.upto (s : _root_.Go.ChangeSpec) : _root_.Go.OpenSpec := { _root_.Go.OpenSpec.ofChange s with cond := some uptoSmall }

/-- 'shibbolethlaw17.ShapeMakes', WHERE WHAT IT READS IS OF BULK AT MOST 1048576: true; the input reads as it did. -/
def shapeMakesUptoRow : OpenClaim := { program := "ytfcfdedbbhdioaa", sum := "2cf3094df9c3bed38c01b1e15deaa79fb07c17aae82c1b742b93df691b67a3b0", func := "shibboleth/shibbolethlaw17.ShapeMakes", spec := "shapeMakes", unfollowed := true, recurses := true, plainKeys := false, apart := false, narrowed := true }
def ShapeMakesUptoSaid : Prop := shapeMakesUptoRow.holds Try.pinned (OpenSpec.upto shapeMakesSpec)

/-- 'shibbolethlaw17.ShapeThree', WHERE WHAT IT READS IS OF BULK AT MOST 1048576: true; the input reads as it did. -/
def shapeThreeUptoRow : OpenClaim := { program := "ytfcfdedbbhdioaa", sum := "2cf3094df9c3bed38c01b1e15deaa79fb07c17aae82c1b742b93df691b67a3b0", func := "shibboleth/shibbolethlaw17.ShapeThree", spec := "shapeThree", unfollowed := true, recurses := true, plainKeys := false, apart := false, narrowed := true }
def ShapeThreeUptoSaid : Prop := shapeThreeUptoRow.holds Try.pinned (OpenSpec.upto shapeThreeSpec)

/-- 'shibbolethlaw15.WrapLeft', WHERE WHAT IT READS IS OF BULK AT MOST 1048576: true; the input reads as it did. -/
def wrapLeftUptoRow : OpenClaim := { program := "ytfcfdedbbhdioaa", sum := "2cf3094df9c3bed38c01b1e15deaa79fb07c17aae82c1b742b93df691b67a3b0", func := "shibboleth/shibbolethlaw15.WrapLeft", spec := "wrapLeft", unfollowed := true, recurses := true, plainKeys := false, apart := false, narrowed := true }
def WrapLeftUptoSaid : Prop := wrapLeftUptoRow.holds Try.pinned (OpenSpec.upto wrapLeftSpec)

/-- 'shibbolethlaw15.WrapTakes', WHERE WHAT IT READS IS OF BULK AT MOST 1048576: true; the input reads as it did. -/
def wrapTakesUptoRow : OpenClaim := { program := "ytfcfdedbbhdioaa", sum := "2cf3094df9c3bed38c01b1e15deaa79fb07c17aae82c1b742b93df691b67a3b0", func := "shibboleth/shibbolethlaw15.WrapTakes", spec := "wrapTakes", unfollowed := true, recurses := true, plainKeys := false, apart := false, narrowed := true }
def WrapTakesUptoSaid : Prop := wrapTakesUptoRow.holds Try.pinned (OpenSpec.upto wrapTakesSpec)

/-- 'shibbolethlaw15.WrapKnown', WHERE WHAT IT READS IS OF BULK AT MOST 1048576: true; the input reads as it did. -/
def wrapKnownUptoRow : OpenClaim := { program := "ytfcfdedbbhdioaa", sum := "2cf3094df9c3bed38c01b1e15deaa79fb07c17aae82c1b742b93df691b67a3b0", func := "shibboleth/shibbolethlaw15.WrapKnown", spec := "wrapKnown", unfollowed := true, recurses := true, plainKeys := false, apart := false, narrowed := true }
def WrapKnownUptoSaid : Prop := wrapKnownUptoRow.holds Try.pinned (OpenSpec.upto wrapKnownSpec)

/-- 'shibbolethlaw17.ShapeKnown', WHERE WHAT IT READS IS OF BULK AT MOST 1048576: true; the input reads as it did. -/
def shapeKnownUptoRow : OpenClaim := { program := "ytfcfdedbbhdioaa", sum := "2cf3094df9c3bed38c01b1e15deaa79fb07c17aae82c1b742b93df691b67a3b0", func := "shibboleth/shibbolethlaw17.ShapeKnown", spec := "shapeKnown", unfollowed := true, recurses := true, plainKeys := false, apart := false, narrowed := true }
def ShapeKnownUptoSaid : Prop := shapeKnownUptoRow.holds Try.pinned (OpenSpec.upto shapeKnownSpec)

/-- 'shibbolethlaw17.ShapeTakes', WHERE WHAT IT READS IS OF BULK AT MOST 1048576: true; the input reads as it did. -/
def shapeTakesUptoRow : OpenClaim := { program := "ytfcfdedbbhdioaa", sum := "2cf3094df9c3bed38c01b1e15deaa79fb07c17aae82c1b742b93df691b67a3b0", func := "shibboleth/shibbolethlaw17.ShapeTakes", spec := "shapeTakes", unfollowed := true, recurses := true, plainKeys := false, apart := false, narrowed := true }
def ShapeTakesUptoSaid : Prop := shapeTakesUptoRow.holds Try.pinned (OpenSpec.upto shapeTakesSpec)

/-- 'shibbolethlaw17.ShapeOwn', WHERE WHAT IT READS IS OF BULK AT MOST 1048576: true; the input reads as it did. -/
def shapeOwnUptoRow : OpenClaim := { program := "ytfcfdedbbhdioaa", sum := "2cf3094df9c3bed38c01b1e15deaa79fb07c17aae82c1b742b93df691b67a3b0", func := "shibboleth/shibbolethlaw17.ShapeOwn", spec := "shapeOwn", unfollowed := true, recurses := true, plainKeys := false, apart := false, narrowed := true }
def ShapeOwnUptoSaid : Prop := shapeOwnUptoRow.holds Try.pinned (OpenSpec.upto shapeOwnSpec)

/-- 'shibbolethlaw15.WrapDrops', WHERE WHAT IT READS IS OF BULK AT MOST 1048576: true; the input reads as it did. -/
def wrapDropsUptoRow : OpenClaim := { program := "ytfcfdedbbhdioaa", sum := "2cf3094df9c3bed38c01b1e15deaa79fb07c17aae82c1b742b93df691b67a3b0", func := "shibboleth/shibbolethlaw15.WrapDrops", spec := "wrapDrops", unfollowed := true, recurses := true, plainKeys := false, apart := false, narrowed := true }
def WrapDropsUptoSaid : Prop := wrapDropsUptoRow.holds Try.pinned (OpenSpec.upto wrapDropsSpec)

/-- 'shibbolethlaw15.WrapNone', WHERE WHAT IT READS IS OF BULK AT MOST 1048576: true; the input reads as it did. -/
def wrapNoneUptoRow : OpenClaim := { program := "ytfcfdedbbhdioaa", sum := "2cf3094df9c3bed38c01b1e15deaa79fb07c17aae82c1b742b93df691b67a3b0", func := "shibboleth/shibbolethlaw15.WrapNone", spec := "wrapNone", unfollowed := true, recurses := true, plainKeys := false, apart := false, narrowed := true }
def WrapNoneUptoSaid : Prop := wrapNoneUptoRow.holds Try.pinned (OpenSpec.upto wrapNoneSpec)

/-- 'shibbolethlaw15.WrapSingle', WHERE WHAT IT READS IS OF BULK AT MOST 1048576: true; the input reads as it did. -/
def wrapSingleUptoRow : OpenClaim := { program := "ytfcfdedbbhdioaa", sum := "2cf3094df9c3bed38c01b1e15deaa79fb07c17aae82c1b742b93df691b67a3b0", func := "shibboleth/shibbolethlaw15.WrapSingle", spec := "wrapSingle", unfollowed := true, recurses := true, plainKeys := false, apart := false, narrowed := true }
def WrapSingleUptoSaid : Prop := wrapSingleUptoRow.holds Try.pinned (OpenSpec.upto wrapSingleSpec)

end Rows
end Go.Proofs.Ytfcfdedbbhdioaa
