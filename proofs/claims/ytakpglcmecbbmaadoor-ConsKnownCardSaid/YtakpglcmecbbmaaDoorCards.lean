/-
  DERIVED. GIVEN WITH THE SEED: THE CARDS: each row of YtakpglcmecbbmaaDoorRows.lean that lists a variable, with what it lists TIED to the program's text (the seventh form; the later family's looks); each row that meets fmt, with fmt's text TOLD by the authors' own Lean function (tested against real Go, not proved from fmt's source: count such statements apart). THE CARD IS WHAT COUNTS. Prove the row's statement (the work); the ties are given (YtakpglcmecbbmaaDoorTie.lean); close each card by the builder's one call (the guide's Derived/Test/ToyasCard.lean, 'card_holds'). Laid BY PROGRAM, IN A SANDBOX (cutbox-door.mjs). By AI agents, Wed Nov 11 2026. No macro, syntax, notation, axiom, sorry.
-/
import Derived.Test.YtakpglcmecbbmaaDoorRows
import GoSem.ClaimSeven
namespace Go.Proofs.YtakpglcmecbbmaaDoor
namespace Rows

/-- THE TIED CARD OF 'shibbolethlaw09.ConsKnown'. -/
def consKnownCard : Claim7 := { stood := { row := consKnownRow, standIns := [], harness := (true, "f6cc4f77b53bc7afc42baf7be3c4b71f90fe23643314858e173fa54e034afc23"), looks := true }, kinds := [], alts := [], laidByText := true, laidKinds := [.data], laidTests := true, laidLooks := .later }
def ConsKnownCardSaid : Prop := Claim7.holds Tryd.pinned (.plain (OpenSpec.ofChange consKnownSpec)) consKnownCard

/-- THE TIED CARD OF 'shibbolethlaw09.ConsStates'. -/
def consStatesCard : Claim7 := { stood := { row := consStatesRow, standIns := [], harness := (true, "f6cc4f77b53bc7afc42baf7be3c4b71f90fe23643314858e173fa54e034afc23"), looks := true }, kinds := [], alts := [], laidByText := true, laidKinds := [.data], laidTests := true, laidLooks := .later }
def ConsStatesCardSaid : Prop := Claim7.holds Tryd.pinned (.plain (OpenSpec.ofChange consStatesSpec)) consStatesCard

/-- THE TIED CARD OF 'shibbolethlaw09.ConsBool'. -/
def consBoolCard : Claim7 := { stood := { row := consBoolRow, standIns := [], harness := (true, "f6cc4f77b53bc7afc42baf7be3c4b71f90fe23643314858e173fa54e034afc23"), looks := true }, kinds := [], alts := [], laidByText := true, laidKinds := [.data], laidTests := true, laidLooks := .later }
def ConsBoolCardSaid : Prop := Claim7.holds Tryd.pinned (.plain (OpenSpec.ofChange consBoolSpec)) consBoolCard

/-- THE TIED CARD OF 'shibbolethlaw09.ConsSteps'. -/
def consStepsCard : Claim7 := { stood := { row := consStepsRow, standIns := [], harness := (true, "f6cc4f77b53bc7afc42baf7be3c4b71f90fe23643314858e173fa54e034afc23"), looks := true }, kinds := [], alts := [], laidByText := true, laidKinds := [.data], laidTests := true, laidLooks := .later }
def ConsStepsCardSaid : Prop := Claim7.holds Tryd.pinned (.plain (OpenSpec.ofChange consStepsSpec)) consStepsCard

/-- THE TIED CARD OF 'shibbolethlaw09.ConsClasses'. -/
def consClassesCard : Claim7 := { stood := { row := consClassesRow, standIns := [], harness := (true, "f6cc4f77b53bc7afc42baf7be3c4b71f90fe23643314858e173fa54e034afc23"), looks := true }, kinds := [], alts := [], laidByText := true, laidKinds := [.data], laidTests := true, laidLooks := .later }
def ConsClassesCardSaid : Prop := Claim7.holds Tryd.pinned (.plain (OpenSpec.ofChange consClassesSpec)) consClassesCard

/-- THE SECOND FORM's CARD OF 'shibbolethlaw09.ConsKnown'. -/
def consKnownUptoCard : Claim7 := { stood := { row := consKnownUptoRow, standIns := [], harness := (true, "f6cc4f77b53bc7afc42baf7be3c4b71f90fe23643314858e173fa54e034afc23"), looks := true }, kinds := [], alts := [], laidByText := true, laidKinds := [.data], laidTests := true, laidLooks := .later }
def ConsKnownUptoCardSaid : Prop := Claim7.holds Tryd.pinned (.plain (OpenSpec.upto consKnownSpec)) consKnownUptoCard

/-- THE SECOND FORM's CARD OF 'shibbolethlaw09.ConsStates'. -/
def consStatesUptoCard : Claim7 := { stood := { row := consStatesUptoRow, standIns := [], harness := (true, "f6cc4f77b53bc7afc42baf7be3c4b71f90fe23643314858e173fa54e034afc23"), looks := true }, kinds := [], alts := [], laidByText := true, laidKinds := [.data], laidTests := true, laidLooks := .later }
def ConsStatesUptoCardSaid : Prop := Claim7.holds Tryd.pinned (.plain (OpenSpec.upto consStatesSpec)) consStatesUptoCard

/-- THE SECOND FORM's CARD OF 'shibbolethlaw09.ConsBool'. -/
def consBoolUptoCard : Claim7 := { stood := { row := consBoolUptoRow, standIns := [], harness := (true, "f6cc4f77b53bc7afc42baf7be3c4b71f90fe23643314858e173fa54e034afc23"), looks := true }, kinds := [], alts := [], laidByText := true, laidKinds := [.data], laidTests := true, laidLooks := .later }
def ConsBoolUptoCardSaid : Prop := Claim7.holds Tryd.pinned (.plain (OpenSpec.upto consBoolSpec)) consBoolUptoCard

/-- THE SECOND FORM's CARD OF 'shibbolethlaw09.ConsSteps'. -/
def consStepsUptoCard : Claim7 := { stood := { row := consStepsUptoRow, standIns := [], harness := (true, "f6cc4f77b53bc7afc42baf7be3c4b71f90fe23643314858e173fa54e034afc23"), looks := true }, kinds := [], alts := [], laidByText := true, laidKinds := [.data], laidTests := true, laidLooks := .later }
def ConsStepsUptoCardSaid : Prop := Claim7.holds Tryd.pinned (.plain (OpenSpec.upto consStepsSpec)) consStepsUptoCard

/-- THE SECOND FORM's CARD OF 'shibbolethlaw09.ConsClasses'. -/
def consClassesUptoCard : Claim7 := { stood := { row := consClassesUptoRow, standIns := [], harness := (true, "f6cc4f77b53bc7afc42baf7be3c4b71f90fe23643314858e173fa54e034afc23"), looks := true }, kinds := [], alts := [], laidByText := true, laidKinds := [.data], laidTests := true, laidLooks := .later }
def ConsClassesUptoCardSaid : Prop := Claim7.holds Tryd.pinned (.plain (OpenSpec.upto consClassesSpec)) consClassesUptoCard
end Rows
end Go.Proofs.YtakpglcmecbbmaaDoor
