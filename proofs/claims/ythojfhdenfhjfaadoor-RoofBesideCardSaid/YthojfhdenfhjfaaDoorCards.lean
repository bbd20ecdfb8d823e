/-
  DERIVED. GIVEN WITH THE SEED: THE CARDS: each row of YthojfhdenfhjfaaDoorRows.lean that lists a variable, with what it lists TIED to the program's text (the seventh form; the later family's looks); each row that meets fmt, with fmt's text TOLD by the authors' own Lean function (tested against real Go, not proved from fmt's source: count such statements apart). THE CARD IS WHAT COUNTS. Prove the row's statement (the work); the ties are given (YthojfhdenfhjfaaDoorTie.lean); close each card by the builder's one call (the guide's Derived/Test/ToyasCard.lean, 'card_holds'). Laid BY PROGRAM, IN A SANDBOX (cutbox-door.mjs). By AI agents, Wed Nov 11 2026. No macro, syntax, notation, axiom, sorry.
-/
import Derived.Test.YthojfhdenfhjfaaDoorRows
import GoSem.ClaimSeven
namespace Go.Proofs.YthojfhdenfhjfaaDoor
namespace Rows

/-- THE TIED CARD OF 'thatchlaw01.RoofBeside'. -/
def roofBesideCard : Claim7 := { stood := { row := roofBesideRow, standIns := [], harness := (true, "3e1433fa606a37935818d364a71945062d13dd03a80fe83940ced12d6ed84a26"), looks := false }, kinds := [], alts := [], laidByText := true, laidKinds := [.funcs], laidTests := true, laidLooks := .later }
def RoofBesideCardSaid : Prop := Claim7.holds Tryd.pinned (.plain (OpenSpec.ofChange roofBesideSpec)) roofBesideCard

/-- THE TIED CARD OF 'thatchlaw01.RoofHeights'. -/
def roofHeightsCard : Claim7 := { stood := { row := roofHeightsRow, standIns := [], harness := (true, "3e1433fa606a37935818d364a71945062d13dd03a80fe83940ced12d6ed84a26"), looks := false }, kinds := [], alts := [], laidByText := true, laidKinds := [.funcs], laidTests := true, laidLooks := .later }
def RoofHeightsCardSaid : Prop := Claim7.holds Tryd.pinned (.plain (OpenSpec.ofChange roofHeightsSpec)) roofHeightsCard

/-- THE TIED CARD OF 'thatchlaw01.RoofPoints'. -/
def roofPointsCard : Claim7 := { stood := { row := roofPointsRow, standIns := [], harness := (true, "3e1433fa606a37935818d364a71945062d13dd03a80fe83940ced12d6ed84a26"), looks := false }, kinds := [], alts := [], laidByText := true, laidKinds := [.funcs], laidTests := true, laidLooks := .later }
def RoofPointsCardSaid : Prop := Claim7.holds Tryd.pinned (.plain (OpenSpec.ofChange roofPointsSpec)) roofPointsCard

/-- THE TIED CARD OF 'thatchlaw01.RoofInside'. -/
def roofInsideCard : Claim7 := { stood := { row := roofInsideRow, standIns := [], harness := (true, "3e1433fa606a37935818d364a71945062d13dd03a80fe83940ced12d6ed84a26"), looks := false }, kinds := [], alts := [], laidByText := true, laidKinds := [.funcs], laidTests := true, laidLooks := .later }
def RoofInsideCardSaid : Prop := Claim7.holds Tryd.pinned (.plain (OpenSpec.ofChange roofInsideSpec)) roofInsideCard

/-- THE TIED CARD OF 'thatchlaw01.RoofLays'. -/
def roofLaysCard : Claim7 := { stood := { row := roofLaysRow, standIns := [], harness := (true, "3e1433fa606a37935818d364a71945062d13dd03a80fe83940ced12d6ed84a26"), looks := false }, kinds := [], alts := [], laidByText := true, laidKinds := [.funcs], laidTests := true, laidLooks := .later }
def RoofLaysCardSaid : Prop := Claim7.holds Tryd.pinned (.plain (OpenSpec.ofChange roofLaysSpec)) roofLaysCard

/-- THE TIED CARD OF 'thatchlaw01.RoofDown'. -/
def roofDownCard : Claim7 := { stood := { row := roofDownRow, standIns := [], harness := (true, "3e1433fa606a37935818d364a71945062d13dd03a80fe83940ced12d6ed84a26"), looks := false }, kinds := [], alts := [], laidByText := true, laidKinds := [.funcs], laidTests := true, laidLooks := .later }
def RoofDownCardSaid : Prop := Claim7.holds Tryd.pinned (.plain (OpenSpec.ofChange roofDownSpec)) roofDownCard

/-- THE TIED CARD OF 'thatchlaw01.RoofLaid'. -/
def roofLaidCard : Claim7 := { stood := { row := roofLaidRow, standIns := [], harness := (true, "3e1433fa606a37935818d364a71945062d13dd03a80fe83940ced12d6ed84a26"), looks := false }, kinds := [], alts := [], laidByText := true, laidKinds := [.funcs], laidTests := true, laidLooks := .later }
def RoofLaidCardSaid : Prop := Claim7.holds Tryd.pinned (.plain (OpenSpec.ofChange roofLaidSpec)) roofLaidCard

/-- THE TIED CARD OF 'thatchlaw01.RoofScaled'. -/
def roofScaledCard : Claim7 := { stood := { row := roofScaledRow, standIns := [], harness := (true, "3e1433fa606a37935818d364a71945062d13dd03a80fe83940ced12d6ed84a26"), looks := false }, kinds := [], alts := [], laidByText := true, laidKinds := [.funcs], laidTests := true, laidLooks := .later }
def RoofScaledCardSaid : Prop := Claim7.holds Tryd.pinned (.plain (OpenSpec.ofChange roofScaledSpec)) roofScaledCard

/-- THE TIED CARD OF 'thatchlaw01.RoofKnown'. -/
def roofKnownCard : Claim7 := { stood := { row := roofKnownRow, standIns := [], harness := (true, "3e1433fa606a37935818d364a71945062d13dd03a80fe83940ced12d6ed84a26"), looks := false }, kinds := [], alts := [], laidByText := true, laidKinds := [.funcs], laidTests := true, laidLooks := .later }
def RoofKnownCardSaid : Prop := Claim7.holds Tryd.pinned (.plain (OpenSpec.ofChange roofKnownSpec)) roofKnownCard

/-- THE TIED CARD OF 'thatchlaw01.RoofMirrored'. -/
def roofMirroredCard : Claim7 := { stood := { row := roofMirroredRow, standIns := [], harness := (true, "3e1433fa606a37935818d364a71945062d13dd03a80fe83940ced12d6ed84a26"), looks := false }, kinds := [], alts := [], laidByText := true, laidKinds := [.funcs], laidTests := true, laidLooks := .later }
def RoofMirroredCardSaid : Prop := Claim7.holds Tryd.pinned (.plain (OpenSpec.ofChange roofMirroredSpec)) roofMirroredCard

/-- THE TIED CARD OF 'thatchlaw01.RoofTurned'. -/
def roofTurnedCard : Claim7 := { stood := { row := roofTurnedRow, standIns := [], harness := (true, "3e1433fa606a37935818d364a71945062d13dd03a80fe83940ced12d6ed84a26"), looks := false }, kinds := [], alts := [], laidByText := true, laidKinds := [.funcs], laidTests := true, laidLooks := .later }
def RoofTurnedCardSaid : Prop := Claim7.holds Tryd.pinned (.plain (OpenSpec.ofChange roofTurnedSpec)) roofTurnedCard

/-- THE SECOND FORM's CARD OF 'thatchlaw01.RoofBeside'. -/
def roofBesideUptoCard : Claim7 := { stood := { row := roofBesideUptoRow, standIns := [], harness := (true, "3e1433fa606a37935818d364a71945062d13dd03a80fe83940ced12d6ed84a26"), looks := false }, kinds := [], alts := [], laidByText := true, laidKinds := [.funcs], laidTests := true, laidLooks := .later }
def RoofBesideUptoCardSaid : Prop := Claim7.holds Tryd.pinned (.plain (OpenSpec.upto roofBesideSpec)) roofBesideUptoCard

/-- THE SECOND FORM's CARD OF 'thatchlaw01.RoofHeights'. -/
def roofHeightsUptoCard : Claim7 := { stood := { row := roofHeightsUptoRow, standIns := [], harness := (true, "3e1433fa606a37935818d364a71945062d13dd03a80fe83940ced12d6ed84a26"), looks := false }, kinds := [], alts := [], laidByText := true, laidKinds := [.funcs], laidTests := true, laidLooks := .later }
def RoofHeightsUptoCardSaid : Prop := Claim7.holds Tryd.pinned (.plain (OpenSpec.upto roofHeightsSpec)) roofHeightsUptoCard

/-- THE SECOND FORM's CARD OF 'thatchlaw01.RoofPoints'. -/
def roofPointsUptoCard : Claim7 := { stood := { row := roofPointsUptoRow, standIns := [], harness := (true, "3e1433fa606a37935818d364a71945062d13dd03a80fe83940ced12d6ed84a26"), looks := false }, kinds := [], alts := [], laidByText := true, laidKinds := [.funcs], laidTests := true, laidLooks := .later }
def RoofPointsUptoCardSaid : Prop := Claim7.holds Tryd.pinned (.plain (OpenSpec.upto roofPointsSpec)) roofPointsUptoCard

/-- THE SECOND FORM's CARD OF 'thatchlaw01.RoofInside'. -/
def roofInsideUptoCard : Claim7 := { stood := { row := roofInsideUptoRow, standIns := [], harness := (true, "3e1433fa606a37935818d364a71945062d13dd03a80fe83940ced12d6ed84a26"), looks := false }, kinds := [], alts := [], laidByText := true, laidKinds := [.funcs], laidTests := true, laidLooks := .later }
def RoofInsideUptoCardSaid : Prop := Claim7.holds Tryd.pinned (.plain (OpenSpec.upto roofInsideSpec)) roofInsideUptoCard

/-- THE SECOND FORM's CARD OF 'thatchlaw01.RoofLays'. -/
def roofLaysUptoCard : Claim7 := { stood := { row := roofLaysUptoRow, standIns := [], harness := (true, "3e1433fa606a37935818d364a71945062d13dd03a80fe83940ced12d6ed84a26"), looks := false }, kinds := [], alts := [], laidByText := true, laidKinds := [.funcs], laidTests := true, laidLooks := .later }
def RoofLaysUptoCardSaid : Prop := Claim7.holds Tryd.pinned (.plain (OpenSpec.upto roofLaysSpec)) roofLaysUptoCard

/-- THE SECOND FORM's CARD OF 'thatchlaw01.RoofDown'. -/
def roofDownUptoCard : Claim7 := { stood := { row := roofDownUptoRow, standIns := [], harness := (true, "3e1433fa606a37935818d364a71945062d13dd03a80fe83940ced12d6ed84a26"), looks := false }, kinds := [], alts := [], laidByText := true, laidKinds := [.funcs], laidTests := true, laidLooks := .later }
def RoofDownUptoCardSaid : Prop := Claim7.holds Tryd.pinned (.plain (OpenSpec.upto roofDownSpec)) roofDownUptoCard

/-- THE SECOND FORM's CARD OF 'thatchlaw01.RoofLaid'. -/
def roofLaidUptoCard : Claim7 := { stood := { row := roofLaidUptoRow, standIns := [], harness := (true, "3e1433fa606a37935818d364a71945062d13dd03a80fe83940ced12d6ed84a26"), looks := false }, kinds := [], alts := [], laidByText := true, laidKinds := [.funcs], laidTests := true, laidLooks := .later }
def RoofLaidUptoCardSaid : Prop := Claim7.holds Tryd.pinned (.plain (OpenSpec.upto roofLaidSpec)) roofLaidUptoCard

/-- THE SECOND FORM's CARD OF 'thatchlaw01.RoofScaled'. -/
def roofScaledUptoCard : Claim7 := { stood := { row := roofScaledUptoRow, standIns := [], harness := (true, "3e1433fa606a37935818d364a71945062d13dd03a80fe83940ced12d6ed84a26"), looks := false }, kinds := [], alts := [], laidByText := true, laidKinds := [.funcs], laidTests := true, laidLooks := .later }
def RoofScaledUptoCardSaid : Prop := Claim7.holds Tryd.pinned (.plain (OpenSpec.upto roofScaledSpec)) roofScaledUptoCard

/-- THE SECOND FORM's CARD OF 'thatchlaw01.RoofKnown'. -/
def roofKnownUptoCard : Claim7 := { stood := { row := roofKnownUptoRow, standIns := [], harness := (true, "3e1433fa606a37935818d364a71945062d13dd03a80fe83940ced12d6ed84a26"), looks := false }, kinds := [], alts := [], laidByText := true, laidKinds := [.funcs], laidTests := true, laidLooks := .later }
def RoofKnownUptoCardSaid : Prop := Claim7.holds Tryd.pinned (.plain (OpenSpec.upto roofKnownSpec)) roofKnownUptoCard

/-- THE SECOND FORM's CARD OF 'thatchlaw01.RoofMirrored'. -/
def roofMirroredUptoCard : Claim7 := { stood := { row := roofMirroredUptoRow, standIns := [], harness := (true, "3e1433fa606a37935818d364a71945062d13dd03a80fe83940ced12d6ed84a26"), looks := false }, kinds := [], alts := [], laidByText := true, laidKinds := [.funcs], laidTests := true, laidLooks := .later }
def RoofMirroredUptoCardSaid : Prop := Claim7.holds Tryd.pinned (.plain (OpenSpec.upto roofMirroredSpec)) roofMirroredUptoCard

/-- THE SECOND FORM's CARD OF 'thatchlaw01.RoofTurned'. -/
def roofTurnedUptoCard : Claim7 := { stood := { row := roofTurnedUptoRow, standIns := [], harness := (true, "3e1433fa606a37935818d364a71945062d13dd03a80fe83940ced12d6ed84a26"), looks := false }, kinds := [], alts := [], laidByText := true, laidKinds := [.funcs], laidTests := true, laidLooks := .later }
def RoofTurnedUptoCardSaid : Prop := Claim7.holds Tryd.pinned (.plain (OpenSpec.upto roofTurnedSpec)) roofTurnedUptoCard
end Rows
end Go.Proofs.YthojfhdenfhjfaaDoor
