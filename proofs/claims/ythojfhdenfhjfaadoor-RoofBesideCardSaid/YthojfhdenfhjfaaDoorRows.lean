/-
  NARROWER THAN 'FOR EVERY INPUT', by the rows' own cells (each row's printed sentence says how): RoofBeside: laid · RoofHeights: laid · RoofPoints: laid · RoofInside: laid · RoofLays: laid · RoofDown: laid · RoofLaid: laid · RoofScaled: laid · RoofKnown: laid · RoofMirrored: laid · RoofTurned: laid.
  DERIVED. THE GIVEN ROWS OF THIS SEAT. 11 by the template 'for every input the law returns true; each argument reads behind the call as it read before'; 0 by the template 'total and deterministic' (their statements: YthojfhdenfhjfaaDoorTotals.lean).
  GIVEN WITH THE SEED: the statements are not yours to turn. If you find one false, say at which input.
  Laid BY PROGRAM, IN A SANDBOX (cutbox-rows.mjs): the forced cells as the released guide's own fill.sh prints them over the translation 9a120978a284a97f… (all of the seat's roots in one cut). By AI agents, Wed Nov 11 2026. No macro, syntax, notation, axiom, sorry.
-/
import Derived.Test.YthojfhdenfhjfaaDoorChecked
import GoSem.Claim
import GoSem.ClaimJoined
import GoSem.ClaimMapViews
import Derived.JoinedTies
import Derived.KernelRfl
namespace Go.Proofs.YthojfhdenfhjfaaDoor
/- THE CELL 'sum', in the pinned program and in every row, IS THE sha256 OF THE DUMP (.gsa) THAT YthojfhdenfhjfaaDoorProg.lean LOADS. Nothing in Lean hashes anything: it is a label: what it is worth is what the hold of that sum in a sandbox is worth. -/
noncomputable def Tryd.pinned : Pinned := { name := "ythojfhdenfhjfaadoor", sum := "9a120978a284a97f0404b9374cb435354e6bca0803ea1ba6d9b6816899ad965d", checked := Tryd.checked }
namespace Rows
def none {H : Type} : Left H := { results := [], args := [] }

/- WHAT THE LISTED PACKAGE-LEVEL VARIABLES READ AS WHEN THE CALL BEGINS. Each datum BY PROGRAM (the guide's laid-datum.mjs) off the statement by which the dump's own 'gosem.cut.vars' lays the variable. In a bare row this is a premise. The card (YthojfhdenfhjfaaDoorCards.lean) ties it to the program's text. -/
def laid_thatch_roof_falls {H : Type} : DataW H := .iface "func table" (.agg [.agg [.agg [.lit (.int .i64 0), .lit (.int .i64 0)], .nil, .nil], .agg [.agg [.lit (.int .i64 0), .lit (.int .i64 1)], .iface "func" (.lit (.string [116, 104, 97, 116, 99, 104, 47, 114, 111, 111, 102, 46, 102, 97, 108, 108, 115, 36, 49])), .iface "func" (.lit (.string [116, 104, 97, 116, 99, 104, 47, 114, 111, 111, 102, 46, 102, 97, 108, 108, 115, 36, 50]))], .agg [.agg [.lit (.int .i64 (-1)), .lit (.int .i64 0)], .iface "func" (.lit (.string [116, 104, 97, 116, 99, 104, 47, 114, 111, 111, 102, 46, 102, 97, 108, 108, 115, 36, 51])), .iface "func" (.lit (.string [116, 104, 97, 116, 99, 104, 47, 114, 111, 111, 102, 46, 102, 97, 108, 108, 115, 36, 52]))], .agg [.agg [.lit (.int .i64 0), .lit (.int .i64 (-1))], .iface "func" (.lit (.string [116, 104, 97, 116, 99, 104, 47, 114, 111, 111, 102, 46, 102, 97, 108, 108, 115, 36, 53])), .iface "func" (.lit (.string [116, 104, 97, 116, 99, 104, 47, 114, 111, 111, 102, 46, 102, 97, 108, 108, 115, 36, 54]))], .agg [.agg [.lit (.int .i64 1), .lit (.int .i64 0)], .iface "func" (.lit (.string [116, 104, 97, 116, 99, 104, 47, 114, 111, 111, 102, 46, 102, 97, 108, 108, 115, 36, 55])), .iface "func" (.lit (.string [116, 104, 97, 116, 99, 104, 47, 114, 111, 111, 102, 46, 102, 97, 108, 108, 115, 36, 56]))]])

/-- 'thatchlaw01.RoofBeside': WHATEVER THE INPUT: true; the input reads as it did. -/
def roofBesideSpec : ChangeSpec := { name := "roofBeside", fn := fun _ => fun
  | [d] => { results := [.lit (.bool true)], args := [d] }
  | _ => none }
def roofBesideRow : OpenClaim := { program := "ythojfhdenfhjfaadoor", sum := "9a120978a284a97f0404b9374cb435354e6bca0803ea1ba6d9b6816899ad965d", func := "thatch/thatchlaw01.RoofBeside", spec := "roofBeside", unfollowed := true, recurses := true, named := ["thatch/roof.falls"], plainKeys := false, apart := false, laid := [("thatch/roof.falls", laid_thatch_roof_falls)] }
def RoofBesideSaid : Prop := roofBesideRow.holds Tryd.pinned (OpenSpec.ofChange roofBesideSpec)

/-- ITS FALSE NEIGHBOUR: 'it returns false'. Refute it at one input. -/
def roofBesideWrong : ChangeSpec := { name := "roofBeside", fn := fun _ => fun
  | [d] => { results := [.lit (.bool false)], args := [d] }
  | _ => none }
def RoofBesideWrongFalsely : Prop := roofBesideRow.holds Tryd.pinned (OpenSpec.ofChange roofBesideWrong)

/-- 'thatchlaw01.RoofHeights': WHATEVER THE INPUT: true; the input reads as it did. -/
def roofHeightsSpec : ChangeSpec := { name := "roofHeights", fn := fun _ => fun
  | [d] => { results := [.lit (.bool true)], args := [d] }
  | _ => none }
def roofHeightsRow : OpenClaim := { program := "ythojfhdenfhjfaadoor", sum := "9a120978a284a97f0404b9374cb435354e6bca0803ea1ba6d9b6816899ad965d", func := "thatch/thatchlaw01.RoofHeights", spec := "roofHeights", unfollowed := true, recurses := true, named := ["thatch/roof.falls"], plainKeys := false, apart := false, laid := [("thatch/roof.falls", laid_thatch_roof_falls)] }
def RoofHeightsSaid : Prop := roofHeightsRow.holds Tryd.pinned (OpenSpec.ofChange roofHeightsSpec)

/-- ITS FALSE NEIGHBOUR: 'it returns false'. Refute it at one input. -/
def roofHeightsWrong : ChangeSpec := { name := "roofHeights", fn := fun _ => fun
  | [d] => { results := [.lit (.bool false)], args := [d] }
  | _ => none }
def RoofHeightsWrongFalsely : Prop := roofHeightsRow.holds Tryd.pinned (OpenSpec.ofChange roofHeightsWrong)

/-- 'thatchlaw01.RoofPoints': WHATEVER THE INPUT: true; the input reads as it did. -/
def roofPointsSpec : ChangeSpec := { name := "roofPoints", fn := fun _ => fun
  | [d1, d2, d3] => { results := [.lit (.bool true)], args := [d1, d2, d3] }
  | _ => none }
def roofPointsRow : OpenClaim := { program := "ythojfhdenfhjfaadoor", sum := "9a120978a284a97f0404b9374cb435354e6bca0803ea1ba6d9b6816899ad965d", func := "thatch/thatchlaw01.RoofPoints", spec := "roofPoints", unfollowed := true, recurses := true, named := ["thatch/roof.falls"], plainKeys := false, apart := false, laid := [("thatch/roof.falls", laid_thatch_roof_falls)] }
def RoofPointsSaid : Prop := roofPointsRow.holds Tryd.pinned (OpenSpec.ofChange roofPointsSpec)

/-- ITS FALSE NEIGHBOUR: 'it returns false'. Refute it at one input. -/
def roofPointsWrong : ChangeSpec := { name := "roofPoints", fn := fun _ => fun
  | [d1, d2, d3] => { results := [.lit (.bool false)], args := [d1, d2, d3] }
  | _ => none }
def RoofPointsWrongFalsely : Prop := roofPointsRow.holds Tryd.pinned (OpenSpec.ofChange roofPointsWrong)

/-- 'thatchlaw01.RoofInside': WHATEVER THE INPUT: true; the input reads as it did. -/
def roofInsideSpec : ChangeSpec := { name := "roofInside", fn := fun _ => fun
  | [d1, d2] => { results := [.lit (.bool true)], args := [d1, d2] }
  | _ => none }
def roofInsideRow : OpenClaim := { program := "ythojfhdenfhjfaadoor", sum := "9a120978a284a97f0404b9374cb435354e6bca0803ea1ba6d9b6816899ad965d", func := "thatch/thatchlaw01.RoofInside", spec := "roofInside", unfollowed := true, recurses := true, named := ["thatch/roof.falls"], plainKeys := false, apart := false, laid := [("thatch/roof.falls", laid_thatch_roof_falls)] }
def RoofInsideSaid : Prop := roofInsideRow.holds Tryd.pinned (OpenSpec.ofChange roofInsideSpec)

/-- ITS FALSE NEIGHBOUR: 'it returns false'. Refute it at one input. -/
def roofInsideWrong : ChangeSpec := { name := "roofInside", fn := fun _ => fun
  | [d1, d2] => { results := [.lit (.bool false)], args := [d1, d2] }
  | _ => none }
def RoofInsideWrongFalsely : Prop := roofInsideRow.holds Tryd.pinned (OpenSpec.ofChange roofInsideWrong)

/-- 'thatchlaw01.RoofLays': WHATEVER THE INPUT: true; the input reads as it did. -/
def roofLaysSpec : ChangeSpec := { name := "roofLays", fn := fun _ => fun
  | [d1, d2] => { results := [.lit (.bool true)], args := [d1, d2] }
  | _ => none }
def roofLaysRow : OpenClaim := { program := "ythojfhdenfhjfaadoor", sum := "9a120978a284a97f0404b9374cb435354e6bca0803ea1ba6d9b6816899ad965d", func := "thatch/thatchlaw01.RoofLays", spec := "roofLays", unfollowed := true, recurses := true, named := ["thatch/roof.falls"], plainKeys := false, apart := false, laid := [("thatch/roof.falls", laid_thatch_roof_falls)] }
def RoofLaysSaid : Prop := roofLaysRow.holds Tryd.pinned (OpenSpec.ofChange roofLaysSpec)

/-- ITS FALSE NEIGHBOUR: 'it returns false'. Refute it at one input. -/
def roofLaysWrong : ChangeSpec := { name := "roofLays", fn := fun _ => fun
  | [d1, d2] => { results := [.lit (.bool false)], args := [d1, d2] }
  | _ => none }
def RoofLaysWrongFalsely : Prop := roofLaysRow.holds Tryd.pinned (OpenSpec.ofChange roofLaysWrong)

/-- 'thatchlaw01.RoofDown': WHATEVER THE INPUT: true; the input reads as it did. -/
def roofDownSpec : ChangeSpec := { name := "roofDown", fn := fun _ => fun
  | [d] => { results := [.lit (.bool true)], args := [d] }
  | _ => none }
def roofDownRow : OpenClaim := { program := "ythojfhdenfhjfaadoor", sum := "9a120978a284a97f0404b9374cb435354e6bca0803ea1ba6d9b6816899ad965d", func := "thatch/thatchlaw01.RoofDown", spec := "roofDown", unfollowed := true, recurses := true, named := ["thatch/roof.falls"], plainKeys := false, apart := false, laid := [("thatch/roof.falls", laid_thatch_roof_falls)] }
def RoofDownSaid : Prop := roofDownRow.holds Tryd.pinned (OpenSpec.ofChange roofDownSpec)

/-- ITS FALSE NEIGHBOUR: 'it returns false'. Refute it at one input. -/
def roofDownWrong : ChangeSpec := { name := "roofDown", fn := fun _ => fun
  | [d] => { results := [.lit (.bool false)], args := [d] }
  | _ => none }
def RoofDownWrongFalsely : Prop := roofDownRow.holds Tryd.pinned (OpenSpec.ofChange roofDownWrong)

/-- 'thatchlaw01.RoofLaid': WHATEVER THE INPUT: true; the input reads as it did. -/
def roofLaidSpec : ChangeSpec := { name := "roofLaid", fn := fun _ => fun
  | [d1, d2] => { results := [.lit (.bool true)], args := [d1, d2] }
  | _ => none }
def roofLaidRow : OpenClaim := { program := "ythojfhdenfhjfaadoor", sum := "9a120978a284a97f0404b9374cb435354e6bca0803ea1ba6d9b6816899ad965d", func := "thatch/thatchlaw01.RoofLaid", spec := "roofLaid", unfollowed := true, recurses := true, named := ["thatch/roof.falls"], plainKeys := false, apart := false, laid := [("thatch/roof.falls", laid_thatch_roof_falls)] }
def RoofLaidSaid : Prop := roofLaidRow.holds Tryd.pinned (OpenSpec.ofChange roofLaidSpec)

/-- ITS FALSE NEIGHBOUR: 'it returns false'. Refute it at one input. -/
def roofLaidWrong : ChangeSpec := { name := "roofLaid", fn := fun _ => fun
  | [d1, d2] => { results := [.lit (.bool false)], args := [d1, d2] }
  | _ => none }
def RoofLaidWrongFalsely : Prop := roofLaidRow.holds Tryd.pinned (OpenSpec.ofChange roofLaidWrong)

/-- 'thatchlaw01.RoofScaled': WHATEVER THE INPUT: true; the input reads as it did. -/
def roofScaledSpec : ChangeSpec := { name := "roofScaled", fn := fun _ => fun
  | [d1, d2, d3] => { results := [.lit (.bool true)], args := [d1, d2, d3] }
  | _ => none }
def roofScaledRow : OpenClaim := { program := "ythojfhdenfhjfaadoor", sum := "9a120978a284a97f0404b9374cb435354e6bca0803ea1ba6d9b6816899ad965d", func := "thatch/thatchlaw01.RoofScaled", spec := "roofScaled", unfollowed := true, recurses := true, named := ["thatch/roof.falls"], plainKeys := false, apart := false, laid := [("thatch/roof.falls", laid_thatch_roof_falls)] }
def RoofScaledSaid : Prop := roofScaledRow.holds Tryd.pinned (OpenSpec.ofChange roofScaledSpec)

/-- ITS FALSE NEIGHBOUR: 'it returns false'. Refute it at one input. -/
def roofScaledWrong : ChangeSpec := { name := "roofScaled", fn := fun _ => fun
  | [d1, d2, d3] => { results := [.lit (.bool false)], args := [d1, d2, d3] }
  | _ => none }
def RoofScaledWrongFalsely : Prop := roofScaledRow.holds Tryd.pinned (OpenSpec.ofChange roofScaledWrong)

/-- 'thatchlaw01.RoofKnown': WHATEVER THE INPUT: true; the input reads as it did. -/
def roofKnownSpec : ChangeSpec := { name := "roofKnown", fn := fun _ => fun
  | [d1, d2] => { results := [.lit (.bool true)], args := [d1, d2] }
  | _ => none }
def roofKnownRow : OpenClaim := { program := "ythojfhdenfhjfaadoor", sum := "9a120978a284a97f0404b9374cb435354e6bca0803ea1ba6d9b6816899ad965d", func := "thatch/thatchlaw01.RoofKnown", spec := "roofKnown", unfollowed := true, recurses := true, named := ["thatch/roof.falls"], plainKeys := false, apart := false, laid := [("thatch/roof.falls", laid_thatch_roof_falls)] }
def RoofKnownSaid : Prop := roofKnownRow.holds Tryd.pinned (OpenSpec.ofChange roofKnownSpec)

/-- ITS FALSE NEIGHBOUR: 'it returns false'. Refute it at one input. -/
def roofKnownWrong : ChangeSpec := { name := "roofKnown", fn := fun _ => fun
  | [d1, d2] => { results := [.lit (.bool false)], args := [d1, d2] }
  | _ => none }
def RoofKnownWrongFalsely : Prop := roofKnownRow.holds Tryd.pinned (OpenSpec.ofChange roofKnownWrong)

/-- 'thatchlaw01.RoofMirrored': WHATEVER THE INPUT: true; the input reads as it did. -/
def roofMirroredSpec : ChangeSpec := { name := "roofMirrored", fn := fun _ => fun
  | [d] => { results := [.lit (.bool true)], args := [d] }
  | _ => none }
def roofMirroredRow : OpenClaim := { program := "ythojfhdenfhjfaadoor", sum := "9a120978a284a97f0404b9374cb435354e6bca0803ea1ba6d9b6816899ad965d", func := "thatch/thatchlaw01.RoofMirrored", spec := "roofMirrored", unfollowed := true, recurses := true, named := ["thatch/roof.falls"], plainKeys := false, apart := false, laid := [("thatch/roof.falls", laid_thatch_roof_falls)] }
def RoofMirroredSaid : Prop := roofMirroredRow.holds Tryd.pinned (OpenSpec.ofChange roofMirroredSpec)

/-- ITS FALSE NEIGHBOUR: 'it returns false'. Refute it at one input. -/
def roofMirroredWrong : ChangeSpec := { name := "roofMirrored", fn := fun _ => fun
  | [d] => { results := [.lit (.bool false)], args := [d] }
  | _ => none }
def RoofMirroredWrongFalsely : Prop := roofMirroredRow.holds Tryd.pinned (OpenSpec.ofChange roofMirroredWrong)

/-- 'thatchlaw01.RoofTurned': WHATEVER THE INPUT: true; the input reads as it did. -/
def roofTurnedSpec : ChangeSpec := { name := "roofTurned", fn := fun _ => fun
  | [d] => { results := [.lit (.bool true)], args := [d] }
  | _ => none }
def roofTurnedRow : OpenClaim := { program := "ythojfhdenfhjfaadoor", sum := "9a120978a284a97f0404b9374cb435354e6bca0803ea1ba6d9b6816899ad965d", func := "thatch/thatchlaw01.RoofTurned", spec := "roofTurned", unfollowed := true, recurses := true, named := ["thatch/roof.falls"], plainKeys := false, apart := false, laid := [("thatch/roof.falls", laid_thatch_roof_falls)] }
def RoofTurnedSaid : Prop := roofTurnedRow.holds Tryd.pinned (OpenSpec.ofChange roofTurnedSpec)

/-- ITS FALSE NEIGHBOUR: 'it returns false'. Refute it at one input. -/
def roofTurnedWrong : ChangeSpec := { name := "roofTurned", fn := fun _ => fun
  | [d] => { results := [.lit (.bool false)], args := [d] }
  | _ => none }
def RoofTurnedWrongFalsely : Prop := roofTurnedRow.holds Tryd.pinned (OpenSpec.ofChange roofTurnedWrong)

/- THE SECOND FORM. 'bulk': how many values and letters a reading holds, each counted each time it is reached (what is shared counts as often as it is met; a slice's spare places count too). A statement '..UptoSaid' is the law's where the arguments, and the package variables that the reading takes, are together of bulk at most 1048576: NARROWER than '..Said'. Prove '..Said' where nothing that the law and all that it calls make is longer than what came in: it says more and counts as full. Else prove '..UptoSaid'. A law counts once. -/
mutual
def uptoBulk {H : Type} : DataW H → Nat
  | .lit (.string bytes) => bytes.length + 1
  | .lit _ => 1
  | .nil => 1
  | .ptr d => uptoBulk d + 1
  | .slice elems spare => uptoBulkAll elems + uptoBulkAll spare + 1
  | .agg parts => uptoBulkAll parts + 1
  | .iface _ d => uptoBulk d + 1
  | .map entries => uptoBulkEntries entries + 1
  | .held _ => 1
def uptoBulkAll {H : Type} : List (DataW H) → Nat
  | [] => 0
  | d :: r => uptoBulk d + uptoBulkAll r
def uptoBulkEntries {H : Type} : List (Lit × DataW H) → Nat
  | [] => 0
  | x :: r => uptoBulkEntry x + uptoBulkEntries r
def uptoBulkEntry {H : Type} : Lit × DataW H → Nat
  | (.string bytes, d) => bytes.length + uptoBulk d + 1
  | (_, d) => uptoBulk d + 1
 end
def uptoSmall : (H : Type) → List (DataW H) → Bool := fun _ ds => decide (uptoBulkAll ds ≤ 1048576)
def OpenSpec.upto (s : _root_.Go.ChangeSpec) : _root_.Go.OpenSpec := { _root_.Go.OpenSpec.ofChange s with cond := some uptoSmall }

/-- 'thatchlaw01.RoofBeside', WHERE WHAT IT READS IS OF BULK AT MOST 1048576: true; the input reads as it did. -/
def roofBesideUptoRow : OpenClaim := { program := "ythojfhdenfhjfaadoor", sum := "9a120978a284a97f0404b9374cb435354e6bca0803ea1ba6d9b6816899ad965d", func := "thatch/thatchlaw01.RoofBeside", spec := "roofBeside", unfollowed := true, recurses := true, named := ["thatch/roof.falls"], plainKeys := false, apart := false, laid := [("thatch/roof.falls", laid_thatch_roof_falls)], narrowed := true }
def RoofBesideUptoSaid : Prop := roofBesideUptoRow.holds Tryd.pinned (OpenSpec.upto roofBesideSpec)

/-- 'thatchlaw01.RoofHeights', WHERE WHAT IT READS IS OF BULK AT MOST 1048576: true; the input reads as it did. -/
def roofHeightsUptoRow : OpenClaim := { program := "ythojfhdenfhjfaadoor", sum := "9a120978a284a97f0404b9374cb435354e6bca0803ea1ba6d9b6816899ad965d", func := "thatch/thatchlaw01.RoofHeights", spec := "roofHeights", unfollowed := true, recurses := true, named := ["thatch/roof.falls"], plainKeys := false, apart := false, laid := [("thatch/roof.falls", laid_thatch_roof_falls)], narrowed := true }
def RoofHeightsUptoSaid : Prop := roofHeightsUptoRow.holds Tryd.pinned (OpenSpec.upto roofHeightsSpec)

/-- 'thatchlaw01.RoofPoints', WHERE WHAT IT READS IS OF BULK AT MOST 1048576: true; the input reads as it did. -/
def roofPointsUptoRow : OpenClaim := { program := "ythojfhdenfhjfaadoor", sum := "9a120978a284a97f0404b9374cb435354e6bca0803ea1ba6d9b6816899ad965d", func := "thatch/thatchlaw01.RoofPoints", spec := "roofPoints", unfollowed := true, recurses := true, named := ["thatch/roof.falls"], plainKeys := false, apart := false, laid := [("thatch/roof.falls", laid_thatch_roof_falls)], narrowed := true }
def RoofPointsUptoSaid : Prop := roofPointsUptoRow.holds Tryd.pinned (OpenSpec.upto roofPointsSpec)

/-- 'thatchlaw01.RoofInside', WHERE WHAT IT READS IS OF BULK AT MOST 1048576: true; the input reads as it did. -/
def roofInsideUptoRow : OpenClaim := { program := "ythojfhdenfhjfaadoor", sum := "9a120978a284a97f0404b9374cb435354e6bca0803ea1ba6d9b6816899ad965d", func := "thatch/thatchlaw01.RoofInside", spec := "roofInside", unfollowed := true, recurses := true, named := ["thatch/roof.falls"], plainKeys := false, apart := false, laid := [("thatch/roof.falls", laid_thatch_roof_falls)], narrowed := true }
def RoofInsideUptoSaid : Prop := roofInsideUptoRow.holds Tryd.pinned (OpenSpec.upto roofInsideSpec)

/-- 'thatchlaw01.RoofLays', WHERE WHAT IT READS IS OF BULK AT MOST 1048576: true; the input reads as it did. -/
def roofLaysUptoRow : OpenClaim := { program := "ythojfhdenfhjfaadoor", sum := "9a120978a284a97f0404b9374cb435354e6bca0803ea1ba6d9b6816899ad965d", func := "thatch/thatchlaw01.RoofLays", spec := "roofLays", unfollowed := true, recurses := true, named := ["thatch/roof.falls"], plainKeys := false, apart := false, laid := [("thatch/roof.falls", laid_thatch_roof_falls)], narrowed := true }
def RoofLaysUptoSaid : Prop := roofLaysUptoRow.holds Tryd.pinned (OpenSpec.upto roofLaysSpec)

/-- 'thatchlaw01.RoofDown', WHERE WHAT IT READS IS OF BULK AT MOST 1048576: true; the input reads as it did. -/
def roofDownUptoRow : OpenClaim := { program := "ythojfhdenfhjfaadoor", sum := "9a120978a284a97f0404b9374cb435354e6bca0803ea1ba6d9b6816899ad965d", func := "thatch/thatchlaw01.RoofDown", spec := "roofDown", unfollowed := true, recurses := true, named := ["thatch/roof.falls"], plainKeys := false, apart := false, laid := [("thatch/roof.falls", laid_thatch_roof_falls)], narrowed := true }
def RoofDownUptoSaid : Prop := roofDownUptoRow.holds Tryd.pinned (OpenSpec.upto roofDownSpec)

/-- 'thatchlaw01.RoofLaid', WHERE WHAT IT READS IS OF BULK AT MOST 1048576: true; the input reads as it did. -/
def roofLaidUptoRow : OpenClaim := { program := "ythojfhdenfhjfaadoor", sum := "9a120978a284a97f0404b9374cb435354e6bca0803ea1ba6d9b6816899ad965d", func := "thatch/thatchlaw01.RoofLaid", spec := "roofLaid", unfollowed := true, recurses := true, named := ["thatch/roof.falls"], plainKeys := false, apart := false, laid := [("thatch/roof.falls", laid_thatch_roof_falls)], narrowed := true }
def RoofLaidUptoSaid : Prop := roofLaidUptoRow.holds Tryd.pinned (OpenSpec.upto roofLaidSpec)

/-- 'thatchlaw01.RoofScaled', WHERE WHAT IT READS IS OF BULK AT MOST 1048576: true; the input reads as it did. -/
def roofScaledUptoRow : OpenClaim := { program := "ythojfhdenfhjfaadoor", sum := "9a120978a284a97f0404b9374cb435354e6bca0803ea1ba6d9b6816899ad965d", func := "thatch/thatchlaw01.RoofScaled", spec := "roofScaled", unfollowed := true, recurses := true, named := ["thatch/roof.falls"], plainKeys := false, apart := false, laid := [("thatch/roof.falls", laid_thatch_roof_falls)], narrowed := true }
def RoofScaledUptoSaid : Prop := roofScaledUptoRow.holds Tryd.pinned (OpenSpec.upto roofScaledSpec)

/-- 'thatchlaw01.RoofKnown', WHERE WHAT IT READS IS OF BULK AT MOST 1048576: true; the input reads as it did. -/
def roofKnownUptoRow : OpenClaim := { program := "ythojfhdenfhjfaadoor", sum := "9a120978a284a97f0404b9374cb435354e6bca0803ea1ba6d9b6816899ad965d", func := "thatch/thatchlaw01.RoofKnown", spec := "roofKnown", unfollowed := true, recurses := true, named := ["thatch/roof.falls"], plainKeys := false, apart := false, laid := [("thatch/roof.falls", laid_thatch_roof_falls)], narrowed := true }
def RoofKnownUptoSaid : Prop := roofKnownUptoRow.holds Tryd.pinned (OpenSpec.upto roofKnownSpec)

/-- 'thatchlaw01.RoofMirrored', WHERE WHAT IT READS IS OF BULK AT MOST 1048576: true; the input reads as it did. -/
def roofMirroredUptoRow : OpenClaim := { program := "ythojfhdenfhjfaadoor", sum := "9a120978a284a97f0404b9374cb435354e6bca0803ea1ba6d9b6816899ad965d", func := "thatch/thatchlaw01.RoofMirrored", spec := "roofMirrored", unfollowed := true, recurses := true, named := ["thatch/roof.falls"], plainKeys := false, apart := false, laid := [("thatch/roof.falls", laid_thatch_roof_falls)], narrowed := true }
def RoofMirroredUptoSaid : Prop := roofMirroredUptoRow.holds Tryd.pinned (OpenSpec.upto roofMirroredSpec)

/-- 'thatchlaw01.RoofTurned', WHERE WHAT IT READS IS OF BULK AT MOST 1048576: true; the input reads as it did. -/
def roofTurnedUptoRow : OpenClaim := { program := "ythojfhdenfhjfaadoor", sum := "9a120978a284a97f0404b9374cb435354e6bca0803ea1ba6d9b6816899ad965d", func := "thatch/thatchlaw01.RoofTurned", spec := "roofTurned", unfollowed := true, recurses := true, named := ["thatch/roof.falls"], plainKeys := false, apart := false, laid := [("thatch/roof.falls", laid_thatch_roof_falls)], narrowed := true }
def RoofTurnedUptoSaid : Prop := roofTurnedUptoRow.holds Tryd.pinned (OpenSpec.upto roofTurnedSpec)

end Rows
end Go.Proofs.YthojfhdenfhjfaaDoor
