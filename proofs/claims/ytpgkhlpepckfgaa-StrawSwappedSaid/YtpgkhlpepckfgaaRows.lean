/-
  No cell of these rows narrows 'for every input' (looked for: loops, veiled, ifaces, maps, wideKeys, modest, calm, conditions, laid).
  DERIVED. THE GIVEN ROWS OF THIS SEAT. 13 by the template 'for every input the law returns true; each argument reads behind the call as it read before'; 0 by the template 'total and deterministic' (their statements: YtpgkhlpepckfgaaTotals.lean).
  GIVEN WITH THE SEED: the statements are not yours to turn. If you find one false, say at which input.
  Laid BY PROGRAM, IN A SANDBOX (cutbox-rows.mjs): the forced cells as the released guide's own fill.sh prints them over the translation 250c4b3f872932c6… (all of the seat's roots in one cut). By AI agents, Wed Nov 11 2026. No macro, syntax, notation, axiom, sorry.
-/
import Derived.Test.YtpgkhlpepckfgaaChecked
import GoSem.Claim
import GoSem.ClaimJoined
import GoSem.ClaimMapViews
import Derived.JoinedTies
import Derived.KernelRfl
namespace Go.Proofs.Ytpgkhlpepckfgaa
/- THE CELL 'sum', in the pinned program and in every row, IS THE sha256 OF THE DUMP (.gsa) THAT YtpgkhlpepckfgaaProg.lean LOADS. Nothing in Lean hashes anything: it is a label: what it is worth is what the hold of that sum in a sandbox is worth. -/
noncomputable def Try.pinned : Pinned := { name := "ytpgkhlpepckfgaa", sum := "250c4b3f872932c6c2f7ecd49ef8015de30db92c31ac56b27ff5e522efb45f5d", checked := Try.checked }
namespace Rows
def none {H : Type} : Left H := { results := [], args := [] }

/-- 'thatchlaw02.StrawChooses': WHATEVER THE INPUT: true; the input reads as it did. -/
def strawChoosesSpec : ChangeSpec := { name := "strawChooses", fn := fun _ => fun
  | [d1, d2] => { results := [.lit (.bool true)], args := [d1, d2] }
  | _ => none }
def strawChoosesRow : OpenClaim := { program := "ytpgkhlpepckfgaa", sum := "250c4b3f872932c6c2f7ecd49ef8015de30db92c31ac56b27ff5e522efb45f5d", func := "thatch/thatchlaw02.StrawChooses", spec := "strawChooses", unfollowed := true, recurses := true, apart := false }
def StrawChoosesSaid : Prop := strawChoosesRow.holds Try.pinned (OpenSpec.ofChange strawChoosesSpec)

/-- ITS FALSE NEIGHBOUR: 'it returns false'. Refute it at one input. -/
def strawChoosesWrong : ChangeSpec := { name := "strawChooses", fn := fun _ => fun
  | [d1, d2] => { results := [.lit (.bool false)], args := [d1, d2] }
  | _ => none }
def StrawChoosesWrongFalsely : Prop := strawChoosesRow.holds Try.pinned (OpenSpec.ofChange strawChoosesWrong)

/-- 'thatchlaw02.StrawLeast': WHATEVER THE INPUT: true; the input reads as it did. -/
def strawLeastSpec : ChangeSpec := { name := "strawLeast", fn := fun _ => fun
  | [d1, d2, d3, d4] => { results := [.lit (.bool true)], args := [d1, d2, d3, d4] }
  | _ => none }
def strawLeastRow : OpenClaim := { program := "ytpgkhlpepckfgaa", sum := "250c4b3f872932c6c2f7ecd49ef8015de30db92c31ac56b27ff5e522efb45f5d", func := "thatch/thatchlaw02.StrawLeast", spec := "strawLeast", unfollowed := true, recurses := true, apart := false }
def StrawLeastSaid : Prop := strawLeastRow.holds Try.pinned (OpenSpec.ofChange strawLeastSpec)

/-- ITS FALSE NEIGHBOUR: 'it returns false'. Refute it at one input. -/
def strawLeastWrong : ChangeSpec := { name := "strawLeast", fn := fun _ => fun
  | [d1, d2, d3, d4] => { results := [.lit (.bool false)], args := [d1, d2, d3, d4] }
  | _ => none }
def StrawLeastWrongFalsely : Prop := strawLeastRow.holds Try.pinned (OpenSpec.ofChange strawLeastWrong)

/-- 'thatchlaw02.StrawChecks': WHATEVER THE INPUT: true; the input reads as it did. -/
def strawChecksSpec : ChangeSpec := { name := "strawChecks", fn := fun _ => fun
  | [d1, d2] => { results := [.lit (.bool true)], args := [d1, d2] }
  | _ => none }
def strawChecksRow : OpenClaim := { program := "ytpgkhlpepckfgaa", sum := "250c4b3f872932c6c2f7ecd49ef8015de30db92c31ac56b27ff5e522efb45f5d", func := "thatch/thatchlaw02.StrawChecks", spec := "strawChecks", unfollowed := true, recurses := true, apart := false }
def StrawChecksSaid : Prop := strawChecksRow.holds Try.pinned (OpenSpec.ofChange strawChecksSpec)

/-- ITS FALSE NEIGHBOUR: 'it returns false'. Refute it at one input. -/
def strawChecksWrong : ChangeSpec := { name := "strawChecks", fn := fun _ => fun
  | [d1, d2] => { results := [.lit (.bool false)], args := [d1, d2] }
  | _ => none }
def StrawChecksWrongFalsely : Prop := strawChecksRow.holds Try.pinned (OpenSpec.ofChange strawChecksWrong)

/-- 'thatchlaw02.StrawCounts': WHATEVER THE INPUT: true; the input reads as it did. -/
def strawCountsSpec : ChangeSpec := { name := "strawCounts", fn := fun _ => fun
  | [d1, d2, d3, d4] => { results := [.lit (.bool true)], args := [d1, d2, d3, d4] }
  | _ => none }
def strawCountsRow : OpenClaim := { program := "ytpgkhlpepckfgaa", sum := "250c4b3f872932c6c2f7ecd49ef8015de30db92c31ac56b27ff5e522efb45f5d", func := "thatch/thatchlaw02.StrawCounts", spec := "strawCounts", unfollowed := true, recurses := true, apart := false }
def StrawCountsSaid : Prop := strawCountsRow.holds Try.pinned (OpenSpec.ofChange strawCountsSpec)

/-- ITS FALSE NEIGHBOUR: 'it returns false'. Refute it at one input. -/
def strawCountsWrong : ChangeSpec := { name := "strawCounts", fn := fun _ => fun
  | [d1, d2, d3, d4] => { results := [.lit (.bool false)], args := [d1, d2, d3, d4] }
  | _ => none }
def StrawCountsWrongFalsely : Prop := strawCountsRow.holds Try.pinned (OpenSpec.ofChange strawCountsWrong)

/-- 'thatchlaw02.StrawDoes': WHATEVER THE INPUT: true; the input reads as it did. -/
def strawDoesSpec : ChangeSpec := { name := "strawDoes", fn := fun _ => fun
  | [d1, d2, d3] => { results := [.lit (.bool true)], args := [d1, d2, d3] }
  | _ => none }
def strawDoesRow : OpenClaim := { program := "ytpgkhlpepckfgaa", sum := "250c4b3f872932c6c2f7ecd49ef8015de30db92c31ac56b27ff5e522efb45f5d", func := "thatch/thatchlaw02.StrawDoes", spec := "strawDoes", unfollowed := true, recurses := true, apart := false }
def StrawDoesSaid : Prop := strawDoesRow.holds Try.pinned (OpenSpec.ofChange strawDoesSpec)

/-- ITS FALSE NEIGHBOUR: 'it returns false'. Refute it at one input. -/
def strawDoesWrong : ChangeSpec := { name := "strawDoes", fn := fun _ => fun
  | [d1, d2, d3] => { results := [.lit (.bool false)], args := [d1, d2, d3] }
  | _ => none }
def StrawDoesWrongFalsely : Prop := strawDoesRow.holds Try.pinned (OpenSpec.ofChange strawDoesWrong)

/-- 'thatchlaw02.StrawKnown': WHATEVER THE INPUT: true; the input reads as it did. -/
def strawKnownSpec : ChangeSpec := { name := "strawKnown", fn := fun _ => fun
  | [] => { results := [.lit (.bool true)], args := [] }
  | _ => none }
def strawKnownRow : OpenClaim := { program := "ytpgkhlpepckfgaa", sum := "250c4b3f872932c6c2f7ecd49ef8015de30db92c31ac56b27ff5e522efb45f5d", func := "thatch/thatchlaw02.StrawKnown", spec := "strawKnown", unfollowed := true, recurses := true, apart := false }
def StrawKnownSaid : Prop := strawKnownRow.holds Try.pinned (OpenSpec.ofChange strawKnownSpec)

/-- ITS FALSE NEIGHBOUR: 'it returns false'. Refute it at one input. -/
def strawKnownWrong : ChangeSpec := { name := "strawKnown", fn := fun _ => fun
  | [] => { results := [.lit (.bool false)], args := [] }
  | _ => none }
def StrawKnownWrongFalsely : Prop := strawKnownRow.holds Try.pinned (OpenSpec.ofChange strawKnownWrong)

/-- 'thatchlaw02.StrawRuns': WHATEVER THE INPUT: true; the input reads as it did. -/
def strawRunsSpec : ChangeSpec := { name := "strawRuns", fn := fun _ => fun
  | [d1, d2, d3] => { results := [.lit (.bool true)], args := [d1, d2, d3] }
  | _ => none }
def strawRunsRow : OpenClaim := { program := "ytpgkhlpepckfgaa", sum := "250c4b3f872932c6c2f7ecd49ef8015de30db92c31ac56b27ff5e522efb45f5d", func := "thatch/thatchlaw02.StrawRuns", spec := "strawRuns", unfollowed := true, recurses := true, apart := false }
def StrawRunsSaid : Prop := strawRunsRow.holds Try.pinned (OpenSpec.ofChange strawRunsSpec)

/-- ITS FALSE NEIGHBOUR: 'it returns false'. Refute it at one input. -/
def strawRunsWrong : ChangeSpec := { name := "strawRuns", fn := fun _ => fun
  | [d1, d2, d3] => { results := [.lit (.bool false)], args := [d1, d2, d3] }
  | _ => none }
def StrawRunsWrongFalsely : Prop := strawRunsRow.holds Try.pinned (OpenSpec.ofChange strawRunsWrong)

/-- 'thatchlaw02.StrawBalances': WHATEVER THE INPUT: true; the input reads as it did. -/
def strawBalancesSpec : ChangeSpec := { name := "strawBalances", fn := fun _ => fun
  | [d1, d2] => { results := [.lit (.bool true)], args := [d1, d2] }
  | _ => none }
def strawBalancesRow : OpenClaim := { program := "ytpgkhlpepckfgaa", sum := "250c4b3f872932c6c2f7ecd49ef8015de30db92c31ac56b27ff5e522efb45f5d", func := "thatch/thatchlaw02.StrawBalances", spec := "strawBalances", unfollowed := true, recurses := true, apart := false }
def StrawBalancesSaid : Prop := strawBalancesRow.holds Try.pinned (OpenSpec.ofChange strawBalancesSpec)

/-- ITS FALSE NEIGHBOUR: 'it returns false'. Refute it at one input. -/
def strawBalancesWrong : ChangeSpec := { name := "strawBalances", fn := fun _ => fun
  | [d1, d2] => { results := [.lit (.bool false)], args := [d1, d2] }
  | _ => none }
def StrawBalancesWrongFalsely : Prop := strawBalancesRow.holds Try.pinned (OpenSpec.ofChange strawBalancesWrong)

/-- 'thatchlaw02.StrawDries': WHATEVER THE INPUT: true; the input reads as it did. -/
def strawDriesSpec : ChangeSpec := { name := "strawDries", fn := fun _ => fun
  | [d1, d2, d3] => { results := [.lit (.bool true)], args := [d1, d2, d3] }
  | _ => none }
def strawDriesRow : OpenClaim := { program := "ytpgkhlpepckfgaa", sum := "250c4b3f872932c6c2f7ecd49ef8015de30db92c31ac56b27ff5e522efb45f5d", func := "thatch/thatchlaw02.StrawDries", spec := "strawDries", unfollowed := true, recurses := true, apart := false }
def StrawDriesSaid : Prop := strawDriesRow.holds Try.pinned (OpenSpec.ofChange strawDriesSpec)

/-- ITS FALSE NEIGHBOUR: 'it returns false'. Refute it at one input. -/
def strawDriesWrong : ChangeSpec := { name := "strawDries", fn := fun _ => fun
  | [d1, d2, d3] => { results := [.lit (.bool false)], args := [d1, d2, d3] }
  | _ => none }
def StrawDriesWrongFalsely : Prop := strawDriesRow.holds Try.pinned (OpenSpec.ofChange strawDriesWrong)

/-- 'thatchlaw02.StrawParts': WHATEVER THE INPUT: true; the input reads as it did. -/
def strawPartsSpec : ChangeSpec := { name := "strawParts", fn := fun _ => fun
  | [d1, d2, d3] => { results := [.lit (.bool true)], args := [d1, d2, d3] }
  | _ => none }
def strawPartsRow : OpenClaim := { program := "ytpgkhlpepckfgaa", sum := "250c4b3f872932c6c2f7ecd49ef8015de30db92c31ac56b27ff5e522efb45f5d", func := "thatch/thatchlaw02.StrawParts", spec := "strawParts", unfollowed := true, recurses := true, apart := false }
def StrawPartsSaid : Prop := strawPartsRow.holds Try.pinned (OpenSpec.ofChange strawPartsSpec)

/-- ITS FALSE NEIGHBOUR: 'it returns false'. Refute it at one input. -/
def strawPartsWrong : ChangeSpec := { name := "strawParts", fn := fun _ => fun
  | [d1, d2, d3] => { results := [.lit (.bool false)], args := [d1, d2, d3] }
  | _ => none }
def StrawPartsWrongFalsely : Prop := strawPartsRow.holds Try.pinned (OpenSpec.ofChange strawPartsWrong)

/-- 'thatchlaw02.StrawUsed': WHATEVER THE INPUT: true; the input reads as it did. -/
def strawUsedSpec : ChangeSpec := { name := "strawUsed", fn := fun _ => fun
  | [d1, d2, d3, d4, d5] => { results := [.lit (.bool true)], args := [d1, d2, d3, d4, d5] }
  | _ => none }
def strawUsedRow : OpenClaim := { program := "ytpgkhlpepckfgaa", sum := "250c4b3f872932c6c2f7ecd49ef8015de30db92c31ac56b27ff5e522efb45f5d", func := "thatch/thatchlaw02.StrawUsed", spec := "strawUsed", unfollowed := true, recurses := true, apart := false }
def StrawUsedSaid : Prop := strawUsedRow.holds Try.pinned (OpenSpec.ofChange strawUsedSpec)

/-- ITS FALSE NEIGHBOUR: 'it returns false'. Refute it at one input. -/
def strawUsedWrong : ChangeSpec := { name := "strawUsed", fn := fun _ => fun
  | [d1, d2, d3, d4, d5] => { results := [.lit (.bool false)], args := [d1, d2, d3, d4, d5] }
  | _ => none }
def StrawUsedWrongFalsely : Prop := strawUsedRow.holds Try.pinned (OpenSpec.ofChange strawUsedWrong)

/-- 'thatchlaw02.StrawSwapped': WHATEVER THE INPUT: true; the input reads as it did. -/
def strawSwappedSpec : ChangeSpec := { name := "strawSwapped", fn := fun _ => fun
  | [d1, d2, d3] => { results := [.lit (.bool true)], args := [d1, d2, d3] }
  | _ => none }
def strawSwappedRow : OpenClaim := { program := "ytpgkhlpepckfgaa", sum := "250c4b3f872932c6c2f7ecd49ef8015de30db92c31ac56b27ff5e522efb45f5d", func := "thatch/thatchlaw02.StrawSwapped", spec := "strawSwapped", unfollowed := true, recurses := true, apart := false }
def StrawSwappedSaid : Prop := strawSwappedRow.holds Try.pinned (OpenSpec.ofChange strawSwappedSpec)

/-- ITS FALSE NEIGHBOUR: 'it returns false'. Refute it at one input. -/
def strawSwappedWrong : ChangeSpec := { name := "strawSwapped", fn := fun _ => fun
  | [d1, d2, d3] => { results := [.lit (.bool false)], args := [d1, d2, d3] }
  | _ => none }
def StrawSwappedWrongFalsely : Prop := strawSwappedRow.holds Try.pinned (OpenSpec.ofChange strawSwappedWrong)

/-- 'thatchlaw02.StrawBundles': WHATEVER THE INPUT: true; the input reads as it did. -/
def strawBundlesSpec : ChangeSpec := { name := "strawBundles", fn := fun _ => fun
  | [d1, d2] => { results := [.lit (.bool true)], args := [d1, d2] }
  | _ => none }
def strawBundlesRow : OpenClaim := { program := "ytpgkhlpepckfgaa", sum := "250c4b3f872932c6c2f7ecd49ef8015de30db92c31ac56b27ff5e522efb45f5d", func := "thatch/thatchlaw02.StrawBundles", spec := "strawBundles", unfollowed := true, recurses := true, apart := false }
def StrawBundlesSaid : Prop := strawBundlesRow.holds Try.pinned (OpenSpec.ofChange strawBundlesSpec)

/-- ITS FALSE NEIGHBOUR: 'it returns false'. Refute it at one input. -/
def strawBundlesWrong : ChangeSpec := { name := "strawBundles", fn := fun _ => fun
  | [d1, d2] => { results := [.lit (.bool false)], args := [d1, d2] }
  | _ => none }
def StrawBundlesWrongFalsely : Prop := strawBundlesRow.holds Try.pinned (OpenSpec.ofChange strawBundlesWrong)

/- THE SECOND FORM. 'bulk': how many values and letters a reading holds, each counted each time it is reached (what is shared counts as often as it is met; a slice's spare places count too). A statement '..UptoSaid' is the law's where the arguments, and the package variables that the reading takes, are together of bulk at most 1048576: NARROWER than '..Said'. Prove '..Said' where nothing that the law and all that it calls make is longer than what came in: it says more and counts as full. Else prove '..UptoSaid'. A law counts once. -/
mutual
def uptoBulk {H : Type} : DataW H → Nat
  | .lit (.string bytes) => bytes.length + 1
  | .lit _ => 1
  | .nil => 1
  | .ptr d => uptoBulk d + 1
  | .slice elems spare => uptoBulkAll elems + uptoBulkAll spare + 1
  | .agg parts => uptoBulkAll parts + 1
  | .iface _ d => uptoBulk d + 1
  | .map entries => uptoBulkEntries entries + 1
  | .held _ => 1
def uptoBulkAll {H : Type} : List (DataW H) → Nat
  | [] => 0
  | d :: r => uptoBulk d + uptoBulkAll r
def uptoBulkEntries {H : Type} : List (Lit × DataW H) → Nat
  | [] => 0
  | x :: r => uptoBulkEntry x + uptoBulkEntries r
def uptoBulkEntry {H : Type} : Lit × DataW H → Nat
  | (.string bytes, d) => bytes.length + uptoBulk d + 1
  | (_, d) => uptoBulk d + 1
 end
def uptoSmall : (H : Type) → List (DataW H) → Bool := fun _ ds => decide (uptoBulkAll ds ≤ 1048576)
def OpenSpec.upto (s : _root_.Go.ChangeSpec) : _root_.Go.OpenSpec := { _root_.Go.OpenSpec.ofChange s with cond := some uptoSmall }

/-- 'thatchlaw02.StrawChooses', WHERE WHAT IT READS IS OF BULK AT MOST 1048576: true; the input reads as it did. -/
def strawChoosesUptoRow : OpenClaim := { program := "ytpgkhlpepckfgaa", sum := "250c4b3f872932c6c2f7ecd49ef8015de30db92c31ac56b27ff5e522efb45f5d", func := "thatch/thatchlaw02.StrawChooses", spec := "strawChooses", unfollowed := true, recurses := true, apart := false, narrowed := true }
def StrawChoosesUptoSaid : Prop := strawChoosesUptoRow.holds Try.pinned (OpenSpec.upto strawChoosesSpec)

/-- 'thatchlaw02.StrawLeast', WHERE WHAT IT READS IS OF BULK AT MOST 1048576: true; the input reads as it did. -/
def strawLeastUptoRow : OpenClaim := { program := "ytpgkhlpepckfgaa", sum := "250c4b3f872932c6c2f7ecd49ef8015de30db92c31ac56b27ff5e522efb45f5d", func := "thatch/thatchlaw02.StrawLeast", spec := "strawLeast", unfollowed := true, recurses := true, apart := false, narrowed := true }
def StrawLeastUptoSaid : Prop := strawLeastUptoRow.holds Try.pinned (OpenSpec.upto strawLeastSpec)

/-- 'thatchlaw02.StrawChecks', WHERE WHAT IT READS IS OF BULK AT MOST 1048576: true; the input reads as it did. -/
def strawChecksUptoRow : OpenClaim := { program := "ytpgkhlpepckfgaa", sum := "250c4b3f872932c6c2f7ecd49ef8015de30db92c31ac56b27ff5e522efb45f5d", func := "thatch/thatchlaw02.StrawChecks", spec := "strawChecks", unfollowed := true, recurses := true, apart := false, narrowed := true }
def StrawChecksUptoSaid : Prop := strawChecksUptoRow.holds Try.pinned (OpenSpec.upto strawChecksSpec)

/-- 'thatchlaw02.StrawCounts', WHERE WHAT IT READS IS OF BULK AT MOST 1048576: true; the input reads as it did. -/
def strawCountsUptoRow : OpenClaim := { program := "ytpgkhlpepckfgaa", sum := "250c4b3f872932c6c2f7ecd49ef8015de30db92c31ac56b27ff5e522efb45f5d", func := "thatch/thatchlaw02.StrawCounts", spec := "strawCounts", unfollowed := true, recurses := true, apart := false, narrowed := true }
def StrawCountsUptoSaid : Prop := strawCountsUptoRow.holds Try.pinned (OpenSpec.upto strawCountsSpec)

/-- 'thatchlaw02.StrawDoes', WHERE WHAT IT READS IS OF BULK AT MOST 1048576: true; the input reads as it did. -/
def strawDoesUptoRow : OpenClaim := { program := "ytpgkhlpepckfgaa", sum := "250c4b3f872932c6c2f7ecd49ef8015de30db92c31ac56b27ff5e522efb45f5d", func := "thatch/thatchlaw02.StrawDoes", spec := "strawDoes", unfollowed := true, recurses := true, apart := false, narrowed := true }
def StrawDoesUptoSaid : Prop := strawDoesUptoRow.holds Try.pinned (OpenSpec.upto strawDoesSpec)

/-- 'thatchlaw02.StrawKnown', WHERE WHAT IT READS IS OF BULK AT MOST 1048576: true; the input reads as it did. -/
def strawKnownUptoRow : OpenClaim := { program := "ytpgkhlpepckfgaa", sum := "250c4b3f872932c6c2f7ecd49ef8015de30db92c31ac56b27ff5e522efb45f5d", func := "thatch/thatchlaw02.StrawKnown", spec := "strawKnown", unfollowed := true, recurses := true, apart := false, narrowed := true }
def StrawKnownUptoSaid : Prop := strawKnownUptoRow.holds Try.pinned (OpenSpec.upto strawKnownSpec)

/-- 'thatchlaw02.StrawRuns', WHERE WHAT IT READS IS OF BULK AT MOST 1048576: true; the input reads as it did. -/
def strawRunsUptoRow : OpenClaim := { program := "ytpgkhlpepckfgaa", sum := "250c4b3f872932c6c2f7ecd49ef8015de30db92c31ac56b27ff5e522efb45f5d", func := "thatch/thatchlaw02.StrawRuns", spec := "strawRuns", unfollowed := true, recurses := true, apart := false, narrowed := true }
def StrawRunsUptoSaid : Prop := strawRunsUptoRow.holds Try.pinned (OpenSpec.upto strawRunsSpec)

/-- 'thatchlaw02.StrawBalances', WHERE WHAT IT READS IS OF BULK AT MOST 1048576: true; the input reads as it did. -/
def strawBalancesUptoRow : OpenClaim := { program := "ytpgkhlpepckfgaa", sum := "250c4b3f872932c6c2f7ecd49ef8015de30db92c31ac56b27ff5e522efb45f5d", func := "thatch/thatchlaw02.StrawBalances", spec := "strawBalances", unfollowed := true, recurses := true, apart := false, narrowed := true }
def StrawBalancesUptoSaid : Prop := strawBalancesUptoRow.holds Try.pinned (OpenSpec.upto strawBalancesSpec)

/-- 'thatchlaw02.StrawDries', WHERE WHAT IT READS IS OF BULK AT MOST 1048576: true; the input reads as it did. -/
def strawDriesUptoRow : OpenClaim := { program := "ytpgkhlpepckfgaa", sum := "250c4b3f872932c6c2f7ecd49ef8015de30db92c31ac56b27ff5e522efb45f5d", func := "thatch/thatchlaw02.StrawDries", spec := "strawDries", unfollowed := true, recurses := true, apart := false, narrowed := true }
def StrawDriesUptoSaid : Prop := strawDriesUptoRow.holds Try.pinned (OpenSpec.upto strawDriesSpec)

/-- 'thatchlaw02.StrawParts', WHERE WHAT IT READS IS OF BULK AT MOST 1048576: true; the input reads as it did. -/
def strawPartsUptoRow : OpenClaim := { program := "ytpgkhlpepckfgaa", sum := "250c4b3f872932c6c2f7ecd49ef8015de30db92c31ac56b27ff5e522efb45f5d", func := "thatch/thatchlaw02.StrawParts", spec := "strawParts", unfollowed := true, recurses := true, apart := false, narrowed := true }
def StrawPartsUptoSaid : Prop := strawPartsUptoRow.holds Try.pinned (OpenSpec.upto strawPartsSpec)

/-- 'thatchlaw02.StrawUsed', WHERE WHAT IT READS IS OF BULK AT MOST 1048576: true; the input reads as it did. -/
def strawUsedUptoRow : OpenClaim := { program := "ytpgkhlpepckfgaa", sum := "250c4b3f872932c6c2f7ecd49ef8015de30db92c31ac56b27ff5e522efb45f5d", func := "thatch/thatchlaw02.StrawUsed", spec := "strawUsed", unfollowed := true, recurses := true, apart := false, narrowed := true }
def StrawUsedUptoSaid : Prop := strawUsedUptoRow.holds Try.pinned (OpenSpec.upto strawUsedSpec)

/-- 'thatchlaw02.StrawSwapped', WHERE WHAT IT READS IS OF BULK AT MOST 1048576: true; the input reads as it did. -/
def strawSwappedUptoRow : OpenClaim := { program := "ytpgkhlpepckfgaa", sum := "250c4b3f872932c6c2f7ecd49ef8015de30db92c31ac56b27ff5e522efb45f5d", func := "thatch/thatchlaw02.StrawSwapped", spec := "strawSwapped", unfollowed := true, recurses := true, apart := false, narrowed := true }
def StrawSwappedUptoSaid : Prop := strawSwappedUptoRow.holds Try.pinned (OpenSpec.upto strawSwappedSpec)

/-- 'thatchlaw02.StrawBundles', WHERE WHAT IT READS IS OF BULK AT MOST 1048576: true; the input reads as it did. -/
def strawBundlesUptoRow : OpenClaim := { program := "ytpgkhlpepckfgaa", sum := "250c4b3f872932c6c2f7ecd49ef8015de30db92c31ac56b27ff5e522efb45f5d", func := "thatch/thatchlaw02.StrawBundles", spec := "strawBundles", unfollowed := true, recurses := true, apart := false, narrowed := true }
def StrawBundlesUptoSaid : Prop := strawBundlesUptoRow.holds Try.pinned (OpenSpec.upto strawBundlesSpec)

end Rows
end Go.Proofs.Ytpgkhlpepckfgaa
