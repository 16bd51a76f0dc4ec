/-
  No cell of these rows narrows 'for every input' (looked for: loops, veiled, ifaces, maps, wideKeys, modest, calm, conditions, laid).
  DERIVED. THE GIVEN ROWS OF THIS SEAT. 20 by the template 'for every input the law returns true; each argument reads behind the call as it read before'; 0 by the template 'total and deterministic' (their statements: YtkcmacglomdfcaaTotals.lean).
  GIVEN WITH THE SEED: the statements are not yours to turn. If you find one false, say at which input.
  Laid BY PROGRAM, IN A SANDBOX (cutbox-rows.mjs): the forced cells as the released guide's own fill.sh prints them over the translation 16c7c4ed5a4ec31d… (all of the seat's roots in one cut). By AI agents, Wed Nov 11 2026. No macro, syntax, notation, axiom, sorry.
-/
import Derived.Test.YtkcmacglomdfcaaChecked
import GoSem.Claim
import GoSem.ClaimJoined
import GoSem.ClaimMapViews
import Derived.JoinedTies
import Derived.KernelRfl
namespace Go.Proofs.Ytkcmacglomdfcaa
/- THE CELL 'sum', in the pinned program and in every row, IS THE sha256 OF THE DUMP (.gsa) THAT YtkcmacglomdfcaaProg.lean LOADS. Nothing in Lean hashes anything: it is a label: what it is worth is what the hold of that sum in a sandbox is worth. -/
noncomputable def Try.pinned : Pinned := { name := "ytkcmacglomdfcaa", sum := "16c7c4ed5a4ec31d7e92d62a0a942edf10fe08283043fb360055b290cbfdc73a", checked := Try.checked }
namespace Rows
def none {H : Type} : Left H := { results := [], args := [] }

/-- 'cachetlaw01.SumShort': WHATEVER THE INPUT: true; the input reads as it did. -/
def sumShortSpec : ChangeSpec := { name := "sumShort", fn := fun _ => fun
  | [d] => { results := [.lit (.bool true)], args := [d] }
  | _ => none }
def sumShortRow : OpenClaim := { program := "ytkcmacglomdfcaa", sum := "16c7c4ed5a4ec31d7e92d62a0a942edf10fe08283043fb360055b290cbfdc73a", func := "cachet/cachetlaw01.SumShort", spec := "sumShort", unfollowed := true, recurses := true, plainKeys := false, apart := false }
def SumShortSaid : Prop := sumShortRow.holds Try.pinned (OpenSpec.ofChange sumShortSpec)

/-- ITS FALSE NEIGHBOUR: 'it returns false'. Refute it at one input. -/
def sumShortWrong : ChangeSpec := { name := "sumShort", fn := fun _ => fun
  | [d] => { results := [.lit (.bool false)], args := [d] }
  | _ => none }
def SumShortWrongFalsely : Prop := sumShortRow.holds Try.pinned (OpenSpec.ofChange sumShortWrong)

/-- 'cachetlaw01.SumLong': WHATEVER THE INPUT: true; the input reads as it did. -/
def sumLongSpec : ChangeSpec := { name := "sumLong", fn := fun _ => fun
  | [d] => { results := [.lit (.bool true)], args := [d] }
  | _ => none }
def sumLongRow : OpenClaim := { program := "ytkcmacglomdfcaa", sum := "16c7c4ed5a4ec31d7e92d62a0a942edf10fe08283043fb360055b290cbfdc73a", func := "cachet/cachetlaw01.SumLong", spec := "sumLong", unfollowed := true, recurses := true, plainKeys := false, apart := false }
def SumLongSaid : Prop := sumLongRow.holds Try.pinned (OpenSpec.ofChange sumLongSpec)

/-- ITS FALSE NEIGHBOUR: 'it returns false'. Refute it at one input. -/
def sumLongWrong : ChangeSpec := { name := "sumLong", fn := fun _ => fun
  | [d] => { results := [.lit (.bool false)], args := [d] }
  | _ => none }
def SumLongWrongFalsely : Prop := sumLongRow.holds Try.pinned (OpenSpec.ofChange sumLongWrong)

/-- 'cachetlaw01.SumParts': WHATEVER THE INPUT: true; the input reads as it did. -/
def sumPartsSpec : ChangeSpec := { name := "sumParts", fn := fun _ => fun
  | [d] => { results := [.lit (.bool true)], args := [d] }
  | _ => none }
def sumPartsRow : OpenClaim := { program := "ytkcmacglomdfcaa", sum := "16c7c4ed5a4ec31d7e92d62a0a942edf10fe08283043fb360055b290cbfdc73a", func := "cachet/cachetlaw01.SumParts", spec := "sumParts", unfollowed := true, recurses := true, plainKeys := false, apart := false }
def SumPartsSaid : Prop := sumPartsRow.holds Try.pinned (OpenSpec.ofChange sumPartsSpec)

/-- ITS FALSE NEIGHBOUR: 'it returns false'. Refute it at one input. -/
def sumPartsWrong : ChangeSpec := { name := "sumParts", fn := fun _ => fun
  | [d] => { results := [.lit (.bool false)], args := [d] }
  | _ => none }
def SumPartsWrongFalsely : Prop := sumPartsRow.holds Try.pinned (OpenSpec.ofChange sumPartsWrong)

/-- 'cachetlaw09.LeafDigests': WHATEVER THE INPUT: true; the input reads as it did. -/
def leafDigestsSpec : ChangeSpec := { name := "leafDigests", fn := fun _ => fun
  | [d1, d2, d3] => { results := [.lit (.bool true)], args := [d1, d2, d3] }
  | _ => none }
def leafDigestsRow : OpenClaim := { program := "ytkcmacglomdfcaa", sum := "16c7c4ed5a4ec31d7e92d62a0a942edf10fe08283043fb360055b290cbfdc73a", func := "cachet/cachetlaw09.LeafDigests", spec := "leafDigests", unfollowed := true, recurses := true, plainKeys := false, apart := false }
def LeafDigestsSaid : Prop := leafDigestsRow.holds Try.pinned (OpenSpec.ofChange leafDigestsSpec)

/-- ITS FALSE NEIGHBOUR: 'it returns false'. Refute it at one input. -/
def leafDigestsWrong : ChangeSpec := { name := "leafDigests", fn := fun _ => fun
  | [d1, d2, d3] => { results := [.lit (.bool false)], args := [d1, d2, d3] }
  | _ => none }
def LeafDigestsWrongFalsely : Prop := leafDigestsRow.holds Try.pinned (OpenSpec.ofChange leafDigestsWrong)

/-- 'cachetlaw09.LeafCuts': WHATEVER THE INPUT: true; the input reads as it did. -/
def leafCutsSpec : ChangeSpec := { name := "leafCuts", fn := fun _ => fun
  | [d] => { results := [.lit (.bool true)], args := [d] }
  | _ => none }
def leafCutsRow : OpenClaim := { program := "ytkcmacglomdfcaa", sum := "16c7c4ed5a4ec31d7e92d62a0a942edf10fe08283043fb360055b290cbfdc73a", func := "cachet/cachetlaw09.LeafCuts", spec := "leafCuts", unfollowed := true, recurses := true, plainKeys := false, apart := false }
def LeafCutsSaid : Prop := leafCutsRow.holds Try.pinned (OpenSpec.ofChange leafCutsSpec)

/-- ITS FALSE NEIGHBOUR: 'it returns false'. Refute it at one input. -/
def leafCutsWrong : ChangeSpec := { name := "leafCuts", fn := fun _ => fun
  | [d] => { results := [.lit (.bool false)], args := [d] }
  | _ => none }
def LeafCutsWrongFalsely : Prop := leafCutsRow.holds Try.pinned (OpenSpec.ofChange leafCutsWrong)

/-- 'cachetlaw09.LeafRoots': WHATEVER THE INPUT: true; the input reads as it did. -/
def leafRootsSpec : ChangeSpec := { name := "leafRoots", fn := fun _ => fun
  | [d] => { results := [.lit (.bool true)], args := [d] }
  | _ => none }
def leafRootsRow : OpenClaim := { program := "ytkcmacglomdfcaa", sum := "16c7c4ed5a4ec31d7e92d62a0a942edf10fe08283043fb360055b290cbfdc73a", func := "cachet/cachetlaw09.LeafRoots", spec := "leafRoots", unfollowed := true, recurses := true, plainKeys := false, apart := false }
def LeafRootsSaid : Prop := leafRootsRow.holds Try.pinned (OpenSpec.ofChange leafRootsSpec)

/-- ITS FALSE NEIGHBOUR: 'it returns false'. Refute it at one input. -/
def leafRootsWrong : ChangeSpec := { name := "leafRoots", fn := fun _ => fun
  | [d] => { results := [.lit (.bool false)], args := [d] }
  | _ => none }
def LeafRootsWrongFalsely : Prop := leafRootsRow.holds Try.pinned (OpenSpec.ofChange leafRootsWrong)

/-- 'cachetlaw09.LeafUnlike': WHATEVER THE INPUT: true; the input reads as it did. -/
def leafUnlikeSpec : ChangeSpec := { name := "leafUnlike", fn := fun _ => fun
  | [d1, d2] => { results := [.lit (.bool true)], args := [d1, d2] }
  | _ => none }
def leafUnlikeRow : OpenClaim := { program := "ytkcmacglomdfcaa", sum := "16c7c4ed5a4ec31d7e92d62a0a942edf10fe08283043fb360055b290cbfdc73a", func := "cachet/cachetlaw09.LeafUnlike", spec := "leafUnlike", unfollowed := true, recurses := true, plainKeys := false, apart := false }
def LeafUnlikeSaid : Prop := leafUnlikeRow.holds Try.pinned (OpenSpec.ofChange leafUnlikeSpec)

/-- ITS FALSE NEIGHBOUR: 'it returns false'. Refute it at one input. -/
def leafUnlikeWrong : ChangeSpec := { name := "leafUnlike", fn := fun _ => fun
  | [d1, d2] => { results := [.lit (.bool false)], args := [d1, d2] }
  | _ => none }
def LeafUnlikeWrongFalsely : Prop := leafUnlikeRow.holds Try.pinned (OpenSpec.ofChange leafUnlikeWrong)

/-- 'cachetlaw09.LeafJoins': WHATEVER THE INPUT: true; the input reads as it did. -/
def leafJoinsSpec : ChangeSpec := { name := "leafJoins", fn := fun _ => fun
  | [d] => { results := [.lit (.bool true)], args := [d] }
  | _ => none }
def leafJoinsRow : OpenClaim := { program := "ytkcmacglomdfcaa", sum := "16c7c4ed5a4ec31d7e92d62a0a942edf10fe08283043fb360055b290cbfdc73a", func := "cachet/cachetlaw09.LeafJoins", spec := "leafJoins", unfollowed := true, recurses := true, plainKeys := false, apart := false }
def LeafJoinsSaid : Prop := leafJoinsRow.holds Try.pinned (OpenSpec.ofChange leafJoinsSpec)

/-- ITS FALSE NEIGHBOUR: 'it returns false'. Refute it at one input. -/
def leafJoinsWrong : ChangeSpec := { name := "leafJoins", fn := fun _ => fun
  | [d] => { results := [.lit (.bool false)], args := [d] }
  | _ => none }
def LeafJoinsWrongFalsely : Prop := leafJoinsRow.holds Try.pinned (OpenSpec.ofChange leafJoinsWrong)

/-- 'cachetlaw11.TreeRoots': WHATEVER THE INPUT: true; the input reads as it did. -/
def treeRootsSpec : ChangeSpec := { name := "treeRoots", fn := fun _ => fun
  | [d] => { results := [.lit (.bool true)], args := [d] }
  | _ => none }
def treeRootsRow : OpenClaim := { program := "ytkcmacglomdfcaa", sum := "16c7c4ed5a4ec31d7e92d62a0a942edf10fe08283043fb360055b290cbfdc73a", func := "cachet/cachetlaw11.TreeRoots", spec := "treeRoots", unfollowed := true, recurses := true, plainKeys := false, apart := false }
def TreeRootsSaid : Prop := treeRootsRow.holds Try.pinned (OpenSpec.ofChange treeRootsSpec)

/-- ITS FALSE NEIGHBOUR: 'it returns false'. Refute it at one input. -/
def treeRootsWrong : ChangeSpec := { name := "treeRoots", fn := fun _ => fun
  | [d] => { results := [.lit (.bool false)], args := [d] }
  | _ => none }
def TreeRootsWrongFalsely : Prop := treeRootsRow.holds Try.pinned (OpenSpec.ofChange treeRootsWrong)

/-- 'cachetlaw11.TreeLeaves': WHATEVER THE INPUT: true; the input reads as it did. -/
def treeLeavesSpec : ChangeSpec := { name := "treeLeaves", fn := fun _ => fun
  | [d1, d2, d3] => { results := [.lit (.bool true)], args := [d1, d2, d3] }
  | _ => none }
def treeLeavesRow : OpenClaim := { program := "ytkcmacglomdfcaa", sum := "16c7c4ed5a4ec31d7e92d62a0a942edf10fe08283043fb360055b290cbfdc73a", func := "cachet/cachetlaw11.TreeLeaves", spec := "treeLeaves", unfollowed := true, recurses := true, plainKeys := false, apart := false }
def TreeLeavesSaid : Prop := treeLeavesRow.holds Try.pinned (OpenSpec.ofChange treeLeavesSpec)

/-- ITS FALSE NEIGHBOUR: 'it returns false'. Refute it at one input. -/
def treeLeavesWrong : ChangeSpec := { name := "treeLeaves", fn := fun _ => fun
  | [d1, d2, d3] => { results := [.lit (.bool false)], args := [d1, d2, d3] }
  | _ => none }
def TreeLeavesWrongFalsely : Prop := treeLeavesRow.holds Try.pinned (OpenSpec.ofChange treeLeavesWrong)

/-- 'cachetlaw11.TreeStays': WHATEVER THE INPUT: true; the input reads as it did. -/
def treeStaysSpec : ChangeSpec := { name := "treeStays", fn := fun _ => fun
  | [d1, d2] => { results := [.lit (.bool true)], args := [d1, d2] }
  | _ => none }
def treeStaysRow : OpenClaim := { program := "ytkcmacglomdfcaa", sum := "16c7c4ed5a4ec31d7e92d62a0a942edf10fe08283043fb360055b290cbfdc73a", func := "cachet/cachetlaw11.TreeStays", spec := "treeStays", unfollowed := true, recurses := true, plainKeys := false, apart := false }
def TreeStaysSaid : Prop := treeStaysRow.holds Try.pinned (OpenSpec.ofChange treeStaysSpec)

/-- ITS FALSE NEIGHBOUR: 'it returns false'. Refute it at one input. -/
def treeStaysWrong : ChangeSpec := { name := "treeStays", fn := fun _ => fun
  | [d1, d2] => { results := [.lit (.bool false)], args := [d1, d2] }
  | _ => none }
def TreeStaysWrongFalsely : Prop := treeStaysRow.holds Try.pinned (OpenSpec.ofChange treeStaysWrong)

/-- 'cachetlaw10.ProofPaths': WHATEVER THE INPUT: true; the input reads as it did. -/
def proofPathsSpec : ChangeSpec := { name := "proofPaths", fn := fun _ => fun
  | [d1, d2] => { results := [.lit (.bool true)], args := [d1, d2] }
  | _ => none }
def proofPathsRow : OpenClaim := { program := "ytkcmacglomdfcaa", sum := "16c7c4ed5a4ec31d7e92d62a0a942edf10fe08283043fb360055b290cbfdc73a", func := "cachet/cachetlaw10.ProofPaths", spec := "proofPaths", unfollowed := true, recurses := true, plainKeys := false, apart := false }
def ProofPathsSaid : Prop := proofPathsRow.holds Try.pinned (OpenSpec.ofChange proofPathsSpec)

/-- ITS FALSE NEIGHBOUR: 'it returns false'. Refute it at one input. -/
def proofPathsWrong : ChangeSpec := { name := "proofPaths", fn := fun _ => fun
  | [d1, d2] => { results := [.lit (.bool false)], args := [d1, d2] }
  | _ => none }
def ProofPathsWrongFalsely : Prop := proofPathsRow.holds Try.pinned (OpenSpec.ofChange proofPathsWrong)

/-- 'cachetlaw10.ProofCome': WHATEVER THE INPUT: true; the input reads as it did. -/
def proofComeSpec : ChangeSpec := { name := "proofCome", fn := fun _ => fun
  | [d] => { results := [.lit (.bool true)], args := [d] }
  | _ => none }
def proofComeRow : OpenClaim := { program := "ytkcmacglomdfcaa", sum := "16c7c4ed5a4ec31d7e92d62a0a942edf10fe08283043fb360055b290cbfdc73a", func := "cachet/cachetlaw10.ProofCome", spec := "proofCome", unfollowed := true, recurses := true, plainKeys := false, apart := false }
def ProofComeSaid : Prop := proofComeRow.holds Try.pinned (OpenSpec.ofChange proofComeSpec)

/-- ITS FALSE NEIGHBOUR: 'it returns false'. Refute it at one input. -/
def proofComeWrong : ChangeSpec := { name := "proofCome", fn := fun _ => fun
  | [d] => { results := [.lit (.bool false)], args := [d] }
  | _ => none }
def ProofComeWrongFalsely : Prop := proofComeRow.holds Try.pinned (OpenSpec.ofChange proofComeWrong)

/-- 'cachetlaw10.ProofAlone': WHATEVER THE INPUT: true; the input reads as it did. -/
def proofAloneSpec : ChangeSpec := { name := "proofAlone", fn := fun _ => fun
  | [d] => { results := [.lit (.bool true)], args := [d] }
  | _ => none }
def proofAloneRow : OpenClaim := { program := "ytkcmacglomdfcaa", sum := "16c7c4ed5a4ec31d7e92d62a0a942edf10fe08283043fb360055b290cbfdc73a", func := "cachet/cachetlaw10.ProofAlone", spec := "proofAlone", unfollowed := true, recurses := true, plainKeys := false, apart := false }
def ProofAloneSaid : Prop := proofAloneRow.holds Try.pinned (OpenSpec.ofChange proofAloneSpec)

/-- ITS FALSE NEIGHBOUR: 'it returns false'. Refute it at one input. -/
def proofAloneWrong : ChangeSpec := { name := "proofAlone", fn := fun _ => fun
  | [d] => { results := [.lit (.bool false)], args := [d] }
  | _ => none }
def ProofAloneWrongFalsely : Prop := proofAloneRow.holds Try.pinned (OpenSpec.ofChange proofAloneWrong)

/-- 'cachetlaw10.ProofExtends': WHATEVER THE INPUT: true; the input reads as it did. -/
def proofExtendsSpec : ChangeSpec := { name := "proofExtends", fn := fun _ => fun
  | [d] => { results := [.lit (.bool true)], args := [d] }
  | _ => none }
def proofExtendsRow : OpenClaim := { program := "ytkcmacglomdfcaa", sum := "16c7c4ed5a4ec31d7e92d62a0a942edf10fe08283043fb360055b290cbfdc73a", func := "cachet/cachetlaw10.ProofExtends", spec := "proofExtends", unfollowed := true, recurses := true, plainKeys := false, apart := false }
def ProofExtendsSaid : Prop := proofExtendsRow.holds Try.pinned (OpenSpec.ofChange proofExtendsSpec)

/-- ITS FALSE NEIGHBOUR: 'it returns false'. Refute it at one input. -/
def proofExtendsWrong : ChangeSpec := { name := "proofExtends", fn := fun _ => fun
  | [d] => { results := [.lit (.bool false)], args := [d] }
  | _ => none }
def ProofExtendsWrongFalsely : Prop := proofExtendsRow.holds Try.pinned (OpenSpec.ofChange proofExtendsWrong)

/-- 'cachetlaw10.ProofOld': WHATEVER THE INPUT: true; the input reads as it did. -/
def proofOldSpec : ChangeSpec := { name := "proofOld", fn := fun _ => fun
  | [d] => { results := [.lit (.bool true)], args := [d] }
  | _ => none }
def proofOldRow : OpenClaim := { program := "ytkcmacglomdfcaa", sum := "16c7c4ed5a4ec31d7e92d62a0a942edf10fe08283043fb360055b290cbfdc73a", func := "cachet/cachetlaw10.ProofOld", spec := "proofOld", unfollowed := true, recurses := true, plainKeys := false, apart := false }
def ProofOldSaid : Prop := proofOldRow.holds Try.pinned (OpenSpec.ofChange proofOldSpec)

/-- ITS FALSE NEIGHBOUR: 'it returns false'. Refute it at one input. -/
def proofOldWrong : ChangeSpec := { name := "proofOld", fn := fun _ => fun
  | [d] => { results := [.lit (.bool false)], args := [d] }
  | _ => none }
def ProofOldWrongFalsely : Prop := proofOldRow.holds Try.pinned (OpenSpec.ofChange proofOldWrong)

/-- 'cachetlaw11.TreeProofs': WHATEVER THE INPUT: true; the input reads as it did. -/
def treeProofsSpec : ChangeSpec := { name := "treeProofs", fn := fun _ => fun
  | [d1, d2, d3] => { results := [.lit (.bool true)], args := [d1, d2, d3] }
  | _ => none }
def treeProofsRow : OpenClaim := { program := "ytkcmacglomdfcaa", sum := "16c7c4ed5a4ec31d7e92d62a0a942edf10fe08283043fb360055b290cbfdc73a", func := "cachet/cachetlaw11.TreeProofs", spec := "treeProofs", unfollowed := true, recurses := true, plainKeys := false, apart := false }
def TreeProofsSaid : Prop := treeProofsRow.holds Try.pinned (OpenSpec.ofChange treeProofsSpec)

/-- ITS FALSE NEIGHBOUR: 'it returns false'. Refute it at one input. -/
def treeProofsWrong : ChangeSpec := { name := "treeProofs", fn := fun _ => fun
  | [d1, d2, d3] => { results := [.lit (.bool false)], args := [d1, d2, d3] }
  | _ => none }
def TreeProofsWrongFalsely : Prop := treeProofsRow.holds Try.pinned (OpenSpec.ofChange treeProofsWrong)

/-- 'cachetlaw11.TreeNone': WHATEVER THE INPUT: true; the input reads as it did. -/
def treeNoneSpec : ChangeSpec := { name := "treeNone", fn := fun _ => fun
  | [d1, d2, d3] => { results := [.lit (.bool true)], args := [d1, d2, d3] }
  | _ => none }
def treeNoneRow : OpenClaim := { program := "ytkcmacglomdfcaa", sum := "16c7c4ed5a4ec31d7e92d62a0a942edf10fe08283043fb360055b290cbfdc73a", func := "cachet/cachetlaw11.TreeNone", spec := "treeNone", unfollowed := true, recurses := true, plainKeys := false, apart := false }
def TreeNoneSaid : Prop := treeNoneRow.holds Try.pinned (OpenSpec.ofChange treeNoneSpec)

/-- ITS FALSE NEIGHBOUR: 'it returns false'. Refute it at one input. -/
def treeNoneWrong : ChangeSpec := { name := "treeNone", fn := fun _ => fun
  | [d1, d2, d3] => { results := [.lit (.bool false)], args := [d1, d2, d3] }
  | _ => none }
def TreeNoneWrongFalsely : Prop := treeNoneRow.holds Try.pinned (OpenSpec.ofChange treeNoneWrong)

/-- 'cachetlaw10.ProofBegins': WHATEVER THE INPUT: true; the input reads as it did. -/
def proofBeginsSpec : ChangeSpec := { name := "proofBegins", fn := fun _ => fun
  | [d1, d2] => { results := [.lit (.bool true)], args := [d1, d2] }
  | _ => none }
def proofBeginsRow : OpenClaim := { program := "ytkcmacglomdfcaa", sum := "16c7c4ed5a4ec31d7e92d62a0a942edf10fe08283043fb360055b290cbfdc73a", func := "cachet/cachetlaw10.ProofBegins", spec := "proofBegins", unfollowed := true, recurses := true, plainKeys := false, apart := false }
def ProofBeginsSaid : Prop := proofBeginsRow.holds Try.pinned (OpenSpec.ofChange proofBeginsSpec)

/-- ITS FALSE NEIGHBOUR: 'it returns false'. Refute it at one input. -/
def proofBeginsWrong : ChangeSpec := { name := "proofBegins", fn := fun _ => fun
  | [d1, d2] => { results := [.lit (.bool false)], args := [d1, d2] }
  | _ => none }
def ProofBeginsWrongFalsely : Prop := proofBeginsRow.holds Try.pinned (OpenSpec.ofChange proofBeginsWrong)

/-- 'cachetlaw10.ProofSteps': WHATEVER THE INPUT: true; the input reads as it did. -/
def proofStepsSpec : ChangeSpec := { name := "proofSteps", fn := fun _ => fun
  | [d1, d2, d3] => { results := [.lit (.bool true)], args := [d1, d2, d3] }
  | _ => none }
def proofStepsRow : OpenClaim := { program := "ytkcmacglomdfcaa", sum := "16c7c4ed5a4ec31d7e92d62a0a942edf10fe08283043fb360055b290cbfdc73a", func := "cachet/cachetlaw10.ProofSteps", spec := "proofSteps", unfollowed := true, recurses := true, plainKeys := false, apart := false }
def ProofStepsSaid : Prop := proofStepsRow.holds Try.pinned (OpenSpec.ofChange proofStepsSpec)

/-- ITS FALSE NEIGHBOUR: 'it returns false'. Refute it at one input. -/
def proofStepsWrong : ChangeSpec := { name := "proofSteps", fn := fun _ => fun
  | [d1, d2, d3] => { results := [.lit (.bool false)], args := [d1, d2, d3] }
  | _ => none }
def ProofStepsWrongFalsely : Prop := proofStepsRow.holds Try.pinned (OpenSpec.ofChange proofStepsWrong)

/- THE SECOND FORM. 'bulk': how many values and letters a reading holds, each counted each time it is reached (what is shared counts as often as it is met; a slice's spare places count too). A statement '..UptoSaid' is the law's where the arguments, and the package variables that the reading takes, are together of bulk at most 1048576: NARROWER than '..Said'. Prove '..Said' where nothing that the law and all that it calls make is longer than what came in: it says more and counts as full. Else prove '..UptoSaid'. A law counts once. -/
mutual
def uptoBulk {H : Type} : DataW H → Nat
  | .lit (.string bytes) => bytes.length + 1
  | .lit _ => 1
  | .nil => 1
  | .ptr d => uptoBulk d + 1
  | .slice elems spare => uptoBulkAll elems + uptoBulkAll spare + 1
  | .agg parts => uptoBulkAll parts + 1
  | .iface _ d => uptoBulk d + 1
  | .map entries => uptoBulkEntries entries + 1
  | .held _ => 1
def uptoBulkAll {H : Type} : List (DataW H) → Nat
  | [] => 0
  | d :: r => uptoBulk d + uptoBulkAll r
def uptoBulkEntries {H : Type} : List (Lit × DataW H) → Nat
  | [] => 0
  | x :: r => uptoBulkEntry x + uptoBulkEntries r
def uptoBulkEntry {H : Type} : Lit × DataW H → Nat
  | (.string bytes, d) => bytes.length + uptoBulk d + 1
  | (_, d) => uptoBulk d + 1
 end
def uptoSmall : (H : Type) → List (DataW H) → Bool := fun _ ds => decide (uptoBulkAll ds ≤ 1048576)
def OpenSpec.upto (s : _root_.Go.ChangeSpec) : _root_.Go.OpenSpec := { _root_.Go.OpenSpec.ofChange s with cond := some uptoSmall }

/-- 'cachetlaw01.SumShort', WHERE WHAT IT READS IS OF BULK AT MOST 1048576: true; the input reads as it did. -/
def sumShortUptoRow : OpenClaim := { program := "ytkcmacglomdfcaa", sum := "16c7c4ed5a4ec31d7e92d62a0a942edf10fe08283043fb360055b290cbfdc73a", func := "cachet/cachetlaw01.SumShort", spec := "sumShort", unfollowed := true, recurses := true, plainKeys := false, apart := false, narrowed := true }
def SumShortUptoSaid : Prop := sumShortUptoRow.holds Try.pinned (OpenSpec.upto sumShortSpec)

/-- 'cachetlaw01.SumLong', WHERE WHAT IT READS IS OF BULK AT MOST 1048576: true; the input reads as it did. -/
def sumLongUptoRow : OpenClaim := { program := "ytkcmacglomdfcaa", sum := "16c7c4ed5a4ec31d7e92d62a0a942edf10fe08283043fb360055b290cbfdc73a", func := "cachet/cachetlaw01.SumLong", spec := "sumLong", unfollowed := true, recurses := true, plainKeys := false, apart := false, narrowed := true }
def SumLongUptoSaid : Prop := sumLongUptoRow.holds Try.pinned (OpenSpec.upto sumLongSpec)

/-- 'cachetlaw01.SumParts', WHERE WHAT IT READS IS OF BULK AT MOST 1048576: true; the input reads as it did. -/
def sumPartsUptoRow : OpenClaim := { program := "ytkcmacglomdfcaa", sum := "16c7c4ed5a4ec31d7e92d62a0a942edf10fe08283043fb360055b290cbfdc73a", func := "cachet/cachetlaw01.SumParts", spec := "sumParts", unfollowed := true, recurses := true, plainKeys := false, apart := false, narrowed := true }
def SumPartsUptoSaid : Prop := sumPartsUptoRow.holds Try.pinned (OpenSpec.upto sumPartsSpec)

/-- 'cachetlaw09.LeafDigests', WHERE WHAT IT READS IS OF BULK AT MOST 1048576: true; the input reads as it did. -/
def leafDigestsUptoRow : OpenClaim := { program := "ytkcmacglomdfcaa", sum := "16c7c4ed5a4ec31d7e92d62a0a942edf10fe08283043fb360055b290cbfdc73a", func := "cachet/cachetlaw09.LeafDigests", spec := "leafDigests", unfollowed := true, recurses := true, plainKeys := false, apart := false, narrowed := true }
def LeafDigestsUptoSaid : Prop := leafDigestsUptoRow.holds Try.pinned (OpenSpec.upto leafDigestsSpec)

/-- 'cachetlaw09.LeafCuts', WHERE WHAT IT READS IS OF BULK AT MOST 1048576: true; the input reads as it did. -/
def leafCutsUptoRow : OpenClaim := { program := "ytkcmacglomdfcaa", sum := "16c7c4ed5a4ec31d7e92d62a0a942edf10fe08283043fb360055b290cbfdc73a", func := "cachet/cachetlaw09.LeafCuts", spec := "leafCuts", unfollowed := true, recurses := true, plainKeys := false, apart := false, narrowed := true }
def LeafCutsUptoSaid : Prop := leafCutsUptoRow.holds Try.pinned (OpenSpec.upto leafCutsSpec)

/-- 'cachetlaw09.LeafRoots', WHERE WHAT IT READS IS OF BULK AT MOST 1048576: true; the input reads as it did. -/
def leafRootsUptoRow : OpenClaim := { program := "ytkcmacglomdfcaa", sum := "16c7c4ed5a4ec31d7e92d62a0a942edf10fe08283043fb360055b290cbfdc73a", func := "cachet/cachetlaw09.LeafRoots", spec := "leafRoots", unfollowed := true, recurses := true, plainKeys := false, apart := false, narrowed := true }
def LeafRootsUptoSaid : Prop := leafRootsUptoRow.holds Try.pinned (OpenSpec.upto leafRootsSpec)

/-- 'cachetlaw09.LeafUnlike', WHERE WHAT IT READS IS OF BULK AT MOST 1048576: true; the input reads as it did. -/
def leafUnlikeUptoRow : OpenClaim := { program := "ytkcmacglomdfcaa", sum := "16c7c4ed5a4ec31d7e92d62a0a942edf10fe08283043fb360055b290cbfdc73a", func := "cachet/cachetlaw09.LeafUnlike", spec := "leafUnlike", unfollowed := true, recurses := true, plainKeys := false, apart := false, narrowed := true }
def LeafUnlikeUptoSaid : Prop := leafUnlikeUptoRow.holds Try.pinned (OpenSpec.upto leafUnlikeSpec)

/-- 'cachetlaw09.LeafJoins', WHERE WHAT IT READS IS OF BULK AT MOST 1048576: true; the input reads as it did. -/
def leafJoinsUptoRow : OpenClaim := { program := "ytkcmacglomdfcaa", sum := "16c7c4ed5a4ec31d7e92d62a0a942edf10fe08283043fb360055b290cbfdc73a", func := "cachet/cachetlaw09.LeafJoins", spec := "leafJoins", unfollowed := true, recurses := true, plainKeys := false, apart := false, narrowed := true }
def LeafJoinsUptoSaid : Prop := leafJoinsUptoRow.holds Try.pinned (OpenSpec.upto leafJoinsSpec)

/-- 'cachetlaw11.TreeRoots', WHERE WHAT IT READS IS OF BULK AT MOST 1048576: true; the input reads as it did. -/
def treeRootsUptoRow : OpenClaim := { program := "ytkcmacglomdfcaa", sum := "16c7c4ed5a4ec31d7e92d62a0a942edf10fe08283043fb360055b290cbfdc73a", func := "cachet/cachetlaw11.TreeRoots", spec := "treeRoots", unfollowed := true, recurses := true, plainKeys := false, apart := false, narrowed := true }
def TreeRootsUptoSaid : Prop := treeRootsUptoRow.holds Try.pinned (OpenSpec.upto treeRootsSpec)

/-- 'cachetlaw11.TreeLeaves', WHERE WHAT IT READS IS OF BULK AT MOST 1048576: true; the input reads as it did. -/
def treeLeavesUptoRow : OpenClaim := { program := "ytkcmacglomdfcaa", sum := "16c7c4ed5a4ec31d7e92d62a0a942edf10fe08283043fb360055b290cbfdc73a", func := "cachet/cachetlaw11.TreeLeaves", spec := "treeLeaves", unfollowed := true, recurses := true, plainKeys := false, apart := false, narrowed := true }
def TreeLeavesUptoSaid : Prop := treeLeavesUptoRow.holds Try.pinned (OpenSpec.upto treeLeavesSpec)

/-- 'cachetlaw11.TreeStays', WHERE WHAT IT READS IS OF BULK AT MOST 1048576: true; the input reads as it did. -/
def treeStaysUptoRow : OpenClaim := { program := "ytkcmacglomdfcaa", sum := "16c7c4ed5a4ec31d7e92d62a0a942edf10fe08283043fb360055b290cbfdc73a", func := "cachet/cachetlaw11.TreeStays", spec := "treeStays", unfollowed := true, recurses := true, plainKeys := false, apart := false, narrowed := true }
def TreeStaysUptoSaid : Prop := treeStaysUptoRow.holds Try.pinned (OpenSpec.upto treeStaysSpec)

/-- 'cachetlaw10.ProofPaths', WHERE WHAT IT READS IS OF BULK AT MOST 1048576: true; the input reads as it did. -/
def proofPathsUptoRow : OpenClaim := { program := "ytkcmacglomdfcaa", sum := "16c7c4ed5a4ec31d7e92d62a0a942edf10fe08283043fb360055b290cbfdc73a", func := "cachet/cachetlaw10.ProofPaths", spec := "proofPaths", unfollowed := true, recurses := true, plainKeys := false, apart := false, narrowed := true }
def ProofPathsUptoSaid : Prop := proofPathsUptoRow.holds Try.pinned (OpenSpec.upto proofPathsSpec)

/-- 'cachetlaw10.ProofCome', WHERE WHAT IT READS IS OF BULK AT MOST 1048576: true; the input reads as it did. -/
def proofComeUptoRow : OpenClaim := { program := "ytkcmacglomdfcaa", sum := "16c7c4ed5a4ec31d7e92d62a0a942edf10fe08283043fb360055b290cbfdc73a", func := "cachet/cachetlaw10.ProofCome", spec := "proofCome", unfollowed := true, recurses := true, plainKeys := false, apart := false, narrowed := true }
def ProofComeUptoSaid : Prop := proofComeUptoRow.holds Try.pinned (OpenSpec.upto proofComeSpec)

/-- 'cachetlaw10.ProofAlone', WHERE WHAT IT READS IS OF BULK AT MOST 1048576: true; the input reads as it did. -/
def proofAloneUptoRow : OpenClaim := { program := "ytkcmacglomdfcaa", sum := "16c7c4ed5a4ec31d7e92d62a0a942edf10fe08283043fb360055b290cbfdc73a", func := "cachet/cachetlaw10.ProofAlone", spec := "proofAlone", unfollowed := true, recurses := true, plainKeys := false, apart := false, narrowed := true }
def ProofAloneUptoSaid : Prop := proofAloneUptoRow.holds Try.pinned (OpenSpec.upto proofAloneSpec)

/-- 'cachetlaw10.ProofExtends', WHERE WHAT IT READS IS OF BULK AT MOST 1048576: true; the input reads as it did. -/
def proofExtendsUptoRow : OpenClaim := { program := "ytkcmacglomdfcaa", sum := "16c7c4ed5a4ec31d7e92d62a0a942edf10fe08283043fb360055b290cbfdc73a", func := "cachet/cachetlaw10.ProofExtends", spec := "proofExtends", unfollowed := true, recurses := true, plainKeys := false, apart := false, narrowed := true }
def ProofExtendsUptoSaid : Prop := proofExtendsUptoRow.holds Try.pinned (OpenSpec.upto proofExtendsSpec)

/-- 'cachetlaw10.ProofOld', WHERE WHAT IT READS IS OF BULK AT MOST 1048576: true; the input reads as it did. -/
def proofOldUptoRow : OpenClaim := { program := "ytkcmacglomdfcaa", sum := "16c7c4ed5a4ec31d7e92d62a0a942edf10fe08283043fb360055b290cbfdc73a", func := "cachet/cachetlaw10.ProofOld", spec := "proofOld", unfollowed := true, recurses := true, plainKeys := false, apart := false, narrowed := true }
def ProofOldUptoSaid : Prop := proofOldUptoRow.holds Try.pinned (OpenSpec.upto proofOldSpec)

/-- 'cachetlaw11.TreeProofs', WHERE WHAT IT READS IS OF BULK AT MOST 1048576: true; the input reads as it did. -/
def treeProofsUptoRow : OpenClaim := { program := "ytkcmacglomdfcaa", sum := "16c7c4ed5a4ec31d7e92d62a0a942edf10fe08283043fb360055b290cbfdc73a", func := "cachet/cachetlaw11.TreeProofs", spec := "treeProofs", unfollowed := true, recurses := true, plainKeys := false, apart := false, narrowed := true }
def TreeProofsUptoSaid : Prop := treeProofsUptoRow.holds Try.pinned (OpenSpec.upto treeProofsSpec)

/-- 'cachetlaw11.TreeNone', WHERE WHAT IT READS IS OF BULK AT MOST 1048576: true; the input reads as it did. -/
def treeNoneUptoRow : OpenClaim := { program := "ytkcmacglomdfcaa", sum := "16c7c4ed5a4ec31d7e92d62a0a942edf10fe08283043fb360055b290cbfdc73a", func := "cachet/cachetlaw11.TreeNone", spec := "treeNone", unfollowed := true, recurses := true, plainKeys := false, apart := false, narrowed := true }
def TreeNoneUptoSaid : Prop := treeNoneUptoRow.holds Try.pinned (OpenSpec.upto treeNoneSpec)

/-- 'cachetlaw10.ProofBegins', WHERE WHAT IT READS IS OF BULK AT MOST 1048576: true; the input reads as it did. -/
def proofBeginsUptoRow : OpenClaim := { program := "ytkcmacglomdfcaa", sum := "16c7c4ed5a4ec31d7e92d62a0a942edf10fe08283043fb360055b290cbfdc73a", func := "cachet/cachetlaw10.ProofBegins", spec := "proofBegins", unfollowed := true, recurses := true, plainKeys := false, apart := false, narrowed := true }
def ProofBeginsUptoSaid : Prop := proofBeginsUptoRow.holds Try.pinned (OpenSpec.upto proofBeginsSpec)

/-- 'cachetlaw10.ProofSteps', WHERE WHAT IT READS IS OF BULK AT MOST 1048576: true; the input reads as it did. -/
def proofStepsUptoRow : OpenClaim := { program := "ytkcmacglomdfcaa", sum := "16c7c4ed5a4ec31d7e92d62a0a942edf10fe08283043fb360055b290cbfdc73a", func := "cachet/cachetlaw10.ProofSteps", spec := "proofSteps", unfollowed := true, recurses := true, plainKeys := false, apart := false, narrowed := true }
def ProofStepsUptoSaid : Prop := proofStepsUptoRow.holds Try.pinned (OpenSpec.upto proofStepsSpec)

end Rows
end Go.Proofs.Ytkcmacglomdfcaa
