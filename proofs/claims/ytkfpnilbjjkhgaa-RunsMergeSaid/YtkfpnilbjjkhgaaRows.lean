/-
  No cell of these rows narrows 'for every input' (looked for: loops, veiled, ifaces, maps, wideKeys, modest, calm, conditions, laid).
  DERIVED. THE GIVEN ROWS OF THIS SEAT. 5 by the template 'for every input the law returns true; each argument reads behind the call as it read before'; 0 by the template 'total and deterministic' (their statements: YtkfpnilbjjkhgaaTotals.lean).
  GIVEN WITH THE SEED: the statements are not yours to turn. If you find one false, say at which input.
  Laid BY PROGRAM, IN A SANDBOX (cutbox-rows.mjs): the forced cells as the released guide's own fill.sh prints them over the translation d8964db618b10dad… (all of the seat's roots in one cut). By AI agents, Wed Nov 11 2026. No macro, syntax, notation, axiom, sorry.
-/
import Derived.Test.YtkfpnilbjjkhgaaChecked
import GoSem.Claim
import GoSem.ClaimJoined
import GoSem.ClaimMapViews
import Derived.JoinedTies
import Derived.KernelRfl
namespace Go.Proofs.Ytkfpnilbjjkhgaa
/- THE CELL 'sum', in the pinned program and in every row, IS THE sha256 OF THE DUMP (.gsa) THAT YtkfpnilbjjkhgaaProg.lean LOADS. Nothing in Lean hashes anything: it is a label: what it is worth is what the hold of that sum in a sandbox is worth. -/
noncomputable def Try.pinned : Pinned := { name := "ytkfpnilbjjkhgaa", sum := "d8964db618b10dadc2be66f31df96debe312ac9a5dd7beee31cd909a9a06b708", checked := Try.checked }
namespace Rows
def none {H : Type} : Left H := { results := [], args := [] }

/-- 'cachetlaw19.RunsNew': WHATEVER THE INPUT: true; the input reads as it did. -/
def runsNewSpec : ChangeSpec := { name := "runsNew", fn := fun _ => fun
  | [d] => { results := [.lit (.bool true)], args := [d] }
  | _ => none }
def runsNewRow : OpenClaim := { program := "ytkfpnilbjjkhgaa", sum := "d8964db618b10dadc2be66f31df96debe312ac9a5dd7beee31cd909a9a06b708", func := "cachet/cachetlaw19.RunsNew", spec := "runsNew", inPlace := ["internal/bytealg.abigen_runtime_cmpstring"], unfollowed := true, recurses := true, apart := false }
def RunsNewSaid : Prop := runsNewRow.holds Try.pinned (OpenSpec.ofChange runsNewSpec)

/-- ITS FALSE NEIGHBOUR: 'it returns false'. Refute it at one input. -/
def runsNewWrong : ChangeSpec := { name := "runsNew", fn := fun _ => fun
  | [d] => { results := [.lit (.bool false)], args := [d] }
  | _ => none }
def RunsNewWrongFalsely : Prop := runsNewRow.holds Try.pinned (OpenSpec.ofChange runsNewWrong)

/-- 'cachetlaw19.RunsPlaces': WHATEVER THE INPUT: true; the input reads as it did. -/
def runsPlacesSpec : ChangeSpec := { name := "runsPlaces", fn := fun _ => fun
  | [d] => { results := [.lit (.bool true)], args := [d] }
  | _ => none }
def runsPlacesRow : OpenClaim := { program := "ytkfpnilbjjkhgaa", sum := "d8964db618b10dadc2be66f31df96debe312ac9a5dd7beee31cd909a9a06b708", func := "cachet/cachetlaw19.RunsPlaces", spec := "runsPlaces", inPlace := ["internal/bytealg.abigen_runtime_cmpstring"], unfollowed := true, recurses := true, apart := false }
def RunsPlacesSaid : Prop := runsPlacesRow.holds Try.pinned (OpenSpec.ofChange runsPlacesSpec)

/-- ITS FALSE NEIGHBOUR: 'it returns false'. Refute it at one input. -/
def runsPlacesWrong : ChangeSpec := { name := "runsPlaces", fn := fun _ => fun
  | [d] => { results := [.lit (.bool false)], args := [d] }
  | _ => none }
def RunsPlacesWrongFalsely : Prop := runsPlacesRow.holds Try.pinned (OpenSpec.ofChange runsPlacesWrong)

/-- 'cachetlaw19.RunsMerge': WHATEVER THE INPUT: true; the input reads as it did. -/
def runsMergeSpec : ChangeSpec := { name := "runsMerge", fn := fun _ => fun
  | [d] => { results := [.lit (.bool true)], args := [d] }
  | _ => none }
def runsMergeRow : OpenClaim := { program := "ytkfpnilbjjkhgaa", sum := "d8964db618b10dadc2be66f31df96debe312ac9a5dd7beee31cd909a9a06b708", func := "cachet/cachetlaw19.RunsMerge", spec := "runsMerge", inPlace := ["internal/bytealg.abigen_runtime_cmpstring"], unfollowed := true, recurses := true, apart := false }
def RunsMergeSaid : Prop := runsMergeRow.holds Try.pinned (OpenSpec.ofChange runsMergeSpec)

/-- ITS FALSE NEIGHBOUR: 'it returns false'. Refute it at one input. -/
def runsMergeWrong : ChangeSpec := { name := "runsMerge", fn := fun _ => fun
  | [d] => { results := [.lit (.bool false)], args := [d] }
  | _ => none }
def RunsMergeWrongFalsely : Prop := runsMergeRow.holds Try.pinned (OpenSpec.ofChange runsMergeWrong)

/-- 'cachetlaw19.RunsOrder': WHATEVER THE INPUT: true; the input reads as it did. -/
def runsOrderSpec : ChangeSpec := { name := "runsOrder", fn := fun _ => fun
  | [d1, d2, d3] => { results := [.lit (.bool true)], args := [d1, d2, d3] }
  | _ => none }
def runsOrderRow : OpenClaim := { program := "ytkfpnilbjjkhgaa", sum := "d8964db618b10dadc2be66f31df96debe312ac9a5dd7beee31cd909a9a06b708", func := "cachet/cachetlaw19.RunsOrder", spec := "runsOrder", inPlace := ["internal/bytealg.abigen_runtime_cmpstring"], unfollowed := true, recurses := true, apart := false }
def RunsOrderSaid : Prop := runsOrderRow.holds Try.pinned (OpenSpec.ofChange runsOrderSpec)

/-- ITS FALSE NEIGHBOUR: 'it returns false'. Refute it at one input. -/
def runsOrderWrong : ChangeSpec := { name := "runsOrder", fn := fun _ => fun
  | [d1, d2, d3] => { results := [.lit (.bool false)], args := [d1, d2, d3] }
  | _ => none }
def RunsOrderWrongFalsely : Prop := runsOrderRow.holds Try.pinned (OpenSpec.ofChange runsOrderWrong)

/-- 'cachetlaw19.RunsBoth': WHATEVER THE INPUT: true; the input reads as it did. -/
def runsBothSpec : ChangeSpec := { name := "runsBoth", fn := fun _ => fun
  | [d1, d2] => { results := [.lit (.bool true)], args := [d1, d2] }
  | _ => none }
def runsBothRow : OpenClaim := { program := "ytkfpnilbjjkhgaa", sum := "d8964db618b10dadc2be66f31df96debe312ac9a5dd7beee31cd909a9a06b708", func := "cachet/cachetlaw19.RunsBoth", spec := "runsBoth", inPlace := ["internal/bytealg.abigen_runtime_cmpstring"], unfollowed := true, recurses := true, apart := false }
def RunsBothSaid : Prop := runsBothRow.holds Try.pinned (OpenSpec.ofChange runsBothSpec)

/-- ITS FALSE NEIGHBOUR: 'it returns false'. Refute it at one input. -/
def runsBothWrong : ChangeSpec := { name := "runsBoth", fn := fun _ => fun
  | [d1, d2] => { results := [.lit (.bool false)], args := [d1, d2] }
  | _ => none }
def RunsBothWrongFalsely : Prop := runsBothRow.holds Try.pinned (OpenSpec.ofChange runsBothWrong)

/- THE SECOND FORM. 'bulk': how many values and letters a reading holds, each counted each time it is reached (what is shared counts as often as it is met; a slice's spare places count too). A statement '..UptoSaid' is the law's where the arguments, and the package variables that the reading takes, are together of bulk at most 1048576: NARROWER than '..Said'. Prove '..Said' where nothing that the law and all that it calls make is longer than what came in: it says more and counts as full. Else prove '..UptoSaid'. A law counts once. -/
mutual
def uptoBulk {H : Type} : DataW H → Nat
  | .lit (.string bytes) => bytes.length + 1
  | .lit _ => 1
  | .nil => 1
  | .ptr d => uptoBulk d + 1
  | .slice elems spare => uptoBulkAll elems + uptoBulkAll spare + 1
  | .agg parts => uptoBulkAll parts + 1
  | .iface _ d => uptoBulk d + 1
  | .map entries => uptoBulkEntries entries + 1
  | .held _ => 1
def uptoBulkAll {H : Type} : List (DataW H) → Nat
  | [] => 0
  | d :: r => uptoBulk d + uptoBulkAll r
def uptoBulkEntries {H : Type} : List (Lit × DataW H) → Nat
  | [] => 0
  | x :: r => uptoBulkEntry x + uptoBulkEntries r
def uptoBulkEntry {H : Type} : Lit × DataW H → Nat
  | (.string bytes, d) => bytes.length + uptoBulk d + 1
  | (_, d) => uptoBulk d + 1
 end
def uptoSmall : (H : Type) → List (DataW H) → Bool := fun _ ds => decide (uptoBulkAll ds ≤ 1048576)
def OpenSpec.upto (s : _root_.Go.ChangeSpec) : _root_.Go.OpenSpec := { _root_.Go.OpenSpec.ofChange s with cond := some uptoSmall }

/-- 'cachetlaw19.RunsNew', WHERE WHAT IT READS IS OF BULK AT MOST 1048576: true; the input reads as it did. -/
def runsNewUptoRow : OpenClaim := { program := "ytkfpnilbjjkhgaa", sum := "d8964db618b10dadc2be66f31df96debe312ac9a5dd7beee31cd909a9a06b708", func := "cachet/cachetlaw19.RunsNew", spec := "runsNew", inPlace := ["internal/bytealg.abigen_runtime_cmpstring"], unfollowed := true, recurses := true, apart := false, narrowed := true }
def RunsNewUptoSaid : Prop := runsNewUptoRow.holds Try.pinned (OpenSpec.upto runsNewSpec)

/-- 'cachetlaw19.RunsPlaces', WHERE WHAT IT READS IS OF BULK AT MOST 1048576: true; the input reads as it did. -/
def runsPlacesUptoRow : OpenClaim := { program := "ytkfpnilbjjkhgaa", sum := "d8964db618b10dadc2be66f31df96debe312ac9a5dd7beee31cd909a9a06b708", func := "cachet/cachetlaw19.RunsPlaces", spec := "runsPlaces", inPlace := ["internal/bytealg.abigen_runtime_cmpstring"], unfollowed := true, recurses := true, apart := false, narrowed := true }
def RunsPlacesUptoSaid : Prop := runsPlacesUptoRow.holds Try.pinned (OpenSpec.upto runsPlacesSpec)

/-- 'cachetlaw19.RunsMerge', WHERE WHAT IT READS IS OF BULK AT MOST 1048576: true; the input reads as it did. -/
def runsMergeUptoRow : OpenClaim := { program := "ytkfpnilbjjkhgaa", sum := "d8964db618b10dadc2be66f31df96debe312ac9a5dd7beee31cd909a9a06b708", func := "cachet/cachetlaw19.RunsMerge", spec := "runsMerge", inPlace := ["internal/bytealg.abigen_runtime_cmpstring"], unfollowed := true, recurses := true, apart := false, narrowed := true }
def RunsMergeUptoSaid : Prop := runsMergeUptoRow.holds Try.pinned (OpenSpec.upto runsMergeSpec)

/-- 'cachetlaw19.RunsOrder', WHERE WHAT IT READS IS OF BULK AT MOST 1048576: true; the input reads as it did. -/
def runsOrderUptoRow : OpenClaim := { program := "ytkfpnilbjjkhgaa", sum := "d8964db618b10dadc2be66f31df96debe312ac9a5dd7beee31cd909a9a06b708", func := "cachet/cachetlaw19.RunsOrder", spec := "runsOrder", inPlace := ["internal/bytealg.abigen_runtime_cmpstring"], unfollowed := true, recurses := true, apart := false, narrowed := true }
def RunsOrderUptoSaid : Prop := runsOrderUptoRow.holds Try.pinned (OpenSpec.upto runsOrderSpec)

/-- 'cachetlaw19.RunsBoth', WHERE WHAT IT READS IS OF BULK AT MOST 1048576: true; the input reads as it did. -/
def runsBothUptoRow : OpenClaim := { program := "ytkfpnilbjjkhgaa", sum := "d8964db618b10dadc2be66f31df96debe312ac9a5dd7beee31cd909a9a06b708", func := "cachet/cachetlaw19.RunsBoth", spec := "runsBoth", inPlace := ["internal/bytealg.abigen_runtime_cmpstring"], unfollowed := true, recurses := true, apart := false, narrowed := true }
def RunsBothUptoSaid : Prop := runsBothUptoRow.holds Try.pinned (OpenSpec.upto runsBothSpec)

end Rows
end Go.Proofs.Ytkfpnilbjjkhgaa
