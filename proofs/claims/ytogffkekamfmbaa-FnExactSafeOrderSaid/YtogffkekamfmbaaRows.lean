/-
  No cell of these rows narrows 'for every input' (looked for: loops, veiled, ifaces, maps, wideKeys, modest, calm, conditions, laid).
  DERIVED. THE GIVEN ROWS OF THIS SEAT. 12 by the template 'for every input the law returns true; each argument reads behind the call as it read before'; 0 by the template 'total and deterministic' (their statements: YtogffkekamfmbaaTotals.lean).
  GIVEN WITH THE SEED: the statements are not yours to turn. If you find one false, say at which input.
  Laid BY PROGRAM, IN A SANDBOX (cutbox-rows.mjs): the forced cells as the released guide's own fill.sh prints them over the translation 195d5d7379055eaf… (all of the seat's roots in one cut). By AI agents, Wed Nov 11 2026. No macro, syntax, notation, axiom, sorry.
-/
import Derived.Test.YtogffkekamfmbaaChecked
import GoSem.Claim
import GoSem.ClaimJoined
import GoSem.ClaimMapViews
import Derived.JoinedTies
import Derived.KernelRfl
namespace Go.Proofs.Ytogffkekamfmbaa
/- THE CELL 'sum', in the pinned program and in every row, IS THE sha256 OF THE DUMP (.gsa) THAT YtogffkekamfmbaaProg.lean LOADS. Nothing in Lean hashes anything: it is a label: what it is worth is what the hold of that sum in a sandbox is worth. -/
noncomputable def Try.pinned : Pinned := { name := "ytogffkekamfmbaa", sum := "195d5d7379055eafe56b21b429cc0c69ca623aff154c10dd3f94b7c9ff7f4291", checked := Try.checked }
namespace Rows
def none {H : Type} : Left H := { results := [], args := [] }

/-- 'laws.FnExactWalkCost': WHATEVER THE INPUT: true; the input reads as it did. -/
def fnExactWalkCostSpec : ChangeSpec := { name := "fnExactWalkCost", fn := fun _ => fun
  | [d1, d2] => { results := [.lit (.bool true)], args := [d1, d2] }
  | _ => none }
def fnExactWalkCostRow : OpenClaim := { program := "ytogffkekamfmbaa", sum := "195d5d7379055eafe56b21b429cc0c69ca623aff154c10dd3f94b7c9ff7f4291", func := "loop.example/g00681/laws.FnExactWalkCost", spec := "fnExactWalkCost", apart := false }
def FnExactWalkCostSaid : Prop := fnExactWalkCostRow.holds Try.pinned (OpenSpec.ofChange fnExactWalkCostSpec)

/-- ITS FALSE NEIGHBOUR: 'it returns false'. Refute it at one input. -/
def fnExactWalkCostWrong : ChangeSpec := { name := "fnExactWalkCost", fn := fun _ => fun
  | [d1, d2] => { results := [.lit (.bool false)], args := [d1, d2] }
  | _ => none }
def FnExactWalkCostWrongFalsely : Prop := fnExactWalkCostRow.holds Try.pinned (OpenSpec.ofChange fnExactWalkCostWrong)

/-- 'laws.FnExactHopOf': WHATEVER THE INPUT: true; the input reads as it did. -/
def fnExactHopOfSpec : ChangeSpec := { name := "fnExactHopOf", fn := fun _ => fun
  | [d1, d2, d3] => { results := [.lit (.bool true)], args := [d1, d2, d3] }
  | _ => none }
def fnExactHopOfRow : OpenClaim := { program := "ytogffkekamfmbaa", sum := "195d5d7379055eafe56b21b429cc0c69ca623aff154c10dd3f94b7c9ff7f4291", func := "loop.example/g00681/laws.FnExactHopOf", spec := "fnExactHopOf", apart := false }
def FnExactHopOfSaid : Prop := fnExactHopOfRow.holds Try.pinned (OpenSpec.ofChange fnExactHopOfSpec)

/-- ITS FALSE NEIGHBOUR: 'it returns false'. Refute it at one input. -/
def fnExactHopOfWrong : ChangeSpec := { name := "fnExactHopOf", fn := fun _ => fun
  | [d1, d2, d3] => { results := [.lit (.bool false)], args := [d1, d2, d3] }
  | _ => none }
def FnExactHopOfWrongFalsely : Prop := fnExactHopOfRow.holds Try.pinned (OpenSpec.ofChange fnExactHopOfWrong)

/-- 'laws.FnExactLoopFree': WHATEVER THE INPUT: true; the input reads as it did. -/
def fnExactLoopFreeSpec : ChangeSpec := { name := "fnExactLoopFree", fn := fun _ => fun
  | [d1, d2, d3, d4] => { results := [.lit (.bool true)], args := [d1, d2, d3, d4] }
  | _ => none }
def fnExactLoopFreeRow : OpenClaim := { program := "ytogffkekamfmbaa", sum := "195d5d7379055eafe56b21b429cc0c69ca623aff154c10dd3f94b7c9ff7f4291", func := "loop.example/g00681/laws.FnExactLoopFree", spec := "fnExactLoopFree", unfollowed := true, recurses := true, apart := false }
def FnExactLoopFreeSaid : Prop := fnExactLoopFreeRow.holds Try.pinned (OpenSpec.ofChange fnExactLoopFreeSpec)

/-- ITS FALSE NEIGHBOUR: 'it returns false'. Refute it at one input. -/
def fnExactLoopFreeWrong : ChangeSpec := { name := "fnExactLoopFree", fn := fun _ => fun
  | [d1, d2, d3, d4] => { results := [.lit (.bool false)], args := [d1, d2, d3, d4] }
  | _ => none }
def FnExactLoopFreeWrongFalsely : Prop := fnExactLoopFreeRow.holds Try.pinned (OpenSpec.ofChange fnExactLoopFreeWrong)

/-- 'laws.FnExactBestAlternate': WHATEVER THE INPUT: true; the input reads as it did. -/
def fnExactBestAlternateSpec : ChangeSpec := { name := "fnExactBestAlternate", fn := fun _ => fun
  | [d1, d2, d3, d4] => { results := [.lit (.bool true)], args := [d1, d2, d3, d4] }
  | _ => none }
def fnExactBestAlternateRow : OpenClaim := { program := "ytogffkekamfmbaa", sum := "195d5d7379055eafe56b21b429cc0c69ca623aff154c10dd3f94b7c9ff7f4291", func := "loop.example/g00681/laws.FnExactBestAlternate", spec := "fnExactBestAlternate", unfollowed := true, recurses := true, apart := false }
def FnExactBestAlternateSaid : Prop := fnExactBestAlternateRow.holds Try.pinned (OpenSpec.ofChange fnExactBestAlternateSpec)

/-- ITS FALSE NEIGHBOUR: 'it returns false'. Refute it at one input. -/
def fnExactBestAlternateWrong : ChangeSpec := { name := "fnExactBestAlternate", fn := fun _ => fun
  | [d1, d2, d3, d4] => { results := [.lit (.bool false)], args := [d1, d2, d3, d4] }
  | _ => none }
def FnExactBestAlternateWrongFalsely : Prop := fnExactBestAlternateRow.holds Try.pinned (OpenSpec.ofChange fnExactBestAlternateWrong)

/-- 'laws.FnExactNodeSafe': WHATEVER THE INPUT: true; the input reads as it did. -/
def fnExactNodeSafeSpec : ChangeSpec := { name := "fnExactNodeSafe", fn := fun _ => fun
  | [d1, d2, d3, d4, d5] => { results := [.lit (.bool true)], args := [d1, d2, d3, d4, d5] }
  | _ => none }
def fnExactNodeSafeRow : OpenClaim := { program := "ytogffkekamfmbaa", sum := "195d5d7379055eafe56b21b429cc0c69ca623aff154c10dd3f94b7c9ff7f4291", func := "loop.example/g00681/laws.FnExactNodeSafe", spec := "fnExactNodeSafe", unfollowed := true, recurses := true, apart := false }
def FnExactNodeSafeSaid : Prop := fnExactNodeSafeRow.holds Try.pinned (OpenSpec.ofChange fnExactNodeSafeSpec)

/-- ITS FALSE NEIGHBOUR: 'it returns false'. Refute it at one input. -/
def fnExactNodeSafeWrong : ChangeSpec := { name := "fnExactNodeSafe", fn := fun _ => fun
  | [d1, d2, d3, d4, d5] => { results := [.lit (.bool false)], args := [d1, d2, d3, d4, d5] }
  | _ => none }
def FnExactNodeSafeWrongFalsely : Prop := fnExactNodeSafeRow.holds Try.pinned (OpenSpec.ofChange fnExactNodeSafeWrong)

/-- 'laws.FnExactRemote': WHATEVER THE INPUT: true; the input reads as it did. -/
def fnExactRemoteSpec : ChangeSpec := { name := "fnExactRemote", fn := fun _ => fun
  | [d1, d2, d3, d4] => { results := [.lit (.bool true)], args := [d1, d2, d3, d4] }
  | _ => none }
def fnExactRemoteRow : OpenClaim := { program := "ytogffkekamfmbaa", sum := "195d5d7379055eafe56b21b429cc0c69ca623aff154c10dd3f94b7c9ff7f4291", func := "loop.example/g00681/laws.FnExactRemote", spec := "fnExactRemote", unfollowed := true, recurses := true, apart := false }
def FnExactRemoteSaid : Prop := fnExactRemoteRow.holds Try.pinned (OpenSpec.ofChange fnExactRemoteSpec)

/-- ITS FALSE NEIGHBOUR: 'it returns false'. Refute it at one input. -/
def fnExactRemoteWrong : ChangeSpec := { name := "fnExactRemote", fn := fun _ => fun
  | [d1, d2, d3, d4] => { results := [.lit (.bool false)], args := [d1, d2, d3, d4] }
  | _ => none }
def FnExactRemoteWrongFalsely : Prop := fnExactRemoteRow.holds Try.pinned (OpenSpec.ofChange fnExactRemoteWrong)

/-- 'laws.FnExactAlternates': WHATEVER THE INPUT: true; the input reads as it did. -/
def fnExactAlternatesSpec : ChangeSpec := { name := "fnExactAlternates", fn := fun _ => fun
  | [d1, d2, d3, d4] => { results := [.lit (.bool true)], args := [d1, d2, d3, d4] }
  | _ => none }
def fnExactAlternatesRow : OpenClaim := { program := "ytogffkekamfmbaa", sum := "195d5d7379055eafe56b21b429cc0c69ca623aff154c10dd3f94b7c9ff7f4291", func := "loop.example/g00681/laws.FnExactAlternates", spec := "fnExactAlternates", unfollowed := true, recurses := true, apart := false }
def FnExactAlternatesSaid : Prop := fnExactAlternatesRow.holds Try.pinned (OpenSpec.ofChange fnExactAlternatesSpec)

/-- ITS FALSE NEIGHBOUR: 'it returns false'. Refute it at one input. -/
def fnExactAlternatesWrong : ChangeSpec := { name := "fnExactAlternates", fn := fun _ => fun
  | [d1, d2, d3, d4] => { results := [.lit (.bool false)], args := [d1, d2, d3, d4] }
  | _ => none }
def FnExactAlternatesWrongFalsely : Prop := fnExactAlternatesRow.holds Try.pinned (OpenSpec.ofChange fnExactAlternatesWrong)

/-- 'laws.FnExactMixedHops': WHATEVER THE INPUT: true; the input reads as it did. -/
def fnExactMixedHopsSpec : ChangeSpec := { name := "fnExactMixedHops", fn := fun _ => fun
  | [d1, d2, d3, d4] => { results := [.lit (.bool true)], args := [d1, d2, d3, d4] }
  | _ => none }
def fnExactMixedHopsRow : OpenClaim := { program := "ytogffkekamfmbaa", sum := "195d5d7379055eafe56b21b429cc0c69ca623aff154c10dd3f94b7c9ff7f4291", func := "loop.example/g00681/laws.FnExactMixedHops", spec := "fnExactMixedHops", apart := false }
def FnExactMixedHopsSaid : Prop := fnExactMixedHopsRow.holds Try.pinned (OpenSpec.ofChange fnExactMixedHopsSpec)

/-- ITS FALSE NEIGHBOUR: 'it returns false'. Refute it at one input. -/
def fnExactMixedHopsWrong : ChangeSpec := { name := "fnExactMixedHops", fn := fun _ => fun
  | [d1, d2, d3, d4] => { results := [.lit (.bool false)], args := [d1, d2, d3, d4] }
  | _ => none }
def FnExactMixedHopsWrongFalsely : Prop := fnExactMixedHopsRow.holds Try.pinned (OpenSpec.ofChange fnExactMixedHopsWrong)

/-- 'laws.FnExactCoverage': WHATEVER THE INPUT: true; the input reads as it did. -/
def fnExactCoverageSpec : ChangeSpec := { name := "fnExactCoverage", fn := fun _ => fun
  | [d] => { results := [.lit (.bool true)], args := [d] }
  | _ => none }
def fnExactCoverageRow : OpenClaim := { program := "ytogffkekamfmbaa", sum := "195d5d7379055eafe56b21b429cc0c69ca623aff154c10dd3f94b7c9ff7f4291", func := "loop.example/g00681/laws.FnExactCoverage", spec := "fnExactCoverage", unfollowed := true, recurses := true, apart := false }
def FnExactCoverageSaid : Prop := fnExactCoverageRow.holds Try.pinned (OpenSpec.ofChange fnExactCoverageSpec)

/-- ITS FALSE NEIGHBOUR: 'it returns false'. Refute it at one input. -/
def fnExactCoverageWrong : ChangeSpec := { name := "fnExactCoverage", fn := fun _ => fun
  | [d] => { results := [.lit (.bool false)], args := [d] }
  | _ => none }
def FnExactCoverageWrongFalsely : Prop := fnExactCoverageRow.holds Try.pinned (OpenSpec.ofChange fnExactCoverageWrong)

/-- 'laws.FnExactFirstLoop': WHATEVER THE INPUT: true; the input reads as it did. -/
def fnExactFirstLoopSpec : ChangeSpec := { name := "fnExactFirstLoop", fn := fun _ => fun
  | [d1, d2, d3, d4] => { results := [.lit (.bool true)], args := [d1, d2, d3, d4] }
  | _ => none }
def fnExactFirstLoopRow : OpenClaim := { program := "ytogffkekamfmbaa", sum := "195d5d7379055eafe56b21b429cc0c69ca623aff154c10dd3f94b7c9ff7f4291", func := "loop.example/g00681/laws.FnExactFirstLoop", spec := "fnExactFirstLoop", apart := false }
def FnExactFirstLoopSaid : Prop := fnExactFirstLoopRow.holds Try.pinned (OpenSpec.ofChange fnExactFirstLoopSpec)

/-- ITS FALSE NEIGHBOUR: 'it returns false'. Refute it at one input. -/
def fnExactFirstLoopWrong : ChangeSpec := { name := "fnExactFirstLoop", fn := fun _ => fun
  | [d1, d2, d3, d4] => { results := [.lit (.bool false)], args := [d1, d2, d3, d4] }
  | _ => none }
def FnExactFirstLoopWrongFalsely : Prop := fnExactFirstLoopRow.holds Try.pinned (OpenSpec.ofChange fnExactFirstLoopWrong)

/-- 'laws.FnExactSafeOrder': WHATEVER THE INPUT: true; the input reads as it did. -/
def fnExactSafeOrderSpec : ChangeSpec := { name := "fnExactSafeOrder", fn := fun _ => fun
  | [d1, d2] => { results := [.lit (.bool true)], args := [d1, d2] }
  | _ => none }
def fnExactSafeOrderRow : OpenClaim := { program := "ytogffkekamfmbaa", sum := "195d5d7379055eafe56b21b429cc0c69ca623aff154c10dd3f94b7c9ff7f4291", func := "loop.example/g00681/laws.FnExactSafeOrder", spec := "fnExactSafeOrder", unfollowed := true, recurses := true, apart := false }
def FnExactSafeOrderSaid : Prop := fnExactSafeOrderRow.holds Try.pinned (OpenSpec.ofChange fnExactSafeOrderSpec)

/-- ITS FALSE NEIGHBOUR: 'it returns false'. Refute it at one input. -/
def fnExactSafeOrderWrong : ChangeSpec := { name := "fnExactSafeOrder", fn := fun _ => fun
  | [d1, d2] => { results := [.lit (.bool false)], args := [d1, d2] }
  | _ => none }
def FnExactSafeOrderWrongFalsely : Prop := fnExactSafeOrderRow.holds Try.pinned (OpenSpec.ofChange fnExactSafeOrderWrong)

/-- 'laws.FnSafeOrder': WHATEVER THE INPUT: true; the input reads as it did. -/
def fnSafeOrderSpec : ChangeSpec := { name := "fnSafeOrder", fn := fun _ => fun
  | [d] => { results := [.lit (.bool true)], args := [d] }
  | _ => none }
def fnSafeOrderRow : OpenClaim := { program := "ytogffkekamfmbaa", sum := "195d5d7379055eafe56b21b429cc0c69ca623aff154c10dd3f94b7c9ff7f4291", func := "loop.example/g00681/laws.FnSafeOrder", spec := "fnSafeOrder", unfollowed := true, recurses := true, apart := false }
def FnSafeOrderSaid : Prop := fnSafeOrderRow.holds Try.pinned (OpenSpec.ofChange fnSafeOrderSpec)

/-- ITS FALSE NEIGHBOUR: 'it returns false'. Refute it at one input. -/
def fnSafeOrderWrong : ChangeSpec := { name := "fnSafeOrder", fn := fun _ => fun
  | [d] => { results := [.lit (.bool false)], args := [d] }
  | _ => none }
def FnSafeOrderWrongFalsely : Prop := fnSafeOrderRow.holds Try.pinned (OpenSpec.ofChange fnSafeOrderWrong)

/- THE SECOND FORM. 'bulk': how many values and letters a reading holds, each counted each time it is reached (what is shared counts as often as it is met; a slice's spare places count too). A statement '..UptoSaid' is the law's where the arguments, and the package variables that the reading takes, are together of bulk at most 1048576: NARROWER than '..Said'. Prove '..Said' where nothing that the law and all that it calls make is longer than what came in: it says more and counts as full. Else prove '..UptoSaid'. A law counts once. -/
mutual
def uptoBulk {H : Type} : DataW H → Nat
  | .lit (.string bytes) => bytes.length + 1
  | .lit _ => 1
  | .nil => 1
  | .ptr d => uptoBulk d + 1
  | .slice elems spare => uptoBulkAll elems + uptoBulkAll spare + 1
  | .agg parts => uptoBulkAll parts + 1
  | .iface _ d => uptoBulk d + 1
  | .map entries => uptoBulkEntries entries + 1
  | .held _ => 1
def uptoBulkAll {H : Type} : List (DataW H) → Nat
  | [] => 0
  | d :: r => uptoBulk d + uptoBulkAll r
def uptoBulkEntries {H : Type} : List (Lit × DataW H) → Nat
  | [] => 0
  | x :: r => uptoBulkEntry x + uptoBulkEntries r
def uptoBulkEntry {H : Type} : Lit × DataW H → Nat
  | (.string bytes, d) => bytes.length + uptoBulk d + 1
  | (_, d) => uptoBulk d + 1
 end
def uptoSmall : (H : Type) → List (DataW H) → Bool := fun _ ds => decide (uptoBulkAll ds ≤ 1048576)
def OpenSpec.upto (s : _root_.Go.ChangeSpec) : _root_.Go.OpenSpec := { _root_.Go.OpenSpec.ofChange s with cond := some uptoSmall }

/-- 'laws.FnExactWalkCost', WHERE WHAT IT READS IS OF BULK AT MOST 1048576: true; the input reads as it did. -/
def fnExactWalkCostUptoRow : OpenClaim := { program := "ytogffkekamfmbaa", sum := "195d5d7379055eafe56b21b429cc0c69ca623aff154c10dd3f94b7c9ff7f4291", func := "loop.example/g00681/laws.FnExactWalkCost", spec := "fnExactWalkCost", apart := false, narrowed := true }
def FnExactWalkCostUptoSaid : Prop := fnExactWalkCostUptoRow.holds Try.pinned (OpenSpec.upto fnExactWalkCostSpec)

/-- 'laws.FnExactHopOf', WHERE WHAT IT READS IS OF BULK AT MOST 1048576: true; the input reads as it did. -/
def fnExactHopOfUptoRow : OpenClaim := { program := "ytogffkekamfmbaa", sum := "195d5d7379055eafe56b21b429cc0c69ca623aff154c10dd3f94b7c9ff7f4291", func := "loop.example/g00681/laws.FnExactHopOf", spec := "fnExactHopOf", apart := false, narrowed := true }
def FnExactHopOfUptoSaid : Prop := fnExactHopOfUptoRow.holds Try.pinned (OpenSpec.upto fnExactHopOfSpec)

/-- 'laws.FnExactLoopFree', WHERE WHAT IT READS IS OF BULK AT MOST 1048576: true; the input reads as it did. -/
def fnExactLoopFreeUptoRow : OpenClaim := { program := "ytogffkekamfmbaa", sum := "195d5d7379055eafe56b21b429cc0c69ca623aff154c10dd3f94b7c9ff7f4291", func := "loop.example/g00681/laws.FnExactLoopFree", spec := "fnExactLoopFree", unfollowed := true, recurses := true, apart := false, narrowed := true }
def FnExactLoopFreeUptoSaid : Prop := fnExactLoopFreeUptoRow.holds Try.pinned (OpenSpec.upto fnExactLoopFreeSpec)

/-- 'laws.FnExactBestAlternate', WHERE WHAT IT READS IS OF BULK AT MOST 1048576: true; the input reads as it did. -/
def fnExactBestAlternateUptoRow : OpenClaim := { program := "ytogffkekamfmbaa", sum := "195d5d7379055eafe56b21b429cc0c69ca623aff154c10dd3f94b7c9ff7f4291", func := "loop.example/g00681/laws.FnExactBestAlternate", spec := "fnExactBestAlternate", unfollowed := true, recurses := true, apart := false, narrowed := true }
def FnExactBestAlternateUptoSaid : Prop := fnExactBestAlternateUptoRow.holds Try.pinned (OpenSpec.upto fnExactBestAlternateSpec)

/-- 'laws.FnExactNodeSafe', WHERE WHAT IT READS IS OF BULK AT MOST 1048576: true; the input reads as it did. -/
def fnExactNodeSafeUptoRow : OpenClaim := { program := "ytogffkekamfmbaa", sum := "195d5d7379055eafe56b21b429cc0c69ca623aff154c10dd3f94b7c9ff7f4291", func := "loop.example/g00681/laws.FnExactNodeSafe", spec := "fnExactNodeSafe", unfollowed := true, recurses := true, apart := false, narrowed := true }
def FnExactNodeSafeUptoSaid : Prop := fnExactNodeSafeUptoRow.holds Try.pinned (OpenSpec.upto fnExactNodeSafeSpec)

/-- 'laws.FnExactRemote', WHERE WHAT IT READS IS OF BULK AT MOST 1048576: true; the input reads as it did. -/
def fnExactRemoteUptoRow : OpenClaim := { program := "ytogffkekamfmbaa", sum := "195d5d7379055eafe56b21b429cc0c69ca623aff154c10dd3f94b7c9ff7f4291", func := "loop.example/g00681/laws.FnExactRemote", spec := "fnExactRemote", unfollowed := true, recurses := true, apart := false, narrowed := true }
def FnExactRemoteUptoSaid : Prop := fnExactRemoteUptoRow.holds Try.pinned (OpenSpec.upto fnExactRemoteSpec)

/-- 'laws.FnExactAlternates', WHERE WHAT IT READS IS OF BULK AT MOST 1048576: true; the input reads as it did. -/
def fnExactAlternatesUptoRow : OpenClaim := { program := "ytogffkekamfmbaa", sum := "195d5d7379055eafe56b21b429cc0c69ca623aff154c10dd3f94b7c9ff7f4291", func := "loop.example/g00681/laws.FnExactAlternates", spec := "fnExactAlternates", unfollowed := true, recurses := true, apart := false, narrowed := true }
def FnExactAlternatesUptoSaid : Prop := fnExactAlternatesUptoRow.holds Try.pinned (OpenSpec.upto fnExactAlternatesSpec)

/-- 'laws.FnExactMixedHops', WHERE WHAT IT READS IS OF BULK AT MOST 1048576: true; the input reads as it did. -/
def fnExactMixedHopsUptoRow : OpenClaim := { program := "ytogffkekamfmbaa", sum := "195d5d7379055eafe56b21b429cc0c69ca623aff154c10dd3f94b7c9ff7f4291", func := "loop.example/g00681/laws.FnExactMixedHops", spec := "fnExactMixedHops", apart := false, narrowed := true }
def FnExactMixedHopsUptoSaid : Prop := fnExactMixedHopsUptoRow.holds Try.pinned (OpenSpec.upto fnExactMixedHopsSpec)

/-- 'laws.FnExactCoverage', WHERE WHAT IT READS IS OF BULK AT MOST 1048576: true; the input reads as it did. -/
def fnExactCoverageUptoRow : OpenClaim := { program := "ytogffkekamfmbaa", sum := "195d5d7379055eafe56b21b429cc0c69ca623aff154c10dd3f94b7c9ff7f4291", func := "loop.example/g00681/laws.FnExactCoverage", spec := "fnExactCoverage", unfollowed := true, recurses := true, apart := false, narrowed := true }
def FnExactCoverageUptoSaid : Prop := fnExactCoverageUptoRow.holds Try.pinned (OpenSpec.upto fnExactCoverageSpec)

/-- 'laws.FnExactFirstLoop', WHERE WHAT IT READS IS OF BULK AT MOST 1048576: true; the input reads as it did. -/
def fnExactFirstLoopUptoRow : OpenClaim := { program := "ytogffkekamfmbaa", sum := "195d5d7379055eafe56b21b429cc0c69ca623aff154c10dd3f94b7c9ff7f4291", func := "loop.example/g00681/laws.FnExactFirstLoop", spec := "fnExactFirstLoop", apart := false, narrowed := true }
def FnExactFirstLoopUptoSaid : Prop := fnExactFirstLoopUptoRow.holds Try.pinned (OpenSpec.upto fnExactFirstLoopSpec)

/-- 'laws.FnExactSafeOrder', WHERE WHAT IT READS IS OF BULK AT MOST 1048576: true; the input reads as it did. -/
def fnExactSafeOrderUptoRow : OpenClaim := { program := "ytogffkekamfmbaa", sum := "195d5d7379055eafe56b21b429cc0c69ca623aff154c10dd3f94b7c9ff7f4291", func := "loop.example/g00681/laws.FnExactSafeOrder", spec := "fnExactSafeOrder", unfollowed := true, recurses := true, apart := false, narrowed := true }
def FnExactSafeOrderUptoSaid : Prop := fnExactSafeOrderUptoRow.holds Try.pinned (OpenSpec.upto fnExactSafeOrderSpec)

/-- 'laws.FnSafeOrder', WHERE WHAT IT READS IS OF BULK AT MOST 1048576: true; the input reads as it did. -/
def fnSafeOrderUptoRow : OpenClaim := { program := "ytogffkekamfmbaa", sum := "195d5d7379055eafe56b21b429cc0c69ca623aff154c10dd3f94b7c9ff7f4291", func := "loop.example/g00681/laws.FnSafeOrder", spec := "fnSafeOrder", unfollowed := true, recurses := true, apart := false, narrowed := true }
def FnSafeOrderUptoSaid : Prop := fnSafeOrderUptoRow.holds Try.pinned (OpenSpec.upto fnSafeOrderSpec)

end Rows
end Go.Proofs.Ytogffkekamfmbaa
