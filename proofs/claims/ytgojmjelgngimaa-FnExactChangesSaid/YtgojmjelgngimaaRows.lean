/-
  No cell of these rows narrows 'for every input' (looked for: loops, veiled, ifaces, maps, wideKeys, modest, calm, conditions, laid).
  DERIVED. THE GIVEN ROWS OF THIS SEAT. 6 by the template 'for every input the law returns true; each argument reads behind the call as it read before'; 0 by the template 'total and deterministic' (their statements: YtgojmjelgngimaaTotals.lean).
  GIVEN WITH THE SEED: the statements are not yours to turn. If you find one false, say at which input.
  Laid BY PROGRAM, IN A SANDBOX (cutbox-rows.mjs): the forced cells as the released guide's own fill.sh prints them over the translation 0e6d0e4ff10f8994… (all of the seat's roots in one cut). By AI agents, Wed Nov 11 2026. No macro, syntax, notation, axiom, sorry.
-/
import Derived.Test.YtgojmjelgngimaaChecked
import GoSem.Claim
import GoSem.ClaimJoined
import GoSem.ClaimMapViews
import Derived.JoinedTies
import Derived.KernelRfl
namespace Go.Proofs.Ytgojmjelgngimaa
/- THE CELL 'sum', in the pinned program and in every row, IS THE sha256 OF THE DUMP (.gsa) THAT YtgojmjelgngimaaProg.lean LOADS. Nothing in Lean hashes anything: it is a label: what it is worth is what the hold of that sum in a sandbox is worth. -/
noncomputable def Try.pinned : Pinned := { name := "ytgojmjelgngimaa", sum := "0e6d0e4ff10f8994f795d2437749553bfb088a491051dde97933f9f3fc26dd41", checked := Try.checked }
namespace Rows
def none {H : Type} : Left H := { results := [], args := [] }

/-- 'laws.FnExactNearOk': WHATEVER THE INPUT: true; the input reads as it did. -/
def fnExactNearOkSpec : ChangeSpec := { name := "fnExactNearOk", fn := fun _ => fun
  | [d] => { results := [.lit (.bool true)], args := [d] }
  | _ => none }
def fnExactNearOkRow : OpenClaim := { program := "ytgojmjelgngimaa", sum := "0e6d0e4ff10f8994f795d2437749553bfb088a491051dde97933f9f3fc26dd41", func := "loop.example/g00681/laws.FnExactNearOk", spec := "fnExactNearOk", apart := false }
def FnExactNearOkSaid : Prop := fnExactNearOkRow.holds Try.pinned (OpenSpec.ofChange fnExactNearOkSpec)

/-- ITS FALSE NEIGHBOUR: 'it returns false'. Refute it at one input. -/
def fnExactNearOkWrong : ChangeSpec := { name := "fnExactNearOk", fn := fun _ => fun
  | [d] => { results := [.lit (.bool false)], args := [d] }
  | _ => none }
def FnExactNearOkWrongFalsely : Prop := fnExactNearOkRow.holds Try.pinned (OpenSpec.ofChange fnExactNearOkWrong)

/-- 'laws.FnExactDeadAt': WHATEVER THE INPUT: true; the input reads as it did. -/
def fnExactDeadAtSpec : ChangeSpec := { name := "fnExactDeadAt", fn := fun _ => fun
  | [d] => { results := [.lit (.bool true)], args := [d] }
  | _ => none }
def fnExactDeadAtRow : OpenClaim := { program := "ytgojmjelgngimaa", sum := "0e6d0e4ff10f8994f795d2437749553bfb088a491051dde97933f9f3fc26dd41", func := "loop.example/g00681/laws.FnExactDeadAt", spec := "fnExactDeadAt", apart := false }
def FnExactDeadAtSaid : Prop := fnExactDeadAtRow.holds Try.pinned (OpenSpec.ofChange fnExactDeadAtSpec)

/-- ITS FALSE NEIGHBOUR: 'it returns false'. Refute it at one input. -/
def fnExactDeadAtWrong : ChangeSpec := { name := "fnExactDeadAt", fn := fun _ => fun
  | [d] => { results := [.lit (.bool false)], args := [d] }
  | _ => none }
def FnExactDeadAtWrongFalsely : Prop := fnExactDeadAtRow.holds Try.pinned (OpenSpec.ofChange fnExactDeadAtWrong)

/-- 'laws.FnExactLoopsIn': WHATEVER THE INPUT: true; the input reads as it did. -/
def fnExactLoopsInSpec : ChangeSpec := { name := "fnExactLoopsIn", fn := fun _ => fun
  | [d1, d2] => { results := [.lit (.bool true)], args := [d1, d2] }
  | _ => none }
def fnExactLoopsInRow : OpenClaim := { program := "ytgojmjelgngimaa", sum := "0e6d0e4ff10f8994f795d2437749553bfb088a491051dde97933f9f3fc26dd41", func := "loop.example/g00681/laws.FnExactLoopsIn", spec := "fnExactLoopsIn", apart := false }
def FnExactLoopsInSaid : Prop := fnExactLoopsInRow.holds Try.pinned (OpenSpec.ofChange fnExactLoopsInSpec)

/-- ITS FALSE NEIGHBOUR: 'it returns false'. Refute it at one input. -/
def fnExactLoopsInWrong : ChangeSpec := { name := "fnExactLoopsIn", fn := fun _ => fun
  | [d1, d2] => { results := [.lit (.bool false)], args := [d1, d2] }
  | _ => none }
def FnExactLoopsInWrongFalsely : Prop := fnExactLoopsInRow.holds Try.pinned (OpenSpec.ofChange fnExactLoopsInWrong)

/-- 'laws.FnExactStepNear': WHATEVER THE INPUT: true; the input reads as it did. -/
def fnExactStepNearSpec : ChangeSpec := { name := "fnExactStepNear", fn := fun _ => fun
  | [d1, d2] => { results := [.lit (.bool true)], args := [d1, d2] }
  | _ => none }
def fnExactStepNearRow : OpenClaim := { program := "ytgojmjelgngimaa", sum := "0e6d0e4ff10f8994f795d2437749553bfb088a491051dde97933f9f3fc26dd41", func := "loop.example/g00681/laws.FnExactStepNear", spec := "fnExactStepNear", apart := false }
def FnExactStepNearSaid : Prop := fnExactStepNearRow.holds Try.pinned (OpenSpec.ofChange fnExactStepNearSpec)

/-- ITS FALSE NEIGHBOUR: 'it returns false'. Refute it at one input. -/
def fnExactStepNearWrong : ChangeSpec := { name := "fnExactStepNear", fn := fun _ => fun
  | [d1, d2] => { results := [.lit (.bool false)], args := [d1, d2] }
  | _ => none }
def FnExactStepNearWrongFalsely : Prop := fnExactStepNearRow.holds Try.pinned (OpenSpec.ofChange fnExactStepNearWrong)

/-- 'laws.FnExactWalkCost': WHATEVER THE INPUT: true; the input reads as it did. -/
def fnExactWalkCostSpec : ChangeSpec := { name := "fnExactWalkCost", fn := fun _ => fun
  | [d1, d2] => { results := [.lit (.bool true)], args := [d1, d2] }
  | _ => none }
def fnExactWalkCostRow : OpenClaim := { program := "ytgojmjelgngimaa", sum := "0e6d0e4ff10f8994f795d2437749553bfb088a491051dde97933f9f3fc26dd41", func := "loop.example/g00681/laws.FnExactWalkCost", spec := "fnExactWalkCost", apart := false }
def FnExactWalkCostSaid : Prop := fnExactWalkCostRow.holds Try.pinned (OpenSpec.ofChange fnExactWalkCostSpec)

/-- ITS FALSE NEIGHBOUR: 'it returns false'. Refute it at one input. -/
def fnExactWalkCostWrong : ChangeSpec := { name := "fnExactWalkCost", fn := fun _ => fun
  | [d1, d2] => { results := [.lit (.bool false)], args := [d1, d2] }
  | _ => none }
def FnExactWalkCostWrongFalsely : Prop := fnExactWalkCostRow.holds Try.pinned (OpenSpec.ofChange fnExactWalkCostWrong)

/-- 'laws.FnExactChanges': WHATEVER THE INPUT: true; the input reads as it did. -/
def fnExactChangesSpec : ChangeSpec := { name := "fnExactChanges", fn := fun _ => fun
  | [d] => { results := [.lit (.bool true)], args := [d] }
  | _ => none }
def fnExactChangesRow : OpenClaim := { program := "ytgojmjelgngimaa", sum := "0e6d0e4ff10f8994f795d2437749553bfb088a491051dde97933f9f3fc26dd41", func := "loop.example/g00681/laws.FnExactChanges", spec := "fnExactChanges", unfollowed := true, recurses := true, apart := false }
def FnExactChangesSaid : Prop := fnExactChangesRow.holds Try.pinned (OpenSpec.ofChange fnExactChangesSpec)

/-- ITS FALSE NEIGHBOUR: 'it returns false'. Refute it at one input. -/
def fnExactChangesWrong : ChangeSpec := { name := "fnExactChanges", fn := fun _ => fun
  | [d] => { results := [.lit (.bool false)], args := [d] }
  | _ => none }
def FnExactChangesWrongFalsely : Prop := fnExactChangesRow.holds Try.pinned (OpenSpec.ofChange fnExactChangesWrong)

/- THE SECOND FORM. 'bulk': how many values and letters a reading holds, each counted each time it is reached (what is shared counts as often as it is met; a slice's spare places count too). A statement '..UptoSaid' is the law's where the arguments, and the package variables that the reading takes, are together of bulk at most 1048576: NARROWER than '..Said'. Prove '..Said' where nothing that the law and all that it calls make is longer than what came in: it says more and counts as full. Else prove '..UptoSaid'. A law counts once. -/
mutual
def uptoBulk {H : Type} : DataW H → Nat
  | .lit (.string bytes) => bytes.length + 1
  | .lit _ => 1
  | .nil => 1
  | .ptr d => uptoBulk d + 1
  | .slice elems spare => uptoBulkAll elems + uptoBulkAll spare + 1
  | .agg parts => uptoBulkAll parts + 1
  | .iface _ d => uptoBulk d + 1
  | .map entries => uptoBulkEntries entries + 1
  | .held _ => 1
def uptoBulkAll {H : Type} : List (DataW H) → Nat
  | [] => 0
  | d :: r => uptoBulk d + uptoBulkAll r
def uptoBulkEntries {H : Type} : List (Lit × DataW H) → Nat
  | [] => 0
  | x :: r => uptoBulkEntry x + uptoBulkEntries r
def uptoBulkEntry {H : Type} : Lit × DataW H → Nat
  | (.string bytes, d) => bytes.length + uptoBulk d + 1
  | (_, d) => uptoBulk d + 1
 end
def uptoSmall : (H : Type) → List (DataW H) → Bool := fun _ ds => decide (uptoBulkAll ds ≤ 1048576)
def OpenSpec.upto (s : _root_.Go.ChangeSpec) : _root_.Go.OpenSpec := { _root_.Go.OpenSpec.ofChange s with cond := some uptoSmall }

/-- 'laws.FnExactNearOk', WHERE WHAT IT READS IS OF BULK AT MOST 1048576: true; the input reads as it did. -/
def fnExactNearOkUptoRow : OpenClaim := { program := "ytgojmjelgngimaa", sum := "0e6d0e4ff10f8994f795d2437749553bfb088a491051dde97933f9f3fc26dd41", func := "loop.example/g00681/laws.FnExactNearOk", spec := "fnExactNearOk", apart := false, narrowed := true }
def FnExactNearOkUptoSaid : Prop := fnExactNearOkUptoRow.holds Try.pinned (OpenSpec.upto fnExactNearOkSpec)

/-- 'laws.FnExactDeadAt', WHERE WHAT IT READS IS OF BULK AT MOST 1048576: true; the input reads as it did. -/
def fnExactDeadAtUptoRow : OpenClaim := { program := "ytgojmjelgngimaa", sum := "0e6d0e4ff10f8994f795d2437749553bfb088a491051dde97933f9f3fc26dd41", func := "loop.example/g00681/laws.FnExactDeadAt", spec := "fnExactDeadAt", apart := false, narrowed := true }
def FnExactDeadAtUptoSaid : Prop := fnExactDeadAtUptoRow.holds Try.pinned (OpenSpec.upto fnExactDeadAtSpec)

/-- 'laws.FnExactLoopsIn', WHERE WHAT IT READS IS OF BULK AT MOST 1048576: true; the input reads as it did. -/
def fnExactLoopsInUptoRow : OpenClaim := { program := "ytgojmjelgngimaa", sum := "0e6d0e4ff10f8994f795d2437749553bfb088a491051dde97933f9f3fc26dd41", func := "loop.example/g00681/laws.FnExactLoopsIn", spec := "fnExactLoopsIn", apart := false, narrowed := true }
def FnExactLoopsInUptoSaid : Prop := fnExactLoopsInUptoRow.holds Try.pinned (OpenSpec.upto fnExactLoopsInSpec)

/-- 'laws.FnExactStepNear', WHERE WHAT IT READS IS OF BULK AT MOST 1048576: true; the input reads as it did. -/
def fnExactStepNearUptoRow : OpenClaim := { program := "ytgojmjelgngimaa", sum := "0e6d0e4ff10f8994f795d2437749553bfb088a491051dde97933f9f3fc26dd41", func := "loop.example/g00681/laws.FnExactStepNear", spec := "fnExactStepNear", apart := false, narrowed := true }
def FnExactStepNearUptoSaid : Prop := fnExactStepNearUptoRow.holds Try.pinned (OpenSpec.upto fnExactStepNearSpec)

/-- 'laws.FnExactWalkCost', WHERE WHAT IT READS IS OF BULK AT MOST 1048576: true; the input reads as it did. -/
def fnExactWalkCostUptoRow : OpenClaim := { program := "ytgojmjelgngimaa", sum := "0e6d0e4ff10f8994f795d2437749553bfb088a491051dde97933f9f3fc26dd41", func := "loop.example/g00681/laws.FnExactWalkCost", spec := "fnExactWalkCost", apart := false, narrowed := true }
def FnExactWalkCostUptoSaid : Prop := fnExactWalkCostUptoRow.holds Try.pinned (OpenSpec.upto fnExactWalkCostSpec)

/-- 'laws.FnExactChanges', WHERE WHAT IT READS IS OF BULK AT MOST 1048576: true; the input reads as it did. -/
def fnExactChangesUptoRow : OpenClaim := { program := "ytgojmjelgngimaa", sum := "0e6d0e4ff10f8994f795d2437749553bfb088a491051dde97933f9f3fc26dd41", func := "loop.example/g00681/laws.FnExactChanges", spec := "fnExactChanges", unfollowed := true, recurses := true, apart := false, narrowed := true }
def FnExactChangesUptoSaid : Prop := fnExactChangesUptoRow.holds Try.pinned (OpenSpec.upto fnExactChangesSpec)

end Rows
end Go.Proofs.Ytgojmjelgngimaa
