/-
  No cell of these rows narrows 'for every input' (looked for: loops, veiled, ifaces, maps, wideKeys, modest, calm, conditions, laid).
  DERIVED. THE GIVEN ROWS OF THIS SEAT. 3 by the template 'for every input the law returns true; each argument reads behind the call as it read before'; 0 by the template 'total and deterministic' (their statements: YtgiogphdnpeddaaGreatTotals.lean).
  GIVEN WITH THE SEED: the statements are not yours to turn. If you find one false, say at which input.
  Laid BY PROGRAM, IN A SANDBOX (cutbox-rows.mjs): the forced cells as the released guide's own fill.sh prints them over the translation 37cb81c4cb282a10… (all of the seat's roots in one cut). By AI agents, Wed Nov 11 2026. No macro, syntax, notation, axiom, sorry.
-/
import Derived.Test.YtgiogphdnpeddaaGreatChecked
import GoSem.Claim
import GoSem.ClaimJoined
import GoSem.ClaimMapViews
import Derived.JoinedTies
import Derived.KernelRfl
namespace Go.Proofs.YtgiogphdnpeddaaGreat
/- THE CELL 'sum', in the pinned program and in every row, IS THE sha256 OF THE DUMP (.gsa) THAT YtgiogphdnpeddaaGreatProg.lean LOADS. Nothing in Lean hashes anything: it is a label: what it is worth is what the hold of that sum in a sandbox is worth. -/
noncomputable def Tryz.pinned : Pinned := { name := "ytgiogphdnpeddaagreat", sum := "37cb81c4cb282a103e881dfa127d53ab6f0cccbaa90bc109211f891b9d42c3f6", checked := Tryz.checked }
namespace Rows
def none {H : Type} : Left H := { results := [], args := [] }

/-- 'laws.FnExactLose': WHATEVER THE INPUT: true; the input reads as it did. -/
def fnExactLoseSpec : ChangeSpec := { name := "fnExactLose", fn := fun _ => fun
  | [d1, d2] => { results := [.lit (.bool true)], args := [d1, d2] }
  | _ => none }
def fnExactLoseRow : OpenClaim := { program := "ytgiogphdnpeddaagreat", sum := "37cb81c4cb282a103e881dfa127d53ab6f0cccbaa90bc109211f891b9d42c3f6", func := "loop.example/g00681/laws.FnExactLose", spec := "fnExactLose", unfollowed := true, recurses := true, apart := false }
def FnExactLoseSaid : Prop := fnExactLoseRow.holds Tryz.pinned (OpenSpec.ofChange fnExactLoseSpec)

/-- ITS FALSE NEIGHBOUR: 'it returns false'. Refute it at one input. -/
def fnExactLoseWrong : ChangeSpec := { name := "fnExactLose", fn := fun _ => fun
  | [d1, d2] => { results := [.lit (.bool false)], args := [d1, d2] }
  | _ => none }
def FnExactLoseWrongFalsely : Prop := fnExactLoseRow.holds Tryz.pinned (OpenSpec.ofChange fnExactLoseWrong)

/-- 'laws.FnExactDouble': WHATEVER THE INPUT: true; the input reads as it did. -/
def fnExactDoubleSpec : ChangeSpec := { name := "fnExactDouble", fn := fun _ => fun
  | [d1, d2] => { results := [.lit (.bool true)], args := [d1, d2] }
  | _ => none }
def fnExactDoubleRow : OpenClaim := { program := "ytgiogphdnpeddaagreat", sum := "37cb81c4cb282a103e881dfa127d53ab6f0cccbaa90bc109211f891b9d42c3f6", func := "loop.example/g00681/laws.FnExactDouble", spec := "fnExactDouble", unfollowed := true, recurses := true, apart := false }
def FnExactDoubleSaid : Prop := fnExactDoubleRow.holds Tryz.pinned (OpenSpec.ofChange fnExactDoubleSpec)

/-- ITS FALSE NEIGHBOUR: 'it returns false'. Refute it at one input. -/
def fnExactDoubleWrong : ChangeSpec := { name := "fnExactDouble", fn := fun _ => fun
  | [d1, d2] => { results := [.lit (.bool false)], args := [d1, d2] }
  | _ => none }
def FnExactDoubleWrongFalsely : Prop := fnExactDoubleRow.holds Tryz.pinned (OpenSpec.ofChange fnExactDoubleWrong)

/-- 'laws.FnExactSyncAll': WHATEVER THE INPUT: true; the input reads as it did. -/
def fnExactSyncAllSpec : ChangeSpec := { name := "fnExactSyncAll", fn := fun _ => fun
  | [d] => { results := [.lit (.bool true)], args := [d] }
  | _ => none }
def fnExactSyncAllRow : OpenClaim := { program := "ytgiogphdnpeddaagreat", sum := "37cb81c4cb282a103e881dfa127d53ab6f0cccbaa90bc109211f891b9d42c3f6", func := "loop.example/g00681/laws.FnExactSyncAll", spec := "fnExactSyncAll", unfollowed := true, recurses := true, apart := false }
def FnExactSyncAllSaid : Prop := fnExactSyncAllRow.holds Tryz.pinned (OpenSpec.ofChange fnExactSyncAllSpec)

/-- ITS FALSE NEIGHBOUR: 'it returns false'. Refute it at one input. -/
def fnExactSyncAllWrong : ChangeSpec := { name := "fnExactSyncAll", fn := fun _ => fun
  | [d] => { results := [.lit (.bool false)], args := [d] }
  | _ => none }
def FnExactSyncAllWrongFalsely : Prop := fnExactSyncAllRow.holds Tryz.pinned (OpenSpec.ofChange fnExactSyncAllWrong)

/- THE SECOND FORM. 'bulk': how many values and letters a reading holds, each counted each time it is reached (what is shared counts as often as it is met; a slice's spare places count too). A statement '..UptoSaid' is the law's where the arguments, and the package variables that the reading takes, are together of bulk at most 1048576: NARROWER than '..Said'. Prove '..Said' where nothing that the law and all that it calls make is longer than what came in: it says more and counts as full. Else prove '..UptoSaid'. A law counts once. -/
mutual
def uptoBulk {H : Type} : DataW H → Nat
  | .lit (.string bytes) => bytes.length + 1
  | .lit _ => 1
  | .nil => 1
  | .ptr d => uptoBulk d + 1
  | .slice elems spare => uptoBulkAll elems + uptoBulkAll spare + 1
  | .agg parts => uptoBulkAll parts + 1
  | .iface _ d => uptoBulk d + 1
  | .map entries => uptoBulkEntries entries + 1
  | .held _ => 1
def uptoBulkAll {H : Type} : List (DataW H) → Nat
  | [] => 0
  | d :: r => uptoBulk d + uptoBulkAll r
def uptoBulkEntries {H : Type} : List (Lit × DataW H) → Nat
  | [] => 0
  | x :: r => uptoBulkEntry x + uptoBulkEntries r
def uptoBulkEntry {H : Type} : Lit × DataW H → Nat
  | (.string bytes, d) => bytes.length + uptoBulk d + 1
  | (_, d) => uptoBulk d + 1
 end
def uptoSmall : (H : Type) → List (DataW H) → Bool := fun _ ds => decide (uptoBulkAll ds ≤ 1048576)
def OpenSpec.upto (s : _root_.Go.ChangeSpec) : _root_.Go.OpenSpec := { _root_.Go.OpenSpec.ofChange s with cond := some uptoSmall }

/-- 'laws.FnExactLose', WHERE WHAT IT READS IS OF BULK AT MOST 1048576: true; the input reads as it did. -/
def fnExactLoseUptoRow : OpenClaim := { program := "ytgiogphdnpeddaagreat", sum := "37cb81c4cb282a103e881dfa127d53ab6f0cccbaa90bc109211f891b9d42c3f6", func := "loop.example/g00681/laws.FnExactLose", spec := "fnExactLose", unfollowed := true, recurses := true, apart := false, narrowed := true }
def FnExactLoseUptoSaid : Prop := fnExactLoseUptoRow.holds Tryz.pinned (OpenSpec.upto fnExactLoseSpec)

/-- 'laws.FnExactDouble', WHERE WHAT IT READS IS OF BULK AT MOST 1048576: true; the input reads as it did. -/
def fnExactDoubleUptoRow : OpenClaim := { program := "ytgiogphdnpeddaagreat", sum := "37cb81c4cb282a103e881dfa127d53ab6f0cccbaa90bc109211f891b9d42c3f6", func := "loop.example/g00681/laws.FnExactDouble", spec := "fnExactDouble", unfollowed := true, recurses := true, apart := false, narrowed := true }
def FnExactDoubleUptoSaid : Prop := fnExactDoubleUptoRow.holds Tryz.pinned (OpenSpec.upto fnExactDoubleSpec)

/-- 'laws.FnExactSyncAll', WHERE WHAT IT READS IS OF BULK AT MOST 1048576: true; the input reads as it did. -/
def fnExactSyncAllUptoRow : OpenClaim := { program := "ytgiogphdnpeddaagreat", sum := "37cb81c4cb282a103e881dfa127d53ab6f0cccbaa90bc109211f891b9d42c3f6", func := "loop.example/g00681/laws.FnExactSyncAll", spec := "fnExactSyncAll", unfollowed := true, recurses := true, apart := false, narrowed := true }
def FnExactSyncAllUptoSaid : Prop := fnExactSyncAllUptoRow.holds Tryz.pinned (OpenSpec.upto fnExactSyncAllSpec)

end Rows
end Go.Proofs.YtgiogphdnpeddaaGreat
