/-
  No cell of these rows narrows 'for every input' (looked for: loops, veiled, ifaces, maps, wideKeys, modest, calm, conditions, laid).
  DERIVED. THE GIVEN ROWS OF THIS SEAT. 5 by the template 'for every input the law returns true; each argument reads behind the call as it read before'; 0 by the template 'total and deterministic' (their statements: YtipdfhjilegkcaaTotals.lean).
  GIVEN WITH THE SEED: the statements are not yours to turn. If you find one false, say at which input.
  Laid BY PROGRAM, IN A SANDBOX (cutbox-rows.mjs): the forced cells as the released guide's own fill.sh prints them over the translation 4958db38df6a0bd4… (all of the seat's roots in one cut). By AI agents, Wed Nov 11 2026. No macro, syntax, notation, axiom, sorry.
-/
import Derived.Test.YtipdfhjilegkcaaChecked
import GoSem.Claim
import GoSem.ClaimJoined
import GoSem.ClaimMapViews
import Derived.JoinedTies
import Derived.KernelRfl
namespace Go.Proofs.Ytipdfhjilegkcaa
/- THE CELL 'sum', in the pinned program and in every row, IS THE sha256 OF THE DUMP (.gsa) THAT YtipdfhjilegkcaaProg.lean LOADS. Nothing in Lean hashes anything: it is a label: what it is worth is what the hold of that sum in a sandbox is worth. -/
noncomputable def Try.pinned : Pinned := { name := "ytipdfhjilegkcaa", sum := "4958db38df6a0bd4d35a5bd219dcc2dcd1150a94501e6287b7bbd3e8408b14cf", checked := Try.checked }
namespace Rows
def none {H : Type} : Left H := { results := [], args := [] }

/-- 'laws.FnSafeOrder': WHATEVER THE INPUT: true; the input reads as it did. -/
def fnSafeOrderSpec : ChangeSpec := { name := "fnSafeOrder", fn := fun _ => fun
  | [d] => { results := [.lit (.bool true)], args := [d] }
  | _ => none }
def fnSafeOrderRow : OpenClaim := { program := "ytipdfhjilegkcaa", sum := "4958db38df6a0bd4d35a5bd219dcc2dcd1150a94501e6287b7bbd3e8408b14cf", func := "loop.example/g00681/laws.FnSafeOrder", spec := "fnSafeOrder", unfollowed := true, recurses := true, apart := false }
def FnSafeOrderSaid : Prop := fnSafeOrderRow.holds Try.pinned (OpenSpec.ofChange fnSafeOrderSpec)

/-- ITS FALSE NEIGHBOUR: 'it returns false'. Refute it at one input. -/
def fnSafeOrderWrong : ChangeSpec := { name := "fnSafeOrder", fn := fun _ => fun
  | [d] => { results := [.lit (.bool false)], args := [d] }
  | _ => none }
def FnSafeOrderWrongFalsely : Prop := fnSafeOrderRow.holds Try.pinned (OpenSpec.ofChange fnSafeOrderWrong)

/-- 'laws.FnExactCountBad': WHATEVER THE INPUT: true; the input reads as it did. -/
def fnExactCountBadSpec : ChangeSpec := { name := "fnExactCountBad", fn := fun _ => fun
  | [d1, d2, d3] => { results := [.lit (.bool true)], args := [d1, d2, d3] }
  | _ => none }
def fnExactCountBadRow : OpenClaim := { program := "ytipdfhjilegkcaa", sum := "4958db38df6a0bd4d35a5bd219dcc2dcd1150a94501e6287b7bbd3e8408b14cf", func := "loop.example/g00681/laws.FnExactCountBad", spec := "fnExactCountBad", unfollowed := true, recurses := true, apart := false }
def FnExactCountBadSaid : Prop := fnExactCountBadRow.holds Try.pinned (OpenSpec.ofChange fnExactCountBadSpec)

/-- ITS FALSE NEIGHBOUR: 'it returns false'. Refute it at one input. -/
def fnExactCountBadWrong : ChangeSpec := { name := "fnExactCountBad", fn := fun _ => fun
  | [d1, d2, d3] => { results := [.lit (.bool false)], args := [d1, d2, d3] }
  | _ => none }
def FnExactCountBadWrongFalsely : Prop := fnExactCountBadRow.holds Try.pinned (OpenSpec.ofChange fnExactCountBadWrong)

/-- 'laws.FnRemote': WHATEVER THE INPUT: true; the input reads as it did. -/
def fnRemoteSpec : ChangeSpec := { name := "fnRemote", fn := fun _ => fun
  | [d] => { results := [.lit (.bool true)], args := [d] }
  | _ => none }
def fnRemoteRow : OpenClaim := { program := "ytipdfhjilegkcaa", sum := "4958db38df6a0bd4d35a5bd219dcc2dcd1150a94501e6287b7bbd3e8408b14cf", func := "loop.example/g00681/laws.FnRemote", spec := "fnRemote", unfollowed := true, recurses := true, apart := false }
def FnRemoteSaid : Prop := fnRemoteRow.holds Try.pinned (OpenSpec.ofChange fnRemoteSpec)

/-- ITS FALSE NEIGHBOUR: 'it returns false'. Refute it at one input. -/
def fnRemoteWrong : ChangeSpec := { name := "fnRemote", fn := fun _ => fun
  | [d] => { results := [.lit (.bool false)], args := [d] }
  | _ => none }
def FnRemoteWrongFalsely : Prop := fnRemoteRow.holds Try.pinned (OpenSpec.ofChange fnRemoteWrong)

/-- 'laws.FnExactWalkAround': WHATEVER THE INPUT: true; the input reads as it did. -/
def fnExactWalkAroundSpec : ChangeSpec := { name := "fnExactWalkAround", fn := fun _ => fun
  | [d1, d2, d3, d4] => { results := [.lit (.bool true)], args := [d1, d2, d3, d4] }
  | _ => none }
def fnExactWalkAroundRow : OpenClaim := { program := "ytipdfhjilegkcaa", sum := "4958db38df6a0bd4d35a5bd219dcc2dcd1150a94501e6287b7bbd3e8408b14cf", func := "loop.example/g00681/laws.FnExactWalkAround", spec := "fnExactWalkAround", unfollowed := true, recurses := true, apart := false }
def FnExactWalkAroundSaid : Prop := fnExactWalkAroundRow.holds Try.pinned (OpenSpec.ofChange fnExactWalkAroundSpec)

/-- ITS FALSE NEIGHBOUR: 'it returns false'. Refute it at one input. -/
def fnExactWalkAroundWrong : ChangeSpec := { name := "fnExactWalkAround", fn := fun _ => fun
  | [d1, d2, d3, d4] => { results := [.lit (.bool false)], args := [d1, d2, d3, d4] }
  | _ => none }
def FnExactWalkAroundWrongFalsely : Prop := fnExactWalkAroundRow.holds Try.pinned (OpenSpec.ofChange fnExactWalkAroundWrong)

/-- 'laws.FnAround': WHATEVER THE INPUT: true; the input reads as it did. -/
def fnAroundSpec : ChangeSpec := { name := "fnAround", fn := fun _ => fun
  | [d] => { results := [.lit (.bool true)], args := [d] }
  | _ => none }
def fnAroundRow : OpenClaim := { program := "ytipdfhjilegkcaa", sum := "4958db38df6a0bd4d35a5bd219dcc2dcd1150a94501e6287b7bbd3e8408b14cf", func := "loop.example/g00681/laws.FnAround", spec := "fnAround", unfollowed := true, recurses := true, apart := false }
def FnAroundSaid : Prop := fnAroundRow.holds Try.pinned (OpenSpec.ofChange fnAroundSpec)

/-- ITS FALSE NEIGHBOUR: 'it returns false'. Refute it at one input. -/
def fnAroundWrong : ChangeSpec := { name := "fnAround", fn := fun _ => fun
  | [d] => { results := [.lit (.bool false)], args := [d] }
  | _ => none }
def FnAroundWrongFalsely : Prop := fnAroundRow.holds Try.pinned (OpenSpec.ofChange fnAroundWrong)

/- THE SECOND FORM. 'bulk': how many values and letters a reading holds, each counted each time it is reached (what is shared counts as often as it is met; a slice's spare places count too). A statement '..UptoSaid' is the law's where the arguments, and the package variables that the reading takes, are together of bulk at most 1048576: NARROWER than '..Said'. Prove '..Said' where nothing that the law and all that it calls make is longer than what came in: it says more and counts as full. Else prove '..UptoSaid'. A law counts once. -/
mutual
def uptoBulk {H : Type} : DataW H → Nat
  | .lit (.string bytes) => bytes.length + 1
  | .lit _ => 1
  | .nil => 1
  | .ptr d => uptoBulk d + 1
  | .slice elems spare => uptoBulkAll elems + uptoBulkAll spare + 1
  | .agg parts => uptoBulkAll parts + 1
  | .iface _ d => uptoBulk d + 1
  | .map entries => uptoBulkEntries entries + 1
  | .held _ => 1
def uptoBulkAll {H : Type} : List (DataW H) → Nat
  | [] => 0
  | d :: r => uptoBulk d + uptoBulkAll r
def uptoBulkEntries {H : Type} : List (Lit × DataW H) → Nat
  | [] => 0
  | x :: r => uptoBulkEntry x + uptoBulkEntries r
def uptoBulkEntry {H : Type} : Lit × DataW H → Nat
  | (.string bytes, d) => bytes.length + uptoBulk d + 1
  | (_, d) => uptoBulk d + 1
 end
def uptoSmall : (H : Type) → List (DataW H) → Bool := fun _ ds => decide (uptoBulkAll ds ≤ 1048576)
def OpenSpec.upto (s : _root_.Go.ChangeSpec) : _root_.Go.OpenSpec := { _root_.Go.OpenSpec.ofChange s with cond := some uptoSmall }

/-- 'laws.FnSafeOrder', WHERE WHAT IT READS IS OF BULK AT MOST 1048576: true; the input reads as it did. -/
def fnSafeOrderUptoRow : OpenClaim := { program := "ytipdfhjilegkcaa", sum := "4958db38df6a0bd4d35a5bd219dcc2dcd1150a94501e6287b7bbd3e8408b14cf", func := "loop.example/g00681/laws.FnSafeOrder", spec := "fnSafeOrder", unfollowed := true, recurses := true, apart := false, narrowed := true }
def FnSafeOrderUptoSaid : Prop := fnSafeOrderUptoRow.holds Try.pinned (OpenSpec.upto fnSafeOrderSpec)

/-- 'laws.FnExactCountBad', WHERE WHAT IT READS IS OF BULK AT MOST 1048576: true; the input reads as it did. -/
def fnExactCountBadUptoRow : OpenClaim := { program := "ytipdfhjilegkcaa", sum := "4958db38df6a0bd4d35a5bd219dcc2dcd1150a94501e6287b7bbd3e8408b14cf", func := "loop.example/g00681/laws.FnExactCountBad", spec := "fnExactCountBad", unfollowed := true, recurses := true, apart := false, narrowed := true }
def FnExactCountBadUptoSaid : Prop := fnExactCountBadUptoRow.holds Try.pinned (OpenSpec.upto fnExactCountBadSpec)

/-- 'laws.FnRemote', WHERE WHAT IT READS IS OF BULK AT MOST 1048576: true; the input reads as it did. -/
def fnRemoteUptoRow : OpenClaim := { program := "ytipdfhjilegkcaa", sum := "4958db38df6a0bd4d35a5bd219dcc2dcd1150a94501e6287b7bbd3e8408b14cf", func := "loop.example/g00681/laws.FnRemote", spec := "fnRemote", unfollowed := true, recurses := true, apart := false, narrowed := true }
def FnRemoteUptoSaid : Prop := fnRemoteUptoRow.holds Try.pinned (OpenSpec.upto fnRemoteSpec)

/-- 'laws.FnExactWalkAround', WHERE WHAT IT READS IS OF BULK AT MOST 1048576: true; the input reads as it did. -/
def fnExactWalkAroundUptoRow : OpenClaim := { program := "ytipdfhjilegkcaa", sum := "4958db38df6a0bd4d35a5bd219dcc2dcd1150a94501e6287b7bbd3e8408b14cf", func := "loop.example/g00681/laws.FnExactWalkAround", spec := "fnExactWalkAround", unfollowed := true, recurses := true, apart := false, narrowed := true }
def FnExactWalkAroundUptoSaid : Prop := fnExactWalkAroundUptoRow.holds Try.pinned (OpenSpec.upto fnExactWalkAroundSpec)

/-- 'laws.FnAround', WHERE WHAT IT READS IS OF BULK AT MOST 1048576: true; the input reads as it did. -/
def fnAroundUptoRow : OpenClaim := { program := "ytipdfhjilegkcaa", sum := "4958db38df6a0bd4d35a5bd219dcc2dcd1150a94501e6287b7bbd3e8408b14cf", func := "loop.example/g00681/laws.FnAround", spec := "fnAround", unfollowed := true, recurses := true, apart := false, narrowed := true }
def FnAroundUptoSaid : Prop := fnAroundUptoRow.holds Try.pinned (OpenSpec.upto fnAroundSpec)

end Rows
end Go.Proofs.Ytipdfhjilegkcaa
