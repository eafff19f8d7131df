/-
  No cell of these rows narrows 'for every input' (looked for: loops, veiled, ifaces, maps, wideKeys, modest, calm, conditions, laid).
  DERIVED. THE GIVEN ROWS OF THIS SEAT. 6 by the template 'for every input the law returns true; each argument reads behind the call as it read before'; 0 by the template 'total and deterministic' (their statements: YtgiogphdnpeddaaTotals.lean).
  GIVEN WITH THE SEED: the statements are not yours to turn. If you find one false, say at which input.
  Laid BY PROGRAM, IN A SANDBOX (cutbox-rows.mjs): the forced cells as the released guide's own fill.sh prints them over the translation 19c2fe501965667f… (all of the seat's roots in one cut). By AI agents, Wed Nov 11 2026. No macro, syntax, notation, axiom, sorry.
-/
import Derived.Test.YtgiogphdnpeddaaChecked
import GoSem.Claim
import GoSem.ClaimJoined
import GoSem.ClaimMapViews
import Derived.JoinedTies
import Derived.KernelRfl
namespace Go.Proofs.Ytgiogphdnpeddaa
/- THE CELL 'sum', in the pinned program and in every row, IS THE sha256 OF THE DUMP (.gsa) THAT YtgiogphdnpeddaaProg.lean LOADS. Nothing in Lean hashes anything: it is a label: what it is worth is what the hold of that sum in a sandbox is worth. -/
noncomputable def Try.pinned : Pinned := { name := "ytgiogphdnpeddaa", sum := "19c2fe501965667f14aef540b7c068ddc1aab6a7282499a0fb41b1a81f9abe18", checked := Try.checked }
namespace Rows
def none {H : Type} : Left H := { results := [], args := [] }

/-- 'laws.FnExactNewNet': WHATEVER THE INPUT: true; the input reads as it did. -/
def fnExactNewNetSpec : ChangeSpec := { name := "fnExactNewNet", fn := fun _ => fun
  | [d] => { results := [.lit (.bool true)], args := [d] }
  | _ => none }
def fnExactNewNetRow : OpenClaim := { program := "ytgiogphdnpeddaa", sum := "19c2fe501965667f14aef540b7c068ddc1aab6a7282499a0fb41b1a81f9abe18", func := "loop.example/g00681/laws.FnExactNewNet", spec := "fnExactNewNet", apart := false }
def FnExactNewNetSaid : Prop := fnExactNewNetRow.holds Try.pinned (OpenSpec.ofChange fnExactNewNetSpec)

/-- ITS FALSE NEIGHBOUR: 'it returns false'. Refute it at one input. -/
def fnExactNewNetWrong : ChangeSpec := { name := "fnExactNewNet", fn := fun _ => fun
  | [d] => { results := [.lit (.bool false)], args := [d] }
  | _ => none }
def FnExactNewNetWrongFalsely : Prop := fnExactNewNetRow.holds Try.pinned (OpenSpec.ofChange fnExactNewNetWrong)

/-- 'laws.FnExactNetOk': WHATEVER THE INPUT: true; the input reads as it did. -/
def fnExactNetOkSpec : ChangeSpec := { name := "fnExactNetOk", fn := fun _ => fun
  | [d] => { results := [.lit (.bool true)], args := [d] }
  | _ => none }
def fnExactNetOkRow : OpenClaim := { program := "ytgiogphdnpeddaa", sum := "19c2fe501965667f14aef540b7c068ddc1aab6a7282499a0fb41b1a81f9abe18", func := "loop.example/g00681/laws.FnExactNetOk", spec := "fnExactNetOk", unfollowed := true, recurses := true, apart := false }
def FnExactNetOkSaid : Prop := fnExactNetOkRow.holds Try.pinned (OpenSpec.ofChange fnExactNetOkSpec)

/-- ITS FALSE NEIGHBOUR: 'it returns false'. Refute it at one input. -/
def fnExactNetOkWrong : ChangeSpec := { name := "fnExactNetOk", fn := fun _ => fun
  | [d] => { results := [.lit (.bool false)], args := [d] }
  | _ => none }
def FnExactNetOkWrongFalsely : Prop := fnExactNetOkRow.holds Try.pinned (OpenSpec.ofChange fnExactNetOkWrong)

/-- 'laws.FnExactAgree': WHATEVER THE INPUT: true; the input reads as it did. -/
def fnExactAgreeSpec : ChangeSpec := { name := "fnExactAgree", fn := fun _ => fun
  | [d] => { results := [.lit (.bool true)], args := [d] }
  | _ => none }
def fnExactAgreeRow : OpenClaim := { program := "ytgiogphdnpeddaa", sum := "19c2fe501965667f14aef540b7c068ddc1aab6a7282499a0fb41b1a81f9abe18", func := "loop.example/g00681/laws.FnExactAgree", spec := "fnExactAgree", unfollowed := true, recurses := true, apart := false }
def FnExactAgreeSaid : Prop := fnExactAgreeRow.holds Try.pinned (OpenSpec.ofChange fnExactAgreeSpec)

/-- ITS FALSE NEIGHBOUR: 'it returns false'. Refute it at one input. -/
def fnExactAgreeWrong : ChangeSpec := { name := "fnExactAgree", fn := fun _ => fun
  | [d] => { results := [.lit (.bool false)], args := [d] }
  | _ => none }
def FnExactAgreeWrongFalsely : Prop := fnExactAgreeRow.holds Try.pinned (OpenSpec.ofChange fnExactAgreeWrong)

/-- 'laws.FnExactLacks': WHATEVER THE INPUT: true; the input reads as it did. -/
def fnExactLacksSpec : ChangeSpec := { name := "fnExactLacks", fn := fun _ => fun
  | [d1, d2] => { results := [.lit (.bool true)], args := [d1, d2] }
  | _ => none }
def fnExactLacksRow : OpenClaim := { program := "ytgiogphdnpeddaa", sum := "19c2fe501965667f14aef540b7c068ddc1aab6a7282499a0fb41b1a81f9abe18", func := "loop.example/g00681/laws.FnExactLacks", spec := "fnExactLacks", unfollowed := true, recurses := true, apart := false }
def FnExactLacksSaid : Prop := fnExactLacksRow.holds Try.pinned (OpenSpec.ofChange fnExactLacksSpec)

/-- ITS FALSE NEIGHBOUR: 'it returns false'. Refute it at one input. -/
def fnExactLacksWrong : ChangeSpec := { name := "fnExactLacks", fn := fun _ => fun
  | [d1, d2] => { results := [.lit (.bool false)], args := [d1, d2] }
  | _ => none }
def FnExactLacksWrongFalsely : Prop := fnExactLacksRow.holds Try.pinned (OpenSpec.ofChange fnExactLacksWrong)

/-- 'laws.FnExactInstall': WHATEVER THE INPUT: true; the input reads as it did. -/
def fnExactInstallSpec : ChangeSpec := { name := "fnExactInstall", fn := fun _ => fun
  | [d1, d2] => { results := [.lit (.bool true)], args := [d1, d2] }
  | _ => none }
def fnExactInstallRow : OpenClaim := { program := "ytgiogphdnpeddaa", sum := "19c2fe501965667f14aef540b7c068ddc1aab6a7282499a0fb41b1a81f9abe18", func := "loop.example/g00681/laws.FnExactInstall", spec := "fnExactInstall", inPlace := ["slices.overlaps[loop.example/g00681/impl.Lsa]"], unfollowed := true, recurses := true, apart := false }
def FnExactInstallSaid : Prop := fnExactInstallRow.holds Try.pinned (OpenSpec.ofChange fnExactInstallSpec)

/-- ITS FALSE NEIGHBOUR: 'it returns false'. Refute it at one input. -/
def fnExactInstallWrong : ChangeSpec := { name := "fnExactInstall", fn := fun _ => fun
  | [d1, d2] => { results := [.lit (.bool false)], args := [d1, d2] }
  | _ => none }
def FnExactInstallWrongFalsely : Prop := fnExactInstallRow.holds Try.pinned (OpenSpec.ofChange fnExactInstallWrong)

/-- 'laws.FnExactMerge': WHATEVER THE INPUT: true; the input reads as it did. -/
def fnExactMergeSpec : ChangeSpec := { name := "fnExactMerge", fn := fun _ => fun
  | [d1, d2] => { results := [.lit (.bool true)], args := [d1, d2] }
  | _ => none }
def fnExactMergeRow : OpenClaim := { program := "ytgiogphdnpeddaa", sum := "19c2fe501965667f14aef540b7c068ddc1aab6a7282499a0fb41b1a81f9abe18", func := "loop.example/g00681/laws.FnExactMerge", spec := "fnExactMerge", inPlace := ["slices.overlaps[loop.example/g00681/impl.Lsa]"], unfollowed := true, recurses := true, apart := false }
def FnExactMergeSaid : Prop := fnExactMergeRow.holds Try.pinned (OpenSpec.ofChange fnExactMergeSpec)

/-- ITS FALSE NEIGHBOUR: 'it returns false'. Refute it at one input. -/
def fnExactMergeWrong : ChangeSpec := { name := "fnExactMerge", fn := fun _ => fun
  | [d1, d2] => { results := [.lit (.bool false)], args := [d1, d2] }
  | _ => none }
def FnExactMergeWrongFalsely : Prop := fnExactMergeRow.holds Try.pinned (OpenSpec.ofChange fnExactMergeWrong)

/- THE SECOND FORM. 'bulk': how many values and letters a reading holds, each counted each time it is reached (what is shared counts as often as it is met; a slice's spare places count too). A statement '..UptoSaid' is the law's where the arguments, and the package variables that the reading takes, are together of bulk at most 1048576: NARROWER than '..Said'. Prove '..Said' where nothing that the law and all that it calls make is longer than what came in: it says more and counts as full. Else prove '..UptoSaid'. A law counts once. -/
mutual
def uptoBulk {H : Type} : DataW H → Nat
  | .lit (.string bytes) => bytes.length + 1
  | .lit _ => 1
  | .nil => 1
  | .ptr d => uptoBulk d + 1
  | .slice elems spare => uptoBulkAll elems + uptoBulkAll spare + 1
  | .agg parts => uptoBulkAll parts + 1
  | .iface _ d => uptoBulk d + 1
  | .map entries => uptoBulkEntries entries + 1
  | .held _ => 1
def uptoBulkAll {H : Type} : List (DataW H) → Nat
  | [] => 0
  | d :: r => uptoBulk d + uptoBulkAll r
def uptoBulkEntries {H : Type} : List (Lit × DataW H) → Nat
  | [] => 0
  | x :: r => uptoBulkEntry x + uptoBulkEntries r
def uptoBulkEntry {H : Type} : Lit × DataW H → Nat
  | (.string bytes, d) => bytes.length + uptoBulk d + 1
  | (_, d) => uptoBulk d + 1
 end
def uptoSmall : (H : Type) → List (DataW H) → Bool := fun _ ds => decide (uptoBulkAll ds ≤ 1048576)
def OpenSpec.upto (s : _root_.Go.ChangeSpec) : _root_.Go.OpenSpec := { _root_.Go.OpenSpec.ofChange s with cond := some uptoSmall }

/-- 'laws.FnExactNewNet', WHERE WHAT IT READS IS OF BULK AT MOST 1048576: true; the input reads as it did. -/
def fnExactNewNetUptoRow : OpenClaim := { program := "ytgiogphdnpeddaa", sum := "19c2fe501965667f14aef540b7c068ddc1aab6a7282499a0fb41b1a81f9abe18", func := "loop.example/g00681/laws.FnExactNewNet", spec := "fnExactNewNet", apart := false, narrowed := true }
def FnExactNewNetUptoSaid : Prop := fnExactNewNetUptoRow.holds Try.pinned (OpenSpec.upto fnExactNewNetSpec)

/-- 'laws.FnExactNetOk', WHERE WHAT IT READS IS OF BULK AT MOST 1048576: true; the input reads as it did. -/
def fnExactNetOkUptoRow : OpenClaim := { program := "ytgiogphdnpeddaa", sum := "19c2fe501965667f14aef540b7c068ddc1aab6a7282499a0fb41b1a81f9abe18", func := "loop.example/g00681/laws.FnExactNetOk", spec := "fnExactNetOk", unfollowed := true, recurses := true, apart := false, narrowed := true }
def FnExactNetOkUptoSaid : Prop := fnExactNetOkUptoRow.holds Try.pinned (OpenSpec.upto fnExactNetOkSpec)

/-- 'laws.FnExactAgree', WHERE WHAT IT READS IS OF BULK AT MOST 1048576: true; the input reads as it did. -/
def fnExactAgreeUptoRow : OpenClaim := { program := "ytgiogphdnpeddaa", sum := "19c2fe501965667f14aef540b7c068ddc1aab6a7282499a0fb41b1a81f9abe18", func := "loop.example/g00681/laws.FnExactAgree", spec := "fnExactAgree", unfollowed := true, recurses := true, apart := false, narrowed := true }
def FnExactAgreeUptoSaid : Prop := fnExactAgreeUptoRow.holds Try.pinned (OpenSpec.upto fnExactAgreeSpec)

/-- 'laws.FnExactLacks', WHERE WHAT IT READS IS OF BULK AT MOST 1048576: true; the input reads as it did. -/
def fnExactLacksUptoRow : OpenClaim := { program := "ytgiogphdnpeddaa", sum := "19c2fe501965667f14aef540b7c068ddc1aab6a7282499a0fb41b1a81f9abe18", func := "loop.example/g00681/laws.FnExactLacks", spec := "fnExactLacks", unfollowed := true, recurses := true, apart := false, narrowed := true }
def FnExactLacksUptoSaid : Prop := fnExactLacksUptoRow.holds Try.pinned (OpenSpec.upto fnExactLacksSpec)

/-- 'laws.FnExactInstall', WHERE WHAT IT READS IS OF BULK AT MOST 1048576: true; the input reads as it did. -/
def fnExactInstallUptoRow : OpenClaim := { program := "ytgiogphdnpeddaa", sum := "19c2fe501965667f14aef540b7c068ddc1aab6a7282499a0fb41b1a81f9abe18", func := "loop.example/g00681/laws.FnExactInstall", spec := "fnExactInstall", inPlace := ["slices.overlaps[loop.example/g00681/impl.Lsa]"], unfollowed := true, recurses := true, apart := false, narrowed := true }
def FnExactInstallUptoSaid : Prop := fnExactInstallUptoRow.holds Try.pinned (OpenSpec.upto fnExactInstallSpec)

/-- 'laws.FnExactMerge', WHERE WHAT IT READS IS OF BULK AT MOST 1048576: true; the input reads as it did. -/
def fnExactMergeUptoRow : OpenClaim := { program := "ytgiogphdnpeddaa", sum := "19c2fe501965667f14aef540b7c068ddc1aab6a7282499a0fb41b1a81f9abe18", func := "loop.example/g00681/laws.FnExactMerge", spec := "fnExactMerge", inPlace := ["slices.overlaps[loop.example/g00681/impl.Lsa]"], unfollowed := true, recurses := true, apart := false, narrowed := true }
def FnExactMergeUptoSaid : Prop := fnExactMergeUptoRow.holds Try.pinned (OpenSpec.upto fnExactMergeSpec)

end Rows
end Go.Proofs.Ytgiogphdnpeddaa
