/-
  No cell of these rows narrows 'for every input' (looked for: loops, veiled, ifaces, maps, wideKeys, modest, calm, conditions, laid).
  DERIVED. THE GIVEN ROWS OF THIS SEAT. 4 by the template 'for every input the law returns true; each argument reads behind the call as it read before'; 0 by the template 'total and deterministic' (their statements: YtmbekckgpbmdkaaGreatTotals.lean).
  GIVEN WITH THE SEED: the statements are not yours to turn. If you find one false, say at which input.
  Laid BY PROGRAM, IN A SANDBOX (cutbox-rows.mjs): the forced cells as the released guide's own fill.sh prints them over the translation a9ef3da6e2985a55… (all of the seat's roots in one cut). By AI agents, Wed Nov 11 2026. No macro, syntax, notation, axiom, sorry.
-/
import Derived.Test.YtmbekckgpbmdkaaGreatChecked
import GoSem.Claim
import GoSem.ClaimJoined
import GoSem.ClaimMapViews
import Derived.JoinedTies
import Derived.KernelRfl
namespace Go.Proofs.YtmbekckgpbmdkaaGreat
/- THE CELL 'sum', in the pinned program and in every row, IS THE sha256 OF THE DUMP (.gsa) THAT YtmbekckgpbmdkaaGreatProg.lean LOADS. Nothing in Lean hashes anything: it is a label: what it is worth is what the hold of that sum in a sandbox is worth. -/
noncomputable def Tryz.pinned : Pinned := { name := "ytmbekckgpbmdkaagreat", sum := "a9ef3da6e2985a553c5a11e988e20577ae6765a49adfb3ef332f674f420ab80d", checked := Tryz.checked }
namespace Rows
def none {H : Type} : Left H := { results := [], args := [] }

/-- 'laws.FnExactAnnounce': WHATEVER THE INPUT: true; the input reads as it did. -/
def fnExactAnnounceSpec : ChangeSpec := { name := "fnExactAnnounce", fn := fun _ => fun
  | [d1, d2] => { results := [.lit (.bool true)], args := [d1, d2] }
  | _ => none }
def fnExactAnnounceRow : OpenClaim := { program := "ytmbekckgpbmdkaagreat", sum := "a9ef3da6e2985a553c5a11e988e20577ae6765a49adfb3ef332f674f420ab80d", func := "loop.example/g00681/laws.FnExactAnnounce", spec := "fnExactAnnounce", inPlace := ["slices.overlaps[loop.example/g00681/impl.Lsa]"], unfollowed := true, recurses := true, apart := false }
def FnExactAnnounceSaid : Prop := fnExactAnnounceRow.holds Tryz.pinned (OpenSpec.ofChange fnExactAnnounceSpec)

/-- ITS FALSE NEIGHBOUR: 'it returns false'. Refute it at one input. -/
def fnExactAnnounceWrong : ChangeSpec := { name := "fnExactAnnounce", fn := fun _ => fun
  | [d1, d2] => { results := [.lit (.bool false)], args := [d1, d2] }
  | _ => none }
def FnExactAnnounceWrongFalsely : Prop := fnExactAnnounceRow.holds Tryz.pinned (OpenSpec.ofChange fnExactAnnounceWrong)

/-- 'laws.FnExactDeliver': WHATEVER THE INPUT: true; the input reads as it did. -/
def fnExactDeliverSpec : ChangeSpec := { name := "fnExactDeliver", fn := fun _ => fun
  | [d1, d2] => { results := [.lit (.bool true)], args := [d1, d2] }
  | _ => none }
def fnExactDeliverRow : OpenClaim := { program := "ytmbekckgpbmdkaagreat", sum := "a9ef3da6e2985a553c5a11e988e20577ae6765a49adfb3ef332f674f420ab80d", func := "loop.example/g00681/laws.FnExactDeliver", spec := "fnExactDeliver", inPlace := ["slices.overlaps[loop.example/g00681/impl.Lsa]"], unfollowed := true, recurses := true, apart := false }
def FnExactDeliverSaid : Prop := fnExactDeliverRow.holds Tryz.pinned (OpenSpec.ofChange fnExactDeliverSpec)

/-- ITS FALSE NEIGHBOUR: 'it returns false'. Refute it at one input. -/
def fnExactDeliverWrong : ChangeSpec := { name := "fnExactDeliver", fn := fun _ => fun
  | [d1, d2] => { results := [.lit (.bool false)], args := [d1, d2] }
  | _ => none }
def FnExactDeliverWrongFalsely : Prop := fnExactDeliverRow.holds Tryz.pinned (OpenSpec.ofChange fnExactDeliverWrong)

/-- 'laws.FnExactSettle': WHATEVER THE INPUT: true; the input reads as it did. -/
def fnExactSettleSpec : ChangeSpec := { name := "fnExactSettle", fn := fun _ => fun
  | [d] => { results := [.lit (.bool true)], args := [d] }
  | _ => none }
def fnExactSettleRow : OpenClaim := { program := "ytmbekckgpbmdkaagreat", sum := "a9ef3da6e2985a553c5a11e988e20577ae6765a49adfb3ef332f674f420ab80d", func := "loop.example/g00681/laws.FnExactSettle", spec := "fnExactSettle", inPlace := ["slices.overlaps[loop.example/g00681/impl.Lsa]"], unfollowed := true, recurses := true, apart := false }
def FnExactSettleSaid : Prop := fnExactSettleRow.holds Tryz.pinned (OpenSpec.ofChange fnExactSettleSpec)

/-- ITS FALSE NEIGHBOUR: 'it returns false'. Refute it at one input. -/
def fnExactSettleWrong : ChangeSpec := { name := "fnExactSettle", fn := fun _ => fun
  | [d] => { results := [.lit (.bool false)], args := [d] }
  | _ => none }
def FnExactSettleWrongFalsely : Prop := fnExactSettleRow.holds Tryz.pinned (OpenSpec.ofChange fnExactSettleWrong)

/-- 'laws.FnExactSetLink': WHATEVER THE INPUT: true; the input reads as it did. -/
def fnExactSetLinkSpec : ChangeSpec := { name := "fnExactSetLink", fn := fun _ => fun
  | [d1, d2, d3, d4] => { results := [.lit (.bool true)], args := [d1, d2, d3, d4] }
  | _ => none }
def fnExactSetLinkRow : OpenClaim := { program := "ytmbekckgpbmdkaagreat", sum := "a9ef3da6e2985a553c5a11e988e20577ae6765a49adfb3ef332f674f420ab80d", func := "loop.example/g00681/laws.FnExactSetLink", spec := "fnExactSetLink", inPlace := ["slices.overlaps[loop.example/g00681/impl.Edge]", "slices.overlaps[loop.example/g00681/impl.Lsa]"], unfollowed := true, recurses := true, apart := false }
def FnExactSetLinkSaid : Prop := fnExactSetLinkRow.holds Tryz.pinned (OpenSpec.ofChange fnExactSetLinkSpec)

/-- ITS FALSE NEIGHBOUR: 'it returns false'. Refute it at one input. -/
def fnExactSetLinkWrong : ChangeSpec := { name := "fnExactSetLink", fn := fun _ => fun
  | [d1, d2, d3, d4] => { results := [.lit (.bool false)], args := [d1, d2, d3, d4] }
  | _ => none }
def FnExactSetLinkWrongFalsely : Prop := fnExactSetLinkRow.holds Tryz.pinned (OpenSpec.ofChange fnExactSetLinkWrong)

/- THE SECOND FORM. 'bulk': how many values and letters a reading holds, each counted each time it is reached (what is shared counts as often as it is met; a slice's spare places count too). A statement '..UptoSaid' is the law's where the arguments, and the package variables that the reading takes, are together of bulk at most 1048576: NARROWER than '..Said'. Prove '..Said' where nothing that the law and all that it calls make is longer than what came in: it says more and counts as full. Else prove '..UptoSaid'. A law counts once. -/
mutual
def uptoBulk {H : Type} : DataW H → Nat
  | .lit (.string bytes) => bytes.length + 1
  | .lit _ => 1
  | .nil => 1
  | .ptr d => uptoBulk d + 1
  | .slice elems spare => uptoBulkAll elems + uptoBulkAll spare + 1
  | .agg parts => uptoBulkAll parts + 1
  | .iface _ d => uptoBulk d + 1
  | .map entries => uptoBulkEntries entries + 1
  | .held _ => 1
def uptoBulkAll {H : Type} : List (DataW H) → Nat
  | [] => 0
  | d :: r => uptoBulk d + uptoBulkAll r
def uptoBulkEntries {H : Type} : List (Lit × DataW H) → Nat
  | [] => 0
  | x :: r => uptoBulkEntry x + uptoBulkEntries r
def uptoBulkEntry {H : Type} : Lit × DataW H → Nat
  | (.string bytes, d) => bytes.length + uptoBulk d + 1
  | (_, d) => uptoBulk d + 1
 end
def uptoSmall : (H : Type) → List (DataW H) → Bool := fun _ ds => decide (uptoBulkAll ds ≤ 1048576)
def OpenSpec.upto (s : _root_.Go.ChangeSpec) : _root_.Go.OpenSpec := { _root_.Go.OpenSpec.ofChange s with cond := some uptoSmall }

/-- 'laws.FnExactAnnounce', WHERE WHAT IT READS IS OF BULK AT MOST 1048576: true; the input reads as it did. -/
def fnExactAnnounceUptoRow : OpenClaim := { program := "ytmbekckgpbmdkaagreat", sum := "a9ef3da6e2985a553c5a11e988e20577ae6765a49adfb3ef332f674f420ab80d", func := "loop.example/g00681/laws.FnExactAnnounce", spec := "fnExactAnnounce", inPlace := ["slices.overlaps[loop.example/g00681/impl.Lsa]"], unfollowed := true, recurses := true, apart := false, narrowed := true }
def FnExactAnnounceUptoSaid : Prop := fnExactAnnounceUptoRow.holds Tryz.pinned (OpenSpec.upto fnExactAnnounceSpec)

/-- 'laws.FnExactDeliver', WHERE WHAT IT READS IS OF BULK AT MOST 1048576: true; the input reads as it did. -/
def fnExactDeliverUptoRow : OpenClaim := { program := "ytmbekckgpbmdkaagreat", sum := "a9ef3da6e2985a553c5a11e988e20577ae6765a49adfb3ef332f674f420ab80d", func := "loop.example/g00681/laws.FnExactDeliver", spec := "fnExactDeliver", inPlace := ["slices.overlaps[loop.example/g00681/impl.Lsa]"], unfollowed := true, recurses := true, apart := false, narrowed := true }
def FnExactDeliverUptoSaid : Prop := fnExactDeliverUptoRow.holds Tryz.pinned (OpenSpec.upto fnExactDeliverSpec)

/-- 'laws.FnExactSettle', WHERE WHAT IT READS IS OF BULK AT MOST 1048576: true; the input reads as it did. -/
def fnExactSettleUptoRow : OpenClaim := { program := "ytmbekckgpbmdkaagreat", sum := "a9ef3da6e2985a553c5a11e988e20577ae6765a49adfb3ef332f674f420ab80d", func := "loop.example/g00681/laws.FnExactSettle", spec := "fnExactSettle", inPlace := ["slices.overlaps[loop.example/g00681/impl.Lsa]"], unfollowed := true, recurses := true, apart := false, narrowed := true }
def FnExactSettleUptoSaid : Prop := fnExactSettleUptoRow.holds Tryz.pinned (OpenSpec.upto fnExactSettleSpec)

/-- 'laws.FnExactSetLink', WHERE WHAT IT READS IS OF BULK AT MOST 1048576: true; the input reads as it did. -/
def fnExactSetLinkUptoRow : OpenClaim := { program := "ytmbekckgpbmdkaagreat", sum := "a9ef3da6e2985a553c5a11e988e20577ae6765a49adfb3ef332f674f420ab80d", func := "loop.example/g00681/laws.FnExactSetLink", spec := "fnExactSetLink", inPlace := ["slices.overlaps[loop.example/g00681/impl.Edge]", "slices.overlaps[loop.example/g00681/impl.Lsa]"], unfollowed := true, recurses := true, apart := false, narrowed := true }
def FnExactSetLinkUptoSaid : Prop := fnExactSetLinkUptoRow.holds Tryz.pinned (OpenSpec.upto fnExactSetLinkSpec)

end Rows
end Go.Proofs.YtmbekckgpbmdkaaGreat
