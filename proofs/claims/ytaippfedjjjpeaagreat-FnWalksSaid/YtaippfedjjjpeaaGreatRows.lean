/-
  No cell of these rows narrows 'for every input' (looked for: loops, veiled, ifaces, maps, wideKeys, modest, calm, conditions, laid).
  DERIVED. THE GIVEN ROWS OF THIS SEAT. 4 by the template 'for every input the law returns true; each argument reads behind the call as it read before'; 0 by the template 'total and deterministic' (their statements: YtaippfedjjjpeaaGreatTotals.lean).
  GIVEN WITH THE SEED: the statements are not yours to turn. If you find one false, say at which input.
  Laid BY PROGRAM, IN A SANDBOX (cutbox-rows.mjs): the forced cells as the released guide's own fill.sh prints them over the translation dda41f7521643f03… (all of the seat's roots in one cut). By AI agents, Wed Nov 11 2026. No macro, syntax, notation, axiom, sorry.
-/
import Derived.Test.YtaippfedjjjpeaaGreatChecked
import GoSem.Claim
import GoSem.ClaimJoined
import GoSem.ClaimMapViews
import Derived.JoinedTies
import Derived.KernelRfl
namespace Go.Proofs.YtaippfedjjjpeaaGreat
/- THE CELL 'sum', in the pinned program and in every row, IS THE sha256 OF THE DUMP (.gsa) THAT YtaippfedjjjpeaaGreatProg.lean LOADS. Nothing in Lean hashes anything: it is a label: what it is worth is what the hold of that sum in a sandbox is worth. -/
noncomputable def Tryz.pinned : Pinned := { name := "ytaippfedjjjpeaagreat", sum := "dda41f7521643f03f55b7cde4187456e741100918068f9abbb2833a9b5b3f05c", checked := Tryz.checked }
namespace Rows
def none {H : Type} : Left H := { results := [], args := [] }

/-- 'laws.FnExactPrefixesOf': WHATEVER THE INPUT: true; the input reads as it did. -/
def fnExactPrefixesOfSpec : ChangeSpec := { name := "fnExactPrefixesOf", fn := fun _ => fun
  | [d1, d2] => { results := [.lit (.bool true)], args := [d1, d2] }
  | _ => none }
def fnExactPrefixesOfRow : OpenClaim := { program := "ytaippfedjjjpeaagreat", sum := "dda41f7521643f03f55b7cde4187456e741100918068f9abbb2833a9b5b3f05c", func := "loop.example/g00681/laws.FnExactPrefixesOf", spec := "fnExactPrefixesOf", unfollowed := true, recurses := true, apart := false }
def FnExactPrefixesOfSaid : Prop := fnExactPrefixesOfRow.holds Tryz.pinned (OpenSpec.ofChange fnExactPrefixesOfSpec)

/-- ITS FALSE NEIGHBOUR: 'it returns false'. Refute it at one input. -/
def fnExactPrefixesOfWrong : ChangeSpec := { name := "fnExactPrefixesOf", fn := fun _ => fun
  | [d1, d2] => { results := [.lit (.bool false)], args := [d1, d2] }
  | _ => none }
def FnExactPrefixesOfWrongFalsely : Prop := fnExactPrefixesOfRow.holds Tryz.pinned (OpenSpec.ofChange fnExactPrefixesOfWrong)

/-- 'laws.FnWalks': WHATEVER THE INPUT: true; the input reads as it did. -/
def fnWalksSpec : ChangeSpec := { name := "fnWalks", fn := fun _ => fun
  | [d] => { results := [.lit (.bool true)], args := [d] }
  | _ => none }
def fnWalksRow : OpenClaim := { program := "ytaippfedjjjpeaagreat", sum := "dda41f7521643f03f55b7cde4187456e741100918068f9abbb2833a9b5b3f05c", func := "loop.example/g00681/laws.FnWalks", spec := "fnWalks", unfollowed := true, recurses := true, apart := false }
def FnWalksSaid : Prop := fnWalksRow.holds Tryz.pinned (OpenSpec.ofChange fnWalksSpec)

/-- ITS FALSE NEIGHBOUR: 'it returns false'. Refute it at one input. -/
def fnWalksWrong : ChangeSpec := { name := "fnWalks", fn := fun _ => fun
  | [d] => { results := [.lit (.bool false)], args := [d] }
  | _ => none }
def FnWalksWrongFalsely : Prop := fnWalksRow.holds Tryz.pinned (OpenSpec.ofChange fnWalksWrong)

/-- 'laws.FnExactTableFor': WHATEVER THE INPUT: true; the input reads as it did. -/
def fnExactTableForSpec : ChangeSpec := { name := "fnExactTableFor", fn := fun _ => fun
  | [d1, d2] => { results := [.lit (.bool true)], args := [d1, d2] }
  | _ => none }
def fnExactTableForRow : OpenClaim := { program := "ytaippfedjjjpeaagreat", sum := "dda41f7521643f03f55b7cde4187456e741100918068f9abbb2833a9b5b3f05c", func := "loop.example/g00681/laws.FnExactTableFor", spec := "fnExactTableFor", unfollowed := true, recurses := true, apart := false }
def FnExactTableForSaid : Prop := fnExactTableForRow.holds Tryz.pinned (OpenSpec.ofChange fnExactTableForSpec)

/-- ITS FALSE NEIGHBOUR: 'it returns false'. Refute it at one input. -/
def fnExactTableForWrong : ChangeSpec := { name := "fnExactTableFor", fn := fun _ => fun
  | [d1, d2] => { results := [.lit (.bool false)], args := [d1, d2] }
  | _ => none }
def FnExactTableForWrongFalsely : Prop := fnExactTableForRow.holds Tryz.pinned (OpenSpec.ofChange fnExactTableForWrong)

/-- 'laws.FnExactTablesOf': WHATEVER THE INPUT: true; the input reads as it did. -/
def fnExactTablesOfSpec : ChangeSpec := { name := "fnExactTablesOf", fn := fun _ => fun
  | [d] => { results := [.lit (.bool true)], args := [d] }
  | _ => none }
def fnExactTablesOfRow : OpenClaim := { program := "ytaippfedjjjpeaagreat", sum := "dda41f7521643f03f55b7cde4187456e741100918068f9abbb2833a9b5b3f05c", func := "loop.example/g00681/laws.FnExactTablesOf", spec := "fnExactTablesOf", unfollowed := true, recurses := true, apart := false }
def FnExactTablesOfSaid : Prop := fnExactTablesOfRow.holds Tryz.pinned (OpenSpec.ofChange fnExactTablesOfSpec)

/-- ITS FALSE NEIGHBOUR: 'it returns false'. Refute it at one input. -/
def fnExactTablesOfWrong : ChangeSpec := { name := "fnExactTablesOf", fn := fun _ => fun
  | [d] => { results := [.lit (.bool false)], args := [d] }
  | _ => none }
def FnExactTablesOfWrongFalsely : Prop := fnExactTablesOfRow.holds Tryz.pinned (OpenSpec.ofChange fnExactTablesOfWrong)

/- THE SECOND FORM. 'bulk': how many values and letters a reading holds, each counted each time it is reached (what is shared counts as often as it is met; a slice's spare places count too). A statement '..UptoSaid' is the law's where the arguments, and the package variables that the reading takes, are together of bulk at most 1048576: NARROWER than '..Said'. Prove '..Said' where nothing that the law and all that it calls make is longer than what came in: it says more and counts as full. Else prove '..UptoSaid'. A law counts once. -/
mutual
def uptoBulk {H : Type} : DataW H → Nat
  | .lit (.string bytes) => bytes.length + 1
  | .lit _ => 1
  | .nil => 1
  | .ptr d => uptoBulk d + 1
  | .slice elems spare => uptoBulkAll elems + uptoBulkAll spare + 1
  | .agg parts => uptoBulkAll parts + 1
  | .iface _ d => uptoBulk d + 1
  | .map entries => uptoBulkEntries entries + 1
  | .held _ => 1
def uptoBulkAll {H : Type} : List (DataW H) → Nat
  | [] => 0
  | d :: r => uptoBulk d + uptoBulkAll r
def uptoBulkEntries {H : Type} : List (Lit × DataW H) → Nat
  | [] => 0
  | x :: r => uptoBulkEntry x + uptoBulkEntries r
def uptoBulkEntry {H : Type} : Lit × DataW H → Nat
  | (.string bytes, d) => bytes.length + uptoBulk d + 1
  | (_, d) => uptoBulk d + 1
 end
def uptoSmall : (H : Type) → List (DataW H) → Bool := fun _ ds => decide (uptoBulkAll ds ≤ 1048576)
def OpenSpec.upto (s : _root_.Go.ChangeSpec) : _root_.Go.OpenSpec := { _root_.Go.OpenSpec.ofChange s with cond := some uptoSmall }

/-- 'laws.FnExactPrefixesOf', WHERE WHAT IT READS IS OF BULK AT MOST 1048576: true; the input reads as it did. -/
def fnExactPrefixesOfUptoRow : OpenClaim := { program := "ytaippfedjjjpeaagreat", sum := "dda41f7521643f03f55b7cde4187456e741100918068f9abbb2833a9b5b3f05c", func := "loop.example/g00681/laws.FnExactPrefixesOf", spec := "fnExactPrefixesOf", unfollowed := true, recurses := true, apart := false, narrowed := true }
def FnExactPrefixesOfUptoSaid : Prop := fnExactPrefixesOfUptoRow.holds Tryz.pinned (OpenSpec.upto fnExactPrefixesOfSpec)

/-- 'laws.FnWalks', WHERE WHAT IT READS IS OF BULK AT MOST 1048576: true; the input reads as it did. -/
def fnWalksUptoRow : OpenClaim := { program := "ytaippfedjjjpeaagreat", sum := "dda41f7521643f03f55b7cde4187456e741100918068f9abbb2833a9b5b3f05c", func := "loop.example/g00681/laws.FnWalks", spec := "fnWalks", unfollowed := true, recurses := true, apart := false, narrowed := true }
def FnWalksUptoSaid : Prop := fnWalksUptoRow.holds Tryz.pinned (OpenSpec.upto fnWalksSpec)

/-- 'laws.FnExactTableFor', WHERE WHAT IT READS IS OF BULK AT MOST 1048576: true; the input reads as it did. -/
def fnExactTableForUptoRow : OpenClaim := { program := "ytaippfedjjjpeaagreat", sum := "dda41f7521643f03f55b7cde4187456e741100918068f9abbb2833a9b5b3f05c", func := "loop.example/g00681/laws.FnExactTableFor", spec := "fnExactTableFor", unfollowed := true, recurses := true, apart := false, narrowed := true }
def FnExactTableForUptoSaid : Prop := fnExactTableForUptoRow.holds Tryz.pinned (OpenSpec.upto fnExactTableForSpec)

/-- 'laws.FnExactTablesOf', WHERE WHAT IT READS IS OF BULK AT MOST 1048576: true; the input reads as it did. -/
def fnExactTablesOfUptoRow : OpenClaim := { program := "ytaippfedjjjpeaagreat", sum := "dda41f7521643f03f55b7cde4187456e741100918068f9abbb2833a9b5b3f05c", func := "loop.example/g00681/laws.FnExactTablesOf", spec := "fnExactTablesOf", unfollowed := true, recurses := true, apart := false, narrowed := true }
def FnExactTablesOfUptoSaid : Prop := fnExactTablesOfUptoRow.holds Tryz.pinned (OpenSpec.upto fnExactTablesOfSpec)

end Rows
end Go.Proofs.YtaippfedjjjpeaaGreat
