/-
  No cell of these rows narrows 'for every input' (looked for: loops, veiled, ifaces, maps, wideKeys, modest, calm, conditions, laid).
  DERIVED. THE GIVEN ROWS OF THIS SEAT. 4 by the template 'for every input the law returns true; each argument reads behind the call as it read before'; 0 by the template 'total and deterministic' (their statements: YtcmpkkcbdmllpacTotals.lean).
  GIVEN WITH THE SEED: the statements are not yours to turn. If you find one false, say at which input.
  Laid BY PROGRAM, IN A SANDBOX (cutbox-rows.mjs): the forced cells as the released guide's own fill.sh prints them over the translation e3696101ce58b3d1… (all of the seat's roots in one cut). By AI agents, Wed Nov 11 2026. No macro, syntax, notation, axiom, sorry.
-/
import Derived.Test.YtcmpkkcbdmllpacChecked
import GoSem.Claim
import GoSem.ClaimJoined
import GoSem.ClaimMapViews
import Derived.JoinedTies
import Derived.KernelRfl
namespace Go.Proofs.Ytcmpkkcbdmllpac
/- THE CELL 'sum', in the pinned program and in every row, IS THE sha256 OF THE DUMP (.gsa) THAT YtcmpkkcbdmllpacProg.lean LOADS. Nothing in Lean hashes anything: it is a label: what it is worth is what the hold of that sum in a sandbox is worth. -/
noncomputable def Try.pinned : Pinned := { name := "ytcmpkkcbdmllpac", sum := "e3696101ce58b3d1433189e09483c6b600fcf69f58e14fa3a86e0632faf0507a", checked := Try.checked }
namespace Rows
def none {H : Type} : Left H := { results := [], args := [] }

/-- 'laws.FnExactTakeLsa': WHATEVER THE INPUT: true; the input reads as it did. -/
def fnExactTakeLsaSpec : ChangeSpec := { name := "fnExactTakeLsa", fn := fun _ => fun
  | [d] => { results := [.lit (.bool true)], args := [d] }
  | _ => none }
def fnExactTakeLsaRow : OpenClaim := { program := "ytcmpkkcbdmllpac", sum := "e3696101ce58b3d1433189e09483c6b600fcf69f58e14fa3a86e0632faf0507a", func := "loop.example/g00681/laws.FnExactTakeLsa", spec := "fnExactTakeLsa", apart := false }
def FnExactTakeLsaSaid : Prop := fnExactTakeLsaRow.holds Try.pinned (OpenSpec.ofChange fnExactTakeLsaSpec)

/-- ITS FALSE NEIGHBOUR: 'it returns false'. Refute it at one input. -/
def fnExactTakeLsaWrong : ChangeSpec := { name := "fnExactTakeLsa", fn := fun _ => fun
  | [d] => { results := [.lit (.bool false)], args := [d] }
  | _ => none }
def FnExactTakeLsaWrongFalsely : Prop := fnExactTakeLsaRow.holds Try.pinned (OpenSpec.ofChange fnExactTakeLsaWrong)

/-- 'laws.FnExactFindLsa': WHATEVER THE INPUT: true; the input reads as it did. -/
def fnExactFindLsaSpec : ChangeSpec := { name := "fnExactFindLsa", fn := fun _ => fun
  | [d1, d2] => { results := [.lit (.bool true)], args := [d1, d2] }
  | _ => none }
def fnExactFindLsaRow : OpenClaim := { program := "ytcmpkkcbdmllpac", sum := "e3696101ce58b3d1433189e09483c6b600fcf69f58e14fa3a86e0632faf0507a", func := "loop.example/g00681/laws.FnExactFindLsa", spec := "fnExactFindLsa", unfollowed := true, recurses := true, apart := false }
def FnExactFindLsaSaid : Prop := fnExactFindLsaRow.holds Try.pinned (OpenSpec.ofChange fnExactFindLsaSpec)

/-- ITS FALSE NEIGHBOUR: 'it returns false'. Refute it at one input. -/
def fnExactFindLsaWrong : ChangeSpec := { name := "fnExactFindLsa", fn := fun _ => fun
  | [d1, d2] => { results := [.lit (.bool false)], args := [d1, d2] }
  | _ => none }
def FnExactFindLsaWrongFalsely : Prop := fnExactFindLsaRow.holds Try.pinned (OpenSpec.ofChange fnExactFindLsaWrong)

/-- 'laws.FnExactAgeDb': WHATEVER THE INPUT: true; the input reads as it did. -/
def fnExactAgeDbSpec : ChangeSpec := { name := "fnExactAgeDb", fn := fun _ => fun
  | [d1, d2] => { results := [.lit (.bool true)], args := [d1, d2] }
  | _ => none }
def fnExactAgeDbRow : OpenClaim := { program := "ytcmpkkcbdmllpac", sum := "e3696101ce58b3d1433189e09483c6b600fcf69f58e14fa3a86e0632faf0507a", func := "loop.example/g00681/laws.FnExactAgeDb", spec := "fnExactAgeDb", apart := false }
def FnExactAgeDbSaid : Prop := fnExactAgeDbRow.holds Try.pinned (OpenSpec.ofChange fnExactAgeDbSpec)

/-- ITS FALSE NEIGHBOUR: 'it returns false'. Refute it at one input. -/
def fnExactAgeDbWrong : ChangeSpec := { name := "fnExactAgeDb", fn := fun _ => fun
  | [d1, d2] => { results := [.lit (.bool false)], args := [d1, d2] }
  | _ => none }
def FnExactAgeDbWrongFalsely : Prop := fnExactAgeDbRow.holds Try.pinned (OpenSpec.ofChange fnExactAgeDbWrong)

/-- 'laws.FnExactGraphOf': WHATEVER THE INPUT: true; the input reads as it did. -/
def fnExactGraphOfSpec : ChangeSpec := { name := "fnExactGraphOf", fn := fun _ => fun
  | [d] => { results := [.lit (.bool true)], args := [d] }
  | _ => none }
def fnExactGraphOfRow : OpenClaim := { program := "ytcmpkkcbdmllpac", sum := "e3696101ce58b3d1433189e09483c6b600fcf69f58e14fa3a86e0632faf0507a", func := "loop.example/g00681/laws.FnExactGraphOf", spec := "fnExactGraphOf", unfollowed := true, recurses := true, apart := false }
def FnExactGraphOfSaid : Prop := fnExactGraphOfRow.holds Try.pinned (OpenSpec.ofChange fnExactGraphOfSpec)

/-- ITS FALSE NEIGHBOUR: 'it returns false'. Refute it at one input. -/
def fnExactGraphOfWrong : ChangeSpec := { name := "fnExactGraphOf", fn := fun _ => fun
  | [d] => { results := [.lit (.bool false)], args := [d] }
  | _ => none }
def FnExactGraphOfWrongFalsely : Prop := fnExactGraphOfRow.holds Try.pinned (OpenSpec.ofChange fnExactGraphOfWrong)

/- THE SECOND FORM. 'bulk': how many values and letters a reading holds, each counted each time it is reached (what is shared counts as often as it is met; a slice's spare places count too). A statement '..UptoSaid' is the law's where the arguments, and the package variables that the reading takes, are together of bulk at most 1048576: NARROWER than '..Said'. Prove '..Said' where nothing that the law and all that it calls make is longer than what came in: it says more and counts as full. Else prove '..UptoSaid'. A law counts once. -/
mutual
def uptoBulk {H : Type} : DataW H → Nat
  | .lit (.string bytes) => bytes.length + 1
  | .lit _ => 1
  | .nil => 1
  | .ptr d => uptoBulk d + 1
  | .slice elems spare => uptoBulkAll elems + uptoBulkAll spare + 1
  | .agg parts => uptoBulkAll parts + 1
  | .iface _ d => uptoBulk d + 1
  | .map entries => uptoBulkEntries entries + 1
  | .held _ => 1
def uptoBulkAll {H : Type} : List (DataW H) → Nat
  | [] => 0
  | d :: r => uptoBulk d + uptoBulkAll r
def uptoBulkEntries {H : Type} : List (Lit × DataW H) → Nat
  | [] => 0
  | x :: r => uptoBulkEntry x + uptoBulkEntries r
def uptoBulkEntry {H : Type} : Lit × DataW H → Nat
  | (.string bytes, d) => bytes.length + uptoBulk d + 1
  | (_, d) => uptoBulk d + 1
 end
def uptoSmall : (H : Type) → List (DataW H) → Bool := fun _ ds => decide (uptoBulkAll ds ≤ 1048576)
def OpenSpec.upto (s : _root_.Go.ChangeSpec) : _root_.Go.OpenSpec := { _root_.Go.OpenSpec.ofChange s with cond := some uptoSmall }

/-- 'laws.FnExactTakeLsa', WHERE WHAT IT READS IS OF BULK AT MOST 1048576: true; the input reads as it did. -/
def fnExactTakeLsaUptoRow : OpenClaim := { program := "ytcmpkkcbdmllpac", sum := "e3696101ce58b3d1433189e09483c6b600fcf69f58e14fa3a86e0632faf0507a", func := "loop.example/g00681/laws.FnExactTakeLsa", spec := "fnExactTakeLsa", apart := false, narrowed := true }
def FnExactTakeLsaUptoSaid : Prop := fnExactTakeLsaUptoRow.holds Try.pinned (OpenSpec.upto fnExactTakeLsaSpec)

/-- 'laws.FnExactFindLsa', WHERE WHAT IT READS IS OF BULK AT MOST 1048576: true; the input reads as it did. -/
def fnExactFindLsaUptoRow : OpenClaim := { program := "ytcmpkkcbdmllpac", sum := "e3696101ce58b3d1433189e09483c6b600fcf69f58e14fa3a86e0632faf0507a", func := "loop.example/g00681/laws.FnExactFindLsa", spec := "fnExactFindLsa", unfollowed := true, recurses := true, apart := false, narrowed := true }
def FnExactFindLsaUptoSaid : Prop := fnExactFindLsaUptoRow.holds Try.pinned (OpenSpec.upto fnExactFindLsaSpec)

/-- 'laws.FnExactAgeDb', WHERE WHAT IT READS IS OF BULK AT MOST 1048576: true; the input reads as it did. -/
def fnExactAgeDbUptoRow : OpenClaim := { program := "ytcmpkkcbdmllpac", sum := "e3696101ce58b3d1433189e09483c6b600fcf69f58e14fa3a86e0632faf0507a", func := "loop.example/g00681/laws.FnExactAgeDb", spec := "fnExactAgeDb", apart := false, narrowed := true }
def FnExactAgeDbUptoSaid : Prop := fnExactAgeDbUptoRow.holds Try.pinned (OpenSpec.upto fnExactAgeDbSpec)

/-- 'laws.FnExactGraphOf', WHERE WHAT IT READS IS OF BULK AT MOST 1048576: true; the input reads as it did. -/
def fnExactGraphOfUptoRow : OpenClaim := { program := "ytcmpkkcbdmllpac", sum := "e3696101ce58b3d1433189e09483c6b600fcf69f58e14fa3a86e0632faf0507a", func := "loop.example/g00681/laws.FnExactGraphOf", spec := "fnExactGraphOf", unfollowed := true, recurses := true, apart := false, narrowed := true }
def FnExactGraphOfUptoSaid : Prop := fnExactGraphOfUptoRow.holds Try.pinned (OpenSpec.upto fnExactGraphOfSpec)

end Rows
end Go.Proofs.Ytcmpkkcbdmllpac
