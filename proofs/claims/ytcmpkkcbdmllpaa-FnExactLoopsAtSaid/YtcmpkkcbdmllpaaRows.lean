/-
  No cell of these rows narrows 'for every input' (looked for: loops, veiled, ifaces, maps, wideKeys, modest, calm, conditions, laid).
  DERIVED. THE GIVEN ROWS OF THIS SEAT. 4 by the template 'for every input the law returns true; each argument reads behind the call as it read before'; 0 by the template 'total and deterministic' (their statements: YtcmpkkcbdmllpaaTotals.lean).
  GIVEN WITH THE SEED: the statements are not yours to turn. If you find one false, say at which input.
  Laid BY PROGRAM, IN A SANDBOX (cutbox-rows.mjs): the forced cells as the released guide's own fill.sh prints them over the translation bb7402a63b003088… (all of the seat's roots in one cut). By AI agents, Wed Nov 11 2026. No macro, syntax, notation, axiom, sorry.
-/
import Derived.Test.YtcmpkkcbdmllpaaChecked
import GoSem.Claim
import GoSem.ClaimJoined
import GoSem.ClaimMapViews
import Derived.JoinedTies
import Derived.KernelRfl
namespace Go.Proofs.Ytcmpkkcbdmllpaa
/- THE CELL 'sum', in the pinned program and in every row, IS THE sha256 OF THE DUMP (.gsa) THAT YtcmpkkcbdmllpaaProg.lean LOADS. Nothing in Lean hashes anything: it is a label: what it is worth is what the hold of that sum in a sandbox is worth. -/
noncomputable def Try.pinned : Pinned := { name := "ytcmpkkcbdmllpaa", sum := "bb7402a63b003088d4ca59210704c76e77ff614f45ae67926fdf0357b84ba6e3", checked := Try.checked }
namespace Rows
def none {H : Type} : Left H := { results := [], args := [] }

/-- 'laws.FnExactCountHome': WHATEVER THE INPUT: true; the input reads as it did. -/
def fnExactCountHomeSpec : ChangeSpec := { name := "fnExactCountHome", fn := fun _ => fun
  | [d1, d2] => { results := [.lit (.bool true)], args := [d1, d2] }
  | _ => none }
def fnExactCountHomeRow : OpenClaim := { program := "ytcmpkkcbdmllpaa", sum := "bb7402a63b003088d4ca59210704c76e77ff614f45ae67926fdf0357b84ba6e3", func := "loop.example/g00681/laws.FnExactCountHome", spec := "fnExactCountHome", unfollowed := true, recurses := true, apart := false }
def FnExactCountHomeSaid : Prop := fnExactCountHomeRow.holds Try.pinned (OpenSpec.ofChange fnExactCountHomeSpec)

/-- ITS FALSE NEIGHBOUR: 'it returns false'. Refute it at one input. -/
def fnExactCountHomeWrong : ChangeSpec := { name := "fnExactCountHome", fn := fun _ => fun
  | [d1, d2] => { results := [.lit (.bool false)], args := [d1, d2] }
  | _ => none }
def FnExactCountHomeWrongFalsely : Prop := fnExactCountHomeRow.holds Try.pinned (OpenSpec.ofChange fnExactCountHomeWrong)

/-- 'laws.FnExactSinks': WHATEVER THE INPUT: true; the input reads as it did. -/
def fnExactSinksSpec : ChangeSpec := { name := "fnExactSinks", fn := fun _ => fun
  | [d1, d2] => { results := [.lit (.bool true)], args := [d1, d2] }
  | _ => none }
def fnExactSinksRow : OpenClaim := { program := "ytcmpkkcbdmllpaa", sum := "bb7402a63b003088d4ca59210704c76e77ff614f45ae67926fdf0357b84ba6e3", func := "loop.example/g00681/laws.FnExactSinks", spec := "fnExactSinks", unfollowed := true, recurses := true, apart := false }
def FnExactSinksSaid : Prop := fnExactSinksRow.holds Try.pinned (OpenSpec.ofChange fnExactSinksSpec)

/-- ITS FALSE NEIGHBOUR: 'it returns false'. Refute it at one input. -/
def fnExactSinksWrong : ChangeSpec := { name := "fnExactSinks", fn := fun _ => fun
  | [d1, d2] => { results := [.lit (.bool false)], args := [d1, d2] }
  | _ => none }
def FnExactSinksWrongFalsely : Prop := fnExactSinksRow.holds Try.pinned (OpenSpec.ofChange fnExactSinksWrong)

/-- 'laws.FnExactWalk': WHATEVER THE INPUT: true; the input reads as it did. -/
def fnExactWalkSpec : ChangeSpec := { name := "fnExactWalk", fn := fun _ => fun
  | [d1, d2, d3, d4] => { results := [.lit (.bool true)], args := [d1, d2, d3, d4] }
  | _ => none }
def fnExactWalkRow : OpenClaim := { program := "ytcmpkkcbdmllpaa", sum := "bb7402a63b003088d4ca59210704c76e77ff614f45ae67926fdf0357b84ba6e3", func := "loop.example/g00681/laws.FnExactWalk", spec := "fnExactWalk", unfollowed := true, recurses := true, apart := false }
def FnExactWalkSaid : Prop := fnExactWalkRow.holds Try.pinned (OpenSpec.ofChange fnExactWalkSpec)

/-- ITS FALSE NEIGHBOUR: 'it returns false'. Refute it at one input. -/
def fnExactWalkWrong : ChangeSpec := { name := "fnExactWalk", fn := fun _ => fun
  | [d1, d2, d3, d4] => { results := [.lit (.bool false)], args := [d1, d2, d3, d4] }
  | _ => none }
def FnExactWalkWrongFalsely : Prop := fnExactWalkRow.holds Try.pinned (OpenSpec.ofChange fnExactWalkWrong)

/-- 'laws.FnExactLoopsAt': WHATEVER THE INPUT: true; the input reads as it did. -/
def fnExactLoopsAtSpec : ChangeSpec := { name := "fnExactLoopsAt", fn := fun _ => fun
  | [d1, d2] => { results := [.lit (.bool true)], args := [d1, d2] }
  | _ => none }
def fnExactLoopsAtRow : OpenClaim := { program := "ytcmpkkcbdmllpaa", sum := "bb7402a63b003088d4ca59210704c76e77ff614f45ae67926fdf0357b84ba6e3", func := "loop.example/g00681/laws.FnExactLoopsAt", spec := "fnExactLoopsAt", unfollowed := true, recurses := true, apart := false }
def FnExactLoopsAtSaid : Prop := fnExactLoopsAtRow.holds Try.pinned (OpenSpec.ofChange fnExactLoopsAtSpec)

/-- ITS FALSE NEIGHBOUR: 'it returns false'. Refute it at one input. -/
def fnExactLoopsAtWrong : ChangeSpec := { name := "fnExactLoopsAt", fn := fun _ => fun
  | [d1, d2] => { results := [.lit (.bool false)], args := [d1, d2] }
  | _ => none }
def FnExactLoopsAtWrongFalsely : Prop := fnExactLoopsAtRow.holds Try.pinned (OpenSpec.ofChange fnExactLoopsAtWrong)

/- THE SECOND FORM. 'bulk': how many values and letters a reading holds, each counted each time it is reached (what is shared counts as often as it is met; a slice's spare places count too). A statement '..UptoSaid' is the law's where the arguments, and the package variables that the reading takes, are together of bulk at most 1048576: NARROWER than '..Said'. Prove '..Said' where nothing that the law and all that it calls make is longer than what came in: it says more and counts as full. Else prove '..UptoSaid'. A law counts once. -/
mutual
def uptoBulk {H : Type} : DataW H → Nat
  | .lit (.string bytes) => bytes.length + 1
  | .lit _ => 1
  | .nil => 1
  | .ptr d => uptoBulk d + 1
  | .slice elems spare => uptoBulkAll elems + uptoBulkAll spare + 1
  | .agg parts => uptoBulkAll parts + 1
  | .iface _ d => uptoBulk d + 1
  | .map entries => uptoBulkEntries entries + 1
  | .held _ => 1
def uptoBulkAll {H : Type} : List (DataW H) → Nat
  | [] => 0
  | d :: r => uptoBulk d + uptoBulkAll r
def uptoBulkEntries {H : Type} : List (Lit × DataW H) → Nat
  | [] => 0
  | x :: r => uptoBulkEntry x + uptoBulkEntries r
def uptoBulkEntry {H : Type} : Lit × DataW H → Nat
  | (.string bytes, d) => bytes.length + uptoBulk d + 1
  | (_, d) => uptoBulk d + 1
 end
def uptoSmall : (H : Type) → List (DataW H) → Bool := fun _ ds => decide (uptoBulkAll ds ≤ 1048576)
def OpenSpec.upto (s : _root_.Go.ChangeSpec) : _root_.Go.OpenSpec := { _root_.Go.OpenSpec.ofChange s with cond := some uptoSmall }

/-- 'laws.FnExactCountHome', WHERE WHAT IT READS IS OF BULK AT MOST 1048576: true; the input reads as it did. -/
def fnExactCountHomeUptoRow : OpenClaim := { program := "ytcmpkkcbdmllpaa", sum := "bb7402a63b003088d4ca59210704c76e77ff614f45ae67926fdf0357b84ba6e3", func := "loop.example/g00681/laws.FnExactCountHome", spec := "fnExactCountHome", unfollowed := true, recurses := true, apart := false, narrowed := true }
def FnExactCountHomeUptoSaid : Prop := fnExactCountHomeUptoRow.holds Try.pinned (OpenSpec.upto fnExactCountHomeSpec)

/-- 'laws.FnExactSinks', WHERE WHAT IT READS IS OF BULK AT MOST 1048576: true; the input reads as it did. -/
def fnExactSinksUptoRow : OpenClaim := { program := "ytcmpkkcbdmllpaa", sum := "bb7402a63b003088d4ca59210704c76e77ff614f45ae67926fdf0357b84ba6e3", func := "loop.example/g00681/laws.FnExactSinks", spec := "fnExactSinks", unfollowed := true, recurses := true, apart := false, narrowed := true }
def FnExactSinksUptoSaid : Prop := fnExactSinksUptoRow.holds Try.pinned (OpenSpec.upto fnExactSinksSpec)

/-- 'laws.FnExactWalk', WHERE WHAT IT READS IS OF BULK AT MOST 1048576: true; the input reads as it did. -/
def fnExactWalkUptoRow : OpenClaim := { program := "ytcmpkkcbdmllpaa", sum := "bb7402a63b003088d4ca59210704c76e77ff614f45ae67926fdf0357b84ba6e3", func := "loop.example/g00681/laws.FnExactWalk", spec := "fnExactWalk", unfollowed := true, recurses := true, apart := false, narrowed := true }
def FnExactWalkUptoSaid : Prop := fnExactWalkUptoRow.holds Try.pinned (OpenSpec.upto fnExactWalkSpec)

/-- 'laws.FnExactLoopsAt', WHERE WHAT IT READS IS OF BULK AT MOST 1048576: true; the input reads as it did. -/
def fnExactLoopsAtUptoRow : OpenClaim := { program := "ytcmpkkcbdmllpaa", sum := "bb7402a63b003088d4ca59210704c76e77ff614f45ae67926fdf0357b84ba6e3", func := "loop.example/g00681/laws.FnExactLoopsAt", spec := "fnExactLoopsAt", unfollowed := true, recurses := true, apart := false, narrowed := true }
def FnExactLoopsAtUptoSaid : Prop := fnExactLoopsAtUptoRow.holds Try.pinned (OpenSpec.upto fnExactLoopsAtSpec)

end Rows
end Go.Proofs.Ytcmpkkcbdmllpaa
