/-
For every input the law FnExactTableFor returns true and leaves its arguments as they were; no condition.
-/
import Derived.Test.YtaippfedjjjpeaaGreatArgD
import Derived.Test.YtaippfedjjjpeaaGreatTableForLaw
import Derived.Test.YtaippfedjjjpeaaGreatAbs3
import Derived.Test.YtaippfedjjjpeaaGreatRows
import Derived.WalkKit
import Derived.ProofKit
import Derived.OpenShut
import Derived.ShutString
import Derived.ChangeOld
import Derived.Below
import Derived.Carry
import Derived.SizedLaws
set_option linter.all false
namespace Go.Proofs.YtaippfedjjjpeaaGreat.fnExactTableFor
open Go Go.Abs
theorem law {x0 : List V} (c0 : CTs P 8 [.slice 142] x0) {x1 : List V} (c1 : CTs P 8 [.int .i64] x1) : ACalls P 5 [pack P 24 x0, pack P 3 x1] (fun _ => none) fun v _ => v = .bool true := by
  have e0 : ∀ a, pack P 24 [a] = .agg [a] := fun a => by kernel_rfl
  have e1 : ∀ a, pack P 3 [a] = a := fun a => by kernel_rfl
  obtain ⟨w0, a0, rfl, ht0, hl0, hm0⟩ := db_of (e := 142) (f := 219) (g := 223) c0 (by kernel_rfl) (by kernel_rfl) (by kernel_rfl)
  obtain ⟨x1, rfl⟩ := int_of c1
  rw [e0, e1]
  exact C_l_FnExactTableFor (ht0 _) hl0 hm0 fun _ => rfl
end Go.Proofs.YtaippfedjjjpeaaGreat.fnExactTableFor
namespace Go.Proofs.YtaippfedjjjpeaaGreat.fnExactTableFor
open Go Go.Abs Go.ChangeShapes Go.WideShapes Go.ChangeAt Go.RowKit
set_option linter.unusedVariables false
theorem own : ownKnob Tryz.prog.godebug = none := by kernel_rfl
theorem laidOut : laidOutB Tryz.prog = true := by kernel_rfl
set_option maxRecDepth 100000 in
theorem lifted (os : Os) (started : os.Started) (H : Type) (enc : TypeId × Value → H) :
    ReturnsInHanded {} Tryz.checked os 5 .any (Rows.fnExactTableForSpec.pre6 enc Tryz.prog Tryz.f5 Rows.fnExactTableForRow.domain false) (Rows.fnExactTableForSpec.post enc Tryz.prog Tryz.f5 false true false false) := by
  refine returnsInHanded_of_change_sized (C := Tryz.checked) own started (by kernel_rfl) Tryz.func5
    (ChangeSpec.witness6 (enc := enc) (C := Tryz.checked) false ⟨#[], #[.agg #[.slice none 0 0], .int .i64 0], []⟩ 8 (by kernel_rfl) (by kernel_rfl) (by kernel_rfl) (by kernel_rfl)) ?_
  intro W base args ds gs before hval0 hW hcnd hsz0 _
  have hval : ∀ (j : Nat) t v, Tryz.f5.params[j]? = some t → args[j]? = some v → Value.okWide Tryz.prog W .any base t v := hval0
  have hW' := hW
  obtain ⟨p, q, hA0, hV, rfl, hfz, hnd⟩ := hW
  have hA : DataW.TrodAll enc Tryz.prog W 0 (fun _ => true) true Tryz.f5.params.toList args.toList ds p := hA0
  rw [Tryz.params5] at hA hval
  obtain ⟨v0, vs0, d0, ds0, p0, q0, hargs, rfl, rfl, h0, r0⟩ := trodAll_cons hA
  obtain ⟨v1, vs1, d1, ds1, p1, q1, rfl, rfl, rfl, h1, r1⟩ := trodAll_cons r0
  obtain ⟨rfl, rfl, rfl⟩ := trodAll_nil r1
  obtain rfl : args = #[v0, v1] := by cases args; simp_all
  obtain ⟨rfl, rfl⟩ := trodVars_none hV
  have lt0 : ∀ x ∈ p0, x.block < W.heap.size := by obtain ⟨m, hm⟩ := h0; exact DataW.trod_lt m _ _ _ hm
  obtain ⟨x0, c0, e0⟩ := arg (P := Tryz.prog) (W := W) (ι := fun _ => none) 8 (t := 24) (scs := [.slice 142]) (by kernel_rfl) (by kernel_rfl) (hval 0 24 v0 rfl rfl) h0
  have lt1 : ∀ x ∈ p1, x.block < W.heap.size := by obtain ⟨m, hm⟩ := h1; exact DataW.trod_lt m _ _ _ hm
  obtain ⟨x1, c1, e1⟩ := arg (P := Tryz.prog) (W := W) (ι := fun _ => none) 8 (t := 3) (scs := [.int .i64]) (by kernel_rfl) (by kernel_rfl) (hval 1 3 v1 rfl rfl) h1
  clear hA0 hval0 hsz0
  refine (law_run (RelL.cons e0 (RelL.cons e1 RelL.nil)) (law c0 c1)).mono fun e W' ⟨he, bel⟩ => ?_
  subst he
  exact ⟨_, rfl, _, _, _, [], _, [], hW', trodAll_mk1 (shut_bool Tryz.underlying4 _), (trodAll_cons_mk (Below.trod laidOut (by kernel_rfl) (of_decide_eq_true (by kernel_rfl)) h0 bel lt0) (trodAll_cons_mk (Below.trod laidOut (by kernel_rfl) (of_decide_eq_true (by kernel_rfl)) h1 bel lt1) trodAll_mk0)), rfl, bel.frame _, fun h => by cases h⟩
theorem over : Rows.fnExactTableForRow.holds Tryz.pinned (OpenSpec.ofChange Rows.fnExactTableForSpec) :=
  OpenClaim.holds_of_wide 5 Tryz.f5 rfl rfl rfl rfl rfl rfl rfl ⟨rfl, rfl, rfl, rfl, rfl⟩ rfl rfl rfl rfl rfl (by kernel_rfl) Tryz.func5 (by kernel_rfl)
    (of_decide_eq_true (by kernel_rfl)) (by unfold Func.isWrapper; first | (rw [if_pos (by decide +kernel)]; kernel_rfl) | (rw [if_neg (by decide +kernel)]; exact ⟨rfl, rfl⟩))
    (fun os started H enc _ => lifted os started H enc)
theorem proved : Rows.FnExactTableForSaid := over
end Go.Proofs.YtaippfedjjjpeaaGreat.fnExactTableFor
namespace Go.Proofs.YtaippfedjjjpeaaGreat
/-- The row, under a short name, for the claim. -/
theorem fnExactTableFor_holds : Rows.FnExactTableForSaid := fnExactTableFor.proved
end Go.Proofs.YtaippfedjjjpeaaGreat
