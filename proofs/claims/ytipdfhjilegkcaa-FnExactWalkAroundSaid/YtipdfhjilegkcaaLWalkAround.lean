/-
For every input the law FnExactWalkAround returns true and leaves its arguments as they were; no condition.
-/
import Derived.Test.YtipdfhjilegkcaaGraphL
import Derived.Test.YtipdfhjilegkcaaAroundLaw
import Derived.Test.YtipdfhjilegkcaaAbs3
import Derived.Test.YtipdfhjilegkcaaRows
import Derived.WalkKit
import Derived.ProofKit
import Derived.OpenShut
import Derived.ShutString
import Derived.ChangeOld
import Derived.Below
import Derived.Carry
import Derived.SizedLaws
set_option linter.all false
namespace Go.Proofs.Ytipdfhjilegkcaa.fnExactWalkAround
open Go Go.Abs
theorem law {x0 : List V} (c0 : CTs P 8 [.int .i64, .slice 110] x0) {x1 : List V} (c1 : CTs P 8 [.int .i64] x1) {x2 : List V} (c2 : CTs P 8 [.int .i64] x2) {x3 : List V} (c3 : CTs P 8 [.int .i64] x3) : ACalls P 6 [pack P 36 x0, pack P 3 x1, pack P 3 x2, pack P 3 x3] (fun _ => none) fun v _ => v = .bool true := by
  have e0 : ∀ a b, pack P 36 [a, b] = .agg [a, b] := fun a b => by kernel_rfl
  have e1 : ∀ a, pack P 3 [a] = a := fun a => by kernel_rfl
  have e2 : ∀ a, pack P 3 [a] = a := fun a => by kernel_rfl
  have e3 : ∀ a, pack P 3 [a] = a := fun a => by kernel_rfl
  obtain ⟨n0, es0, rfl, hl0⟩ := graph_of (by kernel_rfl) c0
  obtain ⟨x1, rfl⟩ := int_of c1
  obtain ⟨x2, rfl⟩ := int_of c2
  obtain ⟨x3, rfl⟩ := int_of c3
  rw [e0, e1, e2, e3]
  exact C_l_FnExactWalkAround (Rd.ro enEdge_len) hl0 fun _ => rfl
end Go.Proofs.Ytipdfhjilegkcaa.fnExactWalkAround
namespace Go.Proofs.Ytipdfhjilegkcaa.fnExactWalkAround
open Go Go.Abs Go.ChangeShapes Go.WideShapes Go.ChangeAt Go.RowKit
set_option linter.unusedVariables false
theorem own : ownKnob Try.prog.godebug = none := by kernel_rfl
theorem laidOut : laidOutB Try.prog = true := by kernel_rfl
set_option maxRecDepth 100000 in
theorem lifted (os : Os) (started : os.Started) (H : Type) (enc : TypeId × Value → H) :
    ReturnsInHanded {} Try.checked os 6 .any (Rows.fnExactWalkAroundSpec.pre6 enc Try.prog Try.f6 Rows.fnExactWalkAroundRow.domain false) (Rows.fnExactWalkAroundSpec.post enc Try.prog Try.f6 false true false false) := by
  refine returnsInHanded_of_change_sized (C := Try.checked) own started (by kernel_rfl) Try.func6
    (ChangeSpec.witness6 (enc := enc) (C := Try.checked) false ⟨#[], #[.agg #[.int .i64 0, .slice none 0 0], .int .i64 0, .int .i64 0, .int .i64 0], []⟩ 8 (by kernel_rfl) (by kernel_rfl) (by kernel_rfl) (by kernel_rfl)) ?_
  intro W base args ds gs before hval0 hW hcnd hsz0 _
  have hval : ∀ (j : Nat) t v, Try.f6.params[j]? = some t → args[j]? = some v → Value.okWide Try.prog W .any base t v := hval0
  have hW' := hW
  obtain ⟨p, q, hA0, hV, rfl, hfz, hnd⟩ := hW
  have hA : DataW.TrodAll enc Try.prog W 0 (fun _ => true) true Try.f6.params.toList args.toList ds p := hA0
  rw [Try.params6] at hA hval
  obtain ⟨v0, vs0, d0, ds0, p0, q0, hargs, rfl, rfl, h0, r0⟩ := trodAll_cons hA
  obtain ⟨v1, vs1, d1, ds1, p1, q1, rfl, rfl, rfl, h1, r1⟩ := trodAll_cons r0
  obtain ⟨v2, vs2, d2, ds2, p2, q2, rfl, rfl, rfl, h2, r2⟩ := trodAll_cons r1
  obtain ⟨v3, vs3, d3, ds3, p3, q3, rfl, rfl, rfl, h3, r3⟩ := trodAll_cons r2
  obtain ⟨rfl, rfl, rfl⟩ := trodAll_nil r3
  obtain rfl : args = #[v0, v1, v2, v3] := by cases args; simp_all
  obtain ⟨rfl, rfl⟩ := trodVars_none hV
  have lt0 : ∀ x ∈ p0, x.block < W.heap.size := by obtain ⟨m, hm⟩ := h0; exact DataW.trod_lt m _ _ _ hm
  obtain ⟨x0, c0, e0⟩ := arg (P := Try.prog) (W := W) (ι := fun _ => none) 8 (t := 36) (scs := [.int .i64, .slice 110]) (by kernel_rfl) (by kernel_rfl) (hval 0 36 v0 rfl rfl) h0
  have lt1 : ∀ x ∈ p1, x.block < W.heap.size := by obtain ⟨m, hm⟩ := h1; exact DataW.trod_lt m _ _ _ hm
  obtain ⟨x1, c1, e1⟩ := arg (P := Try.prog) (W := W) (ι := fun _ => none) 8 (t := 3) (scs := [.int .i64]) (by kernel_rfl) (by kernel_rfl) (hval 1 3 v1 rfl rfl) h1
  have lt2 : ∀ x ∈ p2, x.block < W.heap.size := by obtain ⟨m, hm⟩ := h2; exact DataW.trod_lt m _ _ _ hm
  obtain ⟨x2, c2, e2⟩ := arg (P := Try.prog) (W := W) (ι := fun _ => none) 8 (t := 3) (scs := [.int .i64]) (by kernel_rfl) (by kernel_rfl) (hval 2 3 v2 rfl rfl) h2
  have lt3 : ∀ x ∈ p3, x.block < W.heap.size := by obtain ⟨m, hm⟩ := h3; exact DataW.trod_lt m _ _ _ hm
  obtain ⟨x3, c3, e3⟩ := arg (P := Try.prog) (W := W) (ι := fun _ => none) 8 (t := 3) (scs := [.int .i64]) (by kernel_rfl) (by kernel_rfl) (hval 3 3 v3 rfl rfl) h3
  clear hA0 hval0 hsz0
  refine (law_run (RelL.cons e0 (RelL.cons e1 (RelL.cons e2 (RelL.cons e3 RelL.nil)))) (law c0 c1 c2 c3)).mono fun e W' ⟨he, bel⟩ => ?_
  subst he
  exact ⟨_, rfl, _, _, _, [], _, [], hW', trodAll_mk1 (shut_bool Try.underlying4 _), (trodAll_cons_mk (Below.trod laidOut (by kernel_rfl) (of_decide_eq_true (by kernel_rfl)) h0 bel lt0) (trodAll_cons_mk (Below.trod laidOut (by kernel_rfl) (of_decide_eq_true (by kernel_rfl)) h1 bel lt1) (trodAll_cons_mk (Below.trod laidOut (by kernel_rfl) (of_decide_eq_true (by kernel_rfl)) h2 bel lt2) (trodAll_cons_mk (Below.trod laidOut (by kernel_rfl) (of_decide_eq_true (by kernel_rfl)) h3 bel lt3) trodAll_mk0)))), rfl, bel.frame _, fun h => by cases h⟩
theorem over : Rows.fnExactWalkAroundRow.holds Try.pinned (OpenSpec.ofChange Rows.fnExactWalkAroundSpec) :=
  OpenClaim.holds_of_wide 6 Try.f6 rfl rfl rfl rfl rfl rfl rfl ⟨rfl, rfl, rfl, rfl, rfl⟩ rfl rfl rfl rfl rfl (by kernel_rfl) Try.func6 (by kernel_rfl)
    (of_decide_eq_true (by kernel_rfl)) (by unfold Func.isWrapper; first | (rw [if_pos (by decide +kernel)]; kernel_rfl) | (rw [if_neg (by decide +kernel)]; exact ⟨rfl, rfl⟩))
    (fun os started H enc _ => lifted os started H enc)
theorem proved : Rows.FnExactWalkAroundSaid := over
end Go.Proofs.Ytipdfhjilegkcaa.fnExactWalkAround
namespace Go.Proofs.Ytipdfhjilegkcaa
/-- The row, under a short name, for the claim. -/
theorem fnExactWalkAround_holds : Rows.FnExactWalkAroundSaid := fnExactWalkAround.proved
end Go.Proofs.Ytipdfhjilegkcaa
