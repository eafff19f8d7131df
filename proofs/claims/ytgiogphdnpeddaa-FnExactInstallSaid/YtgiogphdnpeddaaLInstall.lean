/-
For every input the law FnExactInstall returns true and leaves its arguments as they were; no condition.
-/
import Derived.Test.YtgiogphdnpeddaaArgD
import Derived.Test.YtgiogphdnpeddaaInstallLaw
import Derived.Test.YtgiogphdnpeddaaAbs3
import Derived.Test.YtgiogphdnpeddaaRows
import Derived.WalkKit
import Derived.ProofKit
import Derived.OpenShut
import Derived.ShutString
import Derived.ChangeOld
import Derived.Below
import Derived.Carry
import Derived.SizedLaws
set_option linter.all false
namespace Go.Proofs.Ytgiogphdnpeddaa.fnExactInstall
open Go Go.Abs
theorem law {x0 : List V} (c0 : CTs P 8 [.slice 63] x0) {x1 : List V} (c1 : CTs P 8 [.int .i64, .int .i64, .int .i64, .slice 154, .slice 158] x1) : ACalls P 7 [pack P 47 x0, pack P 63 x1] (fun _ => none) fun v _ => v = .bool true := by
  have e0 : ∀ a, pack P 47 [a] = .agg [a] := fun a => by kernel_rfl
  have e1 : ∀ a b c d f, pack P 63 [a, b, c, d, f] = .agg [a, b, c, d, f] := fun a b c d f => by kernel_rfl
  obtain ⟨w0, a0, rfl, ht0, hl0, hm0⟩ := db_of (e := 63) (f := 154) (g := 158) c0 (by kernel_rfl) (by kernel_rfl) (by kernel_rfl)
  obtain ⟨a1, l1, s1, rfl, ht1, hm1⟩ := lsa_of (f := 154) (g := 158) c1 (by kernel_rfl) (by kernel_rfl)
  rw [e0, e1]
  exact C_l_FnExactInstall (ht0 _) hl0 hm0 (ht1 _) hm1 fun _ => rfl
end Go.Proofs.Ytgiogphdnpeddaa.fnExactInstall
namespace Go.Proofs.Ytgiogphdnpeddaa.fnExactInstall
open Go Go.Abs Go.ChangeShapes Go.WideShapes Go.ChangeAt Go.RowKit
set_option linter.unusedVariables false
theorem own : ownKnob Try.prog.godebug = none := by kernel_rfl
theorem laidOut : laidOutB Try.prog = true := by kernel_rfl
set_option maxRecDepth 100000 in
theorem lifted (os : Os) (started : os.Started) (H : Type) (enc : TypeId × Value → H) :
    ReturnsInHanded {} Try.checked os 7 .any (Rows.fnExactInstallSpec.pre6 enc Try.prog Try.f7 Rows.fnExactInstallRow.domain false) (Rows.fnExactInstallSpec.post enc Try.prog Try.f7 false true false false) := by
  refine returnsInHanded_of_change_sized (C := Try.checked) own started (by kernel_rfl) Try.func7
    (ChangeSpec.witness6 (enc := enc) (C := Try.checked) false ⟨#[], #[.agg #[.slice none 0 0], .agg #[.int .i64 0, .int .i64 0, .int .i64 0, .slice none 0 0, .slice none 0 0]], []⟩ 8 (by kernel_rfl) (by kernel_rfl) (by kernel_rfl) (by kernel_rfl)) ?_
  intro W base args ds gs before hval0 hW hcnd hsz0 _
  have hval : ∀ (j : Nat) t v, Try.f7.params[j]? = some t → args[j]? = some v → Value.okWide Try.prog W .any base t v := hval0
  have hW' := hW
  obtain ⟨p, q, hA0, hV, rfl, hfz, hnd⟩ := hW
  have hA : DataW.TrodAll enc Try.prog W 0 (fun _ => true) true Try.f7.params.toList args.toList ds p := hA0
  rw [Try.params7] at hA hval
  obtain ⟨v0, vs0, d0, ds0, p0, q0, hargs, rfl, rfl, h0, r0⟩ := trodAll_cons hA
  obtain ⟨v1, vs1, d1, ds1, p1, q1, rfl, rfl, rfl, h1, r1⟩ := trodAll_cons r0
  obtain ⟨rfl, rfl, rfl⟩ := trodAll_nil r1
  obtain rfl : args = #[v0, v1] := by cases args; simp_all
  obtain ⟨rfl, rfl⟩ := trodVars_none hV
  have lt0 : ∀ x ∈ p0, x.block < W.heap.size := by obtain ⟨m, hm⟩ := h0; exact DataW.trod_lt m _ _ _ hm
  obtain ⟨x0, c0, e0⟩ := arg (P := Try.prog) (W := W) (ι := fun _ => none) 8 (t := 47) (scs := [.slice 63]) (by kernel_rfl) (by kernel_rfl) (hval 0 47 v0 rfl rfl) h0
  have lt1 : ∀ x ∈ p1, x.block < W.heap.size := by obtain ⟨m, hm⟩ := h1; exact DataW.trod_lt m _ _ _ hm
  obtain ⟨x1, c1, e1⟩ := arg (P := Try.prog) (W := W) (ι := fun _ => none) 8 (t := 63) (scs := [.int .i64, .int .i64, .int .i64, .slice 154, .slice 158]) (by kernel_rfl) (by kernel_rfl) (hval 1 63 v1 rfl rfl) h1
  clear hA0 hval0 hsz0
  refine (law_run (RelL.cons e0 (RelL.cons e1 RelL.nil)) (law c0 c1)).mono fun e W' ⟨he, bel⟩ => ?_
  subst he
  exact ⟨_, rfl, _, _, _, [], _, [], hW', trodAll_mk1 (shut_bool Try.underlying4 _), (trodAll_cons_mk (Below.trod laidOut (by kernel_rfl) (of_decide_eq_true (by kernel_rfl)) h0 bel lt0) (trodAll_cons_mk (Below.trod laidOut (by kernel_rfl) (of_decide_eq_true (by kernel_rfl)) h1 bel lt1) trodAll_mk0)), rfl, bel.frame _, fun h => by cases h⟩
theorem over : Rows.fnExactInstallRow.holds Try.pinned (OpenSpec.ofChange Rows.fnExactInstallSpec) :=
  OpenClaim.holds_of_wide 7 Try.f7 rfl rfl rfl rfl rfl rfl rfl ⟨rfl, rfl, rfl, rfl, rfl⟩ rfl rfl rfl rfl rfl (by kernel_rfl) Try.func7 (by kernel_rfl)
    (of_decide_eq_true (by kernel_rfl)) (by unfold Func.isWrapper; first | (rw [if_pos (by decide +kernel)]; kernel_rfl) | (rw [if_neg (by decide +kernel)]; exact ⟨rfl, rfl⟩))
    (fun os started H enc _ => lifted os started H enc)
theorem proved : Rows.FnExactInstallSaid := over
end Go.Proofs.Ytgiogphdnpeddaa.fnExactInstall
namespace Go.Proofs.Ytgiogphdnpeddaa
/-- The row, under a short name, for the claim. -/
theorem fnExactInstall_holds : Rows.FnExactInstallSaid := fnExactInstall.proved
end Go.Proofs.Ytgiogphdnpeddaa
