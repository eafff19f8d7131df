/-
For every input the law FnExactAnnounce returns true and leaves its arguments as they were; no condition.
-/
import Derived.Test.YtmbekckgpbmdkaaGreatArgN
import Derived.Test.YtmbekckgpbmdkaaGreatAnnounceLaw
import Derived.Test.YtmbekckgpbmdkaaGreatAbs3
import Derived.Test.YtmbekckgpbmdkaaGreatRows
import Derived.WalkKit
import Derived.ProofKit
import Derived.OpenShut
import Derived.ShutString
import Derived.ChangeOld
import Derived.Below
import Derived.Carry
import Derived.SizedLaws
set_option linter.all false
namespace Go.Proofs.YtmbekckgpbmdkaaGreat.fnExactAnnounce
open Go Go.Abs
theorem law {x0 : List V} (c0 : CTs P 8 [.int .i64, .slice 149, .slice 105, .slice 112, .int .i64] x0) {x1 : List V} (c1 : CTs P 8 [.int .i64] x1) : ACalls P 3 [pack P 28 x0, pack P 3 x1] (fun _ => none) fun v _ => v = .bool true := by
  have e0 : ∀ a b c d f, pack P 28 [a, b, c, d, f] = .agg [a, b, c, d, f] := fun a b c d f => by kernel_rfl
  have e1 : ∀ a, pack P 3 [a] = a := fun a => by kernel_rfl
  obtain ⟨a0, q0, d0, w0, rfl, ht0, hm0⟩ := net_of (ed := 149) (db := 105) (ms := 112) (e := 110) (f := 182) (g := 186) c0 (by kernel_rfl) (by kernel_rfl) (by kernel_rfl) (by kernel_rfl) (by kernel_rfl) (by kernel_rfl)
  obtain ⟨x1, rfl⟩ := int_of c1
  rw [e0, e1]
  exact C_l_FnExactAnnounce (ht0 _) hm0 fun _ => rfl
end Go.Proofs.YtmbekckgpbmdkaaGreat.fnExactAnnounce
namespace Go.Proofs.YtmbekckgpbmdkaaGreat.fnExactAnnounce
open Go Go.Abs Go.ChangeShapes Go.WideShapes Go.ChangeAt Go.RowKit
set_option linter.unusedVariables false
theorem own : ownKnob Tryz.prog.godebug = none := by kernel_rfl
theorem laidOut : laidOutB Tryz.prog = true := by kernel_rfl
set_option maxRecDepth 100000 in
theorem lifted (os : Os) (started : os.Started) (H : Type) (enc : TypeId × Value → H) :
    ReturnsInHanded {} Tryz.checked os 3 .any (Rows.fnExactAnnounceSpec.pre6 enc Tryz.prog Tryz.f3 Rows.fnExactAnnounceRow.domain false) (Rows.fnExactAnnounceSpec.post enc Tryz.prog Tryz.f3 false true false false) := by
  refine returnsInHanded_of_change_sized (C := Tryz.checked) own started (by kernel_rfl) Tryz.func3
    (ChangeSpec.witness6 (enc := enc) (C := Tryz.checked) false ⟨#[], #[.agg #[.int .i64 0, .slice none 0 0, .slice none 0 0, .slice none 0 0, .int .i64 0], .int .i64 0], []⟩ 8 (by kernel_rfl) (by kernel_rfl) (by kernel_rfl) (by kernel_rfl)) ?_
  intro W base args ds gs before hval0 hW hcnd hsz0 _
  have hval : ∀ (j : Nat) t v, Tryz.f3.params[j]? = some t → args[j]? = some v → Value.okWide Tryz.prog W .any base t v := hval0
  have hW' := hW
  obtain ⟨p, q, hA0, hV, rfl, hfz, hnd⟩ := hW
  have hA : DataW.TrodAll enc Tryz.prog W 0 (fun _ => true) true Tryz.f3.params.toList args.toList ds p := hA0
  rw [Tryz.params3] at hA hval
  obtain ⟨v0, vs0, d0, ds0, p0, q0, hargs, rfl, rfl, h0, r0⟩ := trodAll_cons hA
  obtain ⟨v1, vs1, d1, ds1, p1, q1, rfl, rfl, rfl, h1, r1⟩ := trodAll_cons r0
  obtain ⟨rfl, rfl, rfl⟩ := trodAll_nil r1
  obtain rfl : args = #[v0, v1] := by cases args; simp_all
  obtain ⟨rfl, rfl⟩ := trodVars_none hV
  have lt0 : ∀ x ∈ p0, x.block < W.heap.size := by obtain ⟨m, hm⟩ := h0; exact DataW.trod_lt m _ _ _ hm
  obtain ⟨x0, c0, e0⟩ := arg (P := Tryz.prog) (W := W) (ι := fun _ => none) 8 (t := 28) (scs := [.int .i64, .slice 149, .slice 105, .slice 112, .int .i64]) (by kernel_rfl) (by kernel_rfl) (hval 0 28 v0 rfl rfl) h0
  have lt1 : ∀ x ∈ p1, x.block < W.heap.size := by obtain ⟨m, hm⟩ := h1; exact DataW.trod_lt m _ _ _ hm
  obtain ⟨x1, c1, e1⟩ := arg (P := Tryz.prog) (W := W) (ι := fun _ => none) 8 (t := 3) (scs := [.int .i64]) (by kernel_rfl) (by kernel_rfl) (hval 1 3 v1 rfl rfl) h1
  clear hA0 hval0 hsz0
  refine (law_run (RelL.cons e0 (RelL.cons e1 RelL.nil)) (law c0 c1)).mono fun e W' ⟨he, bel⟩ => ?_
  subst he
  exact ⟨_, rfl, _, _, _, [], _, [], hW', trodAll_mk1 (shut_bool Tryz.underlying4 _), (trodAll_cons_mk (Below.trod laidOut (by kernel_rfl) (of_decide_eq_true (by kernel_rfl)) h0 bel lt0) (trodAll_cons_mk (Below.trod laidOut (by kernel_rfl) (of_decide_eq_true (by kernel_rfl)) h1 bel lt1) trodAll_mk0)), rfl, bel.frame _, fun h => by cases h⟩
theorem over : Rows.fnExactAnnounceRow.holds Tryz.pinned (OpenSpec.ofChange Rows.fnExactAnnounceSpec) :=
  OpenClaim.holds_of_wide 3 Tryz.f3 rfl rfl rfl rfl rfl rfl rfl ⟨rfl, rfl, rfl, rfl, rfl⟩ rfl rfl rfl rfl rfl (by kernel_rfl) Tryz.func3 (by kernel_rfl)
    (of_decide_eq_true (by kernel_rfl)) (by unfold Func.isWrapper; first | (rw [if_pos (by decide +kernel)]; kernel_rfl) | (rw [if_neg (by decide +kernel)]; exact ⟨rfl, rfl⟩))
    (fun os started H enc _ => lifted os started H enc)
theorem proved : Rows.FnExactAnnounceSaid := over
end Go.Proofs.YtmbekckgpbmdkaaGreat.fnExactAnnounce
namespace Go.Proofs.YtmbekckgpbmdkaaGreat
/-- The row, under a short name, for the claim. -/
theorem fnExactAnnounce_holds : Rows.FnExactAnnounceSaid := fnExactAnnounce.proved
end Go.Proofs.YtmbekckgpbmdkaaGreat
