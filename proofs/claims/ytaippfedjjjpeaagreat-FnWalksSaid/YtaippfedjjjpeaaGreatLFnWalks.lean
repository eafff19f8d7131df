/-
For every input the law FnWalks returns true and leaves its arguments as they were; no condition.
-/
import Derived.Test.YtaippfedjjjpeaaGreatCur
import Derived.Test.YtaippfedjjjpeaaGreatWalksLaw
import Derived.Test.YtaippfedjjjpeaaGreatAbs3
import Derived.Test.YtaippfedjjjpeaaGreatRows
import Derived.WalkKit
import Derived.ProofKit
import Derived.OpenShut
import Derived.ShutString
import Derived.ChangeOld
import Derived.Below
import Derived.Carry
import Derived.SizedLaws
set_option linter.all false
namespace Go.Proofs.YtaippfedjjjpeaaGreat.fnWalks
open Go Go.Abs
theorem law {x0 : List V} (c0 : CTs P 8 [.slice 5] x0) : ACalls P 4 [pack P 38 x0] (fun _ => none) fun v _ => v = .bool true := by
  have e0 : ∀ a, pack P 38 [a] = a := fun a => by kernel_rfl
  obtain ⟨_, _, rfl, k0, c0⟩ := CTs_cons c0
  obtain rfl := CTs_nil c0
  obtain ⟨bs, rfl, hb, hr, hl⟩ := bytes_of (by kernel_rfl) k0
  rw [e0]
  exact C_l_FnWalks (Rd.ro hr) hb hl ⟨rfl, rfl, rfl⟩ fun _ => rfl
end Go.Proofs.YtaippfedjjjpeaaGreat.fnWalks
namespace Go.Proofs.YtaippfedjjjpeaaGreat.fnWalks
open Go Go.Abs Go.ChangeShapes Go.WideShapes Go.ChangeAt Go.RowKit
set_option linter.unusedVariables false
theorem own : ownKnob Tryz.prog.godebug = none := by kernel_rfl
theorem laidOut : laidOutB Tryz.prog = true := by kernel_rfl
set_option maxRecDepth 100000 in
theorem lifted (os : Os) (started : os.Started) (H : Type) (enc : TypeId × Value → H) :
    ReturnsInHanded {} Tryz.checked os 4 .any (Rows.fnWalksSpec.pre6 enc Tryz.prog Tryz.f4 Rows.fnWalksRow.domain false) (Rows.fnWalksSpec.post enc Tryz.prog Tryz.f4 false true false false) := by
  refine returnsInHanded_of_change_sized (C := Tryz.checked) own started (by kernel_rfl) Tryz.func4
    (ChangeSpec.witness6 (enc := enc) (C := Tryz.checked) false ⟨#[], #[.slice none 0 0], []⟩ 8 (by kernel_rfl) (by kernel_rfl) (by kernel_rfl) (by kernel_rfl)) ?_
  intro W base args ds gs before hval0 hW hcnd hsz0 _
  have hval : ∀ (j : Nat) t v, Tryz.f4.params[j]? = some t → args[j]? = some v → Value.okWide Tryz.prog W .any base t v := hval0
  have hW' := hW
  obtain ⟨p, q, hA0, hV, rfl, hfz, hnd⟩ := hW
  have hA : DataW.TrodAll enc Tryz.prog W 0 (fun _ => true) true Tryz.f4.params.toList args.toList ds p := hA0
  rw [Tryz.params4] at hA hval
  obtain ⟨v0, vs0, d0, ds0, p0, q0, hargs, rfl, rfl, h0, r0⟩ := trodAll_cons hA
  obtain ⟨rfl, rfl, rfl⟩ := trodAll_nil r0
  obtain rfl : args = #[v0] := by cases args; simp_all
  obtain ⟨rfl, rfl⟩ := trodVars_none hV
  have lt0 : ∀ x ∈ p0, x.block < W.heap.size := by obtain ⟨m, hm⟩ := h0; exact DataW.trod_lt m _ _ _ hm
  obtain ⟨x0, c0, e0⟩ := arg (P := Tryz.prog) (W := W) (ι := fun _ => none) 8 (t := 38) (scs := [.slice 5]) (by kernel_rfl) (by kernel_rfl) (hval 0 38 v0 rfl rfl) h0
  clear hA0 hval0 hsz0
  refine (law_run (RelL.cons e0 RelL.nil) (law c0)).mono fun e W' ⟨he, bel⟩ => ?_
  subst he
  exact ⟨_, rfl, _, _, _, [], _, [], hW', trodAll_mk1 (shut_bool Tryz.underlying4 _), (trodAll_cons_mk (Below.trod laidOut (by kernel_rfl) (of_decide_eq_true (by kernel_rfl)) h0 bel lt0) trodAll_mk0), rfl, bel.frame _, fun h => by cases h⟩
theorem over : Rows.fnWalksRow.holds Tryz.pinned (OpenSpec.ofChange Rows.fnWalksSpec) :=
  OpenClaim.holds_of_wide 4 Tryz.f4 rfl rfl rfl rfl rfl rfl rfl ⟨rfl, rfl, rfl, rfl, rfl⟩ rfl rfl rfl rfl rfl (by kernel_rfl) Tryz.func4 (by kernel_rfl)
    (of_decide_eq_true (by kernel_rfl)) (by unfold Func.isWrapper; first | (rw [if_pos (by decide +kernel)]; kernel_rfl) | (rw [if_neg (by decide +kernel)]; exact ⟨rfl, rfl⟩))
    (fun os started H enc _ => lifted os started H enc)
theorem proved : Rows.FnWalksSaid := over
end Go.Proofs.YtaippfedjjjpeaaGreat.fnWalks
namespace Go.Proofs.YtaippfedjjjpeaaGreat
/-- The row, under a short name, for the claim. -/
theorem fnWalks_holds : Rows.FnWalksSaid := fnWalks.proved
end Go.Proofs.YtaippfedjjjpeaaGreat
