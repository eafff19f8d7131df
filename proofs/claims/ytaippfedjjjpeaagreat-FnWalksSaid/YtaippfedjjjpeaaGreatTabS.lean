/-
Tables of the reference: well-formed ones; a route is put.
-/
import Derived.Test.YtaippfedjjjpeaaGreatLkM
set_option linter.all false
namespace Go.Proofs.YtaippfedjjjpeaaGreat
open Go Go.Abs Go.Proofs

def rtOk (t : List TStub) (i : Nat) : Prop := prefOk (rt t i).1 (rt t i).2.1 ∧ (0 ≤ (rt t i).2.2 ∧ (rt t i).2.2 ≤ 999) ∧ (0 < i → ahead (rt t (i - 1)) (rt t i))
instance (t : List TStub) (i : Nat) : Decidable (rtOk t i) := by unfold rtOk; infer_instance
def tabOk (t : List TStub) : Prop := t.length ≤ 120 ∧ ∀ i, i < t.length → rtOk t i
instance (t : List TStub) : Decidable (tabOk t) := by unfold tabOk; infer_instance
theorem rt_getT {t : List TStub} {i : Nat} (h : i < t.length) : rt t i = t[i] := by simp [rt, h]
theorem tabOk_no {t : List TStub} {i : Nat} (hi : i < t.length) (h : ¬ rtOk t i) : ¬ tabOk t := fun hh => h (hh.2 i hi)

def InvTo (t : List TStub) (H : Heap) (m : Nat) (ys : List V) (Hc : Heap) : Prop :=
  ∃ i, i ≤ t.length ∧ ys = [.int .i64 (i : Nat)] ∧ m = t.length - i ∧ Hc = H ∧ ∀ j, j < i → rtOk t j
set_option maxHeartbeats 1000000 in
theorem C_s_TableOk {t : List TStub} {w : V} {H : Heap} {K : V → Heap → Prop} (hv : Rd H 3 w (t.map enStub)) (h : K (.bool (decide (tabOk t))) H) : ACalls P n_s_TableOk [.agg [w]] H K := by
  have hc := hv.cell
  apply W_s_TableOk
  unfold F_s_TableOk
  simp [hc, hv.len]
  refine ⟨fun q => Ret.no h fun hh => by have := hh.1; omega, fun q => ?_⟩
  refine ⟨InvTo t H, ⟨t.length, Shr.of ⟨0, by omega, by simp, by omega, rfl, fun j hj => absurd hj (by omega)⟩⟩, ?_⟩
  rintro m ys Hc ⟨i, hi, rfl, rfl, rfl, hok⟩
  simp
  refine ⟨fun hlt => ⟨_, Abs.sub_refl _, ?_⟩, fun hge => ?_⟩
  · have he := rt_getT hlt
    rw [i64_in (n := (i : Int) + 1) (by omega) (by omega)]
    refine hv.idx (by omega) (by simpa using hlt) fun p hp => ?_
    refine hp.fld fun p1 hp1 => ?_
    simp only [hp1.ld]
    simp [hlt]
    apply C_s_PrefixOk
    simp
    refine ⟨fun q => Ret.no h (tabOk_no hlt fun ho => q (by have := ho.1; rw [he] at this; exact this)), fun q1 => ?_⟩
    refine hv.idx (by omega) (by simpa using hlt) fun p hp => ?_
    refine hp.fld fun p1 hp1 => ?_
    simp only [hp1.ld]
    simp [hlt]
    apply C_s_l01In
    simp
    refine ⟨fun q => Ret.no h (tabOk_no hlt fun ho => by have := ho.2.1; rw [he] at this; omega), fun q2 q3 => ?_⟩
    have next : (0 < i → ahead (rt t (i - 1)) (rt t i)) → ∃ n7, n7 < t.length - i ∧ Shr (InvTo t Hc n7 [.int .i64 ((i : Int) + 1)]) Hc := fun hl =>
      ⟨t.length - (i + 1), by omega, Shr.of ⟨i + 1, by omega, by simp, rfl, rfl, fun j hj => by
        by_cases e : j = i
        · subst e
          refine ⟨?_, ?_, hl⟩ <;> rw [he]
          · exact q1
          · omega
        · exact hok j (by omega)⟩⟩
    refine ⟨fun q4 => ?_, fun q4 => next fun hh => absurd hh (by omega)⟩
    have hlt' : i - 1 < t.length := by omega
    have he' := rt_getT hlt'
    have e1 : ((i : Int) - 1).toNat = i - 1 := by omega
    rw [i64_in (n := (i : Int) - 1) (by omega) (by omega)]
    refine hv.idx (by omega) (by simp; omega) fun p' hp' => ?_
    refine hp'.fld fun p1 hp1 => ?_
    simp only [hp1.ld, e1]
    simp [hlt']
    refine hv.idx (by omega) (by simpa using hlt) fun p hp => ?_
    refine hp.fld fun p1 hp1 => ?_
    simp only [hp1.ld]
    simp [hlt]
    apply C_s_l02Ahead
    simp
    refine ⟨fun q => Ret.no h (tabOk_no hlt fun ho => q (by have := ho.2.2 (by omega); rw [he, he'] at this; exact this)), fun q5 => next fun _ => by rw [he, he']; exact q5⟩
  · have : i = t.length := by omega
    subst this
    exact Ret.yes h ⟨by omega, hok⟩

end Go.Proofs.YtaippfedjjjpeaaGreat
