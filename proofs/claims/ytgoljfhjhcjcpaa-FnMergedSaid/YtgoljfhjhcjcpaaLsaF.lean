/-
Contracts: valid advertisements.
-/
import Derived.Test.YtgoljfhjhcjcpaaPref
set_option linter.all false
namespace Go.Proofs.Ytgoljfhjhcjcpaa
open Go Go.Abs Go.Proofs

abbrev lk (ls : List TLink) (i : Nat) : TLink := ls.getD i (0, 0)
theorem rt_get {t : List TStub} {i : Nat} (h : i < t.length) : rt t i = t[i] := by simp [rt, h]
theorem lk_get {t : List TLink} {i : Nat} (h : i < t.length) : lk t i = t[i] := by simp [lk, h]
def lkOk (o : Int) (ls : List TLink) (i : Nat) : Prop := (0 ≤ (lk ls i).1 ∧ (lk ls i).1 ≤ 9) ∧ (lk ls i).1 ≠ o ∧ (1 ≤ (lk ls i).2 ∧ (lk ls i).2 ≤ 1000) ∧ (0 < i → (lk ls (i - 1)).1 < (lk ls i).1)
instance (o : Int) (ls : List TLink) (i : Nat) : Decidable (lkOk o ls i) := by unfold lkOk; infer_instance
def stOk (ss : List TStub) (i : Nat) : Prop := prefOk (rt ss i).1 (rt ss i).2.1 ∧ (1 ≤ (rt ss i).2.2 ∧ (rt ss i).2.2 ≤ 1000) ∧ (0 < i → ahead (rt ss (i - 1)) (rt ss i))
instance (ss : List TStub) (i : Nat) : Decidable (stOk ss i) := by unfold stOk; infer_instance
def lksOk (o : Int) (ls : List TLink) : Prop := ∀ i, i < ls.length → lkOk o ls i
instance (o : Int) (ls : List TLink) : Decidable (lksOk o ls) := by unfold lksOk; infer_instance
def stsOk (ss : List TStub) : Prop := ∀ i, i < ss.length → stOk ss i
instance (ss : List TStub) : Decidable (stsOk ss) := by unfold stsOk; infer_instance
def lsaOk (a : TLsa) : Prop := (0 ≤ a.origin ∧ a.origin ≤ 9) ∧ (1 ≤ a.seq ∧ a.seq ≤ 1000000) ∧ (0 ≤ a.age ∧ a.age ≤ 60) ∧ a.links.length ≤ 10 ∧ a.stubs.length ≤ 6 ∧ lksOk a.origin a.links ∧ stsOk a.stubs
instance (a : TLsa) : Decidable (lsaOk a) := by unfold lsaOk; infer_instance
theorem lks_up {o : Int} {ls : List TLink} (h : lksOk o ls) : ∀ i, i < ls.length → (i : Int) ≤ (lk ls i).1
  | 0, hi => by have := (h 0 hi).1; omega
  | i + 1, hi => by
    have := lks_up h i (by omega)
    have h2 := (h (i + 1) hi).2.2.2 (by omega)
    simp only [Nat.add_sub_cancel] at h2
    omega
theorem lks_len {o : Int} {ls : List TLink} (h : lksOk o ls) : ls.length ≤ 10 := by
  by_cases e : ls.length = 0
  · omega
  · have := lks_up h (ls.length - 1) (by omega)
    have := (h (ls.length - 1) (by omega)).1
    omega

def InvLk (o : Int) (ls : List TLink) (H : Heap) (m : Nat) (ys : List V) (Hc : Heap) : Prop :=
  ∃ i, i ≤ ls.length ∧ ys = [.int .i64 (i : Nat)] ∧ m = ls.length - i ∧ Hc = H ∧ ∀ j, j < i → lkOk o ls j
theorem C_i_areLinks {o : Int} {ls : List TLink} {w : V} {H : Heap} {K : V → Heap → Prop} (hv : Rd H 2 w (ls.map enLink)) (hl : ls.length ≤ 1048576) (h : K (.bool (decide (lksOk o ls))) H) : ACalls P n_i_areLinks [.int .i64 o, w] H K := by
  apply W_i_areLinks
  unfold F_i_areLinks
  simp [hv.len]
  refine ⟨InvLk o ls H, ⟨ls.length, Shr.of ⟨0, by omega, by simp, by omega, rfl, fun j hj => absurd hj (by omega)⟩⟩, ?_⟩
  rintro m ys Hc ⟨i, hi, rfl, rfl, rfl, hok⟩
  simp
  refine ⟨fun hlt => ?_, fun hge => ?_⟩
  · have he := lk_get hlt
    rw [i64_in (n := (i : Int) + 1) (by omega) (by omega)]
    refine hv.idx (by omega) (by simpa using hlt) fun p hp => ?_
    simp only [hp.ld]
    simp [hlt, stz_eq, putCells]
    have next : lkOk o ls i → ∃ n7, n7 < ls.length - i ∧ Shr (InvLk o ls Hc n7 [.int .i64 ((i : Int) + 1)]) Hc := fun hl =>
      ⟨ls.length - (i + 1), by omega, Shr.of ⟨i + 1, by omega, by simp, rfl, rfl, fun j hj => by
        by_cases e : j = i
        · subst e; exact hl
        · exact hok j (by omega)⟩⟩
    have no : ¬ lkOk o ls i → Ret K (.bool false) Hc := fun hn => Ret.no h fun hh => hn (hh i hlt)
    refine ⟨_, Abs.sub_refl _, ?_⟩
    apply C_i_within
    refine ⟨Abs.sub_refl _, ?_⟩
    simp
    refine ⟨fun q => no fun ho => by have := ho.1; rw [he] at this; omega, fun q1 q1' => ?_⟩
    apply C_i_within
    refine ⟨Abs.sub_refl _, ?_⟩
    simp
    refine ⟨fun q => no fun ho => by have := ho.2.2.1; rw [he] at this; omega, fun q2 q2' => ?_⟩
    refine ⟨fun q => no fun ho => by have := ho.2.1; rw [he] at this; exact this q, fun q3 => ⟨fun q4 => ?_, fun q4 => next ⟨by rw [he]; omega, by rw [he]; exact q3, by rw [he]; omega, fun hh => absurd hh (by omega)⟩⟩⟩
    have hlt' : i - 1 < ls.length := by omega
    have he' := lk_get hlt'
    have e1 : ((i : Int) - 1).toNat = i - 1 := by omega
    rw [i64_in (n := (i : Int) - 1) (by omega) (by omega)]
    refine hv.idx (by omega) (by simp; omega) fun p' hp' => ?_
    refine hp'.fld fun p1 hp1 => ?_
    rw [hp1.ld, e1]
    simp [hlt']
    refine ⟨fun q => no fun ho => by have := ho.2.2.2 q4; rw [he, he'] at this; omega, fun q5 => next ⟨by rw [he]; omega, by rw [he]; exact q3, by rw [he]; omega, fun _ => by rw [he, he']; omega⟩⟩
  · have : i = ls.length := by omega
    subst this
    exact Ret.yes h hok

def InvSt (ss : List TStub) (H : Heap) (m : Nat) (ys : List V) (Hc : Heap) : Prop :=
  ∃ i, i ≤ ss.length ∧ ys = [.int .i64 (i : Nat)] ∧ m = ss.length - i ∧ Hc = H ∧ ∀ j, j < i → stOk ss j
theorem C_i_areStubs {ss : List TStub} {w : V} {H : Heap} {K : V → Heap → Prop} (hv : Rd H 3 w (ss.map enStub)) (hl : ss.length ≤ 1048576) (h : K (.bool (decide (ss.length ≤ 6 ∧ stsOk ss))) H) : ACalls P n_i_areStubs [w] H K := by
  apply W_i_areStubs
  unfold F_i_areStubs
  simp [hv.len]
  refine ⟨InvSt ss H, ⟨ss.length, Shr.of ⟨0, by omega, by simp, by omega, rfl, fun j hj => absurd hj (by omega)⟩⟩, ?_⟩
  rintro m ys Hc ⟨i, hi, rfl, rfl, rfl, hok⟩
  simp
  refine ⟨fun hlt => ?_, fun hge => ?_⟩
  · have he := rt_get hlt
    rw [i64_in (n := (i : Int) + 1) (by omega) (by omega)]
    refine hv.idx (by omega) (by simpa using hlt) fun p hp => ?_
    simp only [hp.ld]
    simp [hlt, stz_eq, putCells]
    have next : stOk ss i → ∃ n7, n7 < ss.length - i ∧ Shr (InvSt ss Hc n7 [.int .i64 ((i : Int) + 1)]) Hc := fun hl =>
      ⟨ss.length - (i + 1), by omega, Shr.of ⟨i + 1, by omega, by simp, rfl, rfl, fun j hj => by
        by_cases e : j = i
        · subst e; exact hl
        · exact hok j (by omega)⟩⟩
    have no : ¬ stOk ss i → Ret K (.bool false) Hc := fun hn => Ret.no h fun hh => hn (hh.2 i hlt)
    refine ⟨_, Abs.sub_refl _, ?_⟩
    apply C_i_PrefixOk
    refine ⟨Abs.sub_refl _, ?_⟩
    simp
    refine ⟨fun q => no fun ho => by have := ho.1; rw [he] at this; exact q this, fun q1 => ?_⟩
    apply C_i_within
    refine ⟨Abs.sub_refl _, ?_⟩
    simp
    refine ⟨fun q => no fun ho => by have := ho.2.1; rw [he] at this; omega, fun q2 q2' => ?_⟩
    refine ⟨fun q4 => ?_, fun q4 => next ⟨by rw [he]; exact q1, by rw [he]; omega, fun hh => absurd hh (by omega)⟩⟩
    have hlt' : i - 1 < ss.length := by omega
    have he' := rt_get hlt'
    have e1 : ((i : Int) - 1).toNat = i - 1 := by omega
    have ok' := hok (i - 1) (by omega)
    have b1 := ok'.1.1
    have b2 := ok'.1.2.1
    have b3 := q1.1
    have b4 := q1.2.1
    rw [he'] at b1 b2
    unfold addrOk at b2 b4
    rw [i64_in (n := (i : Int) - 1) (by omega) (by omega)]
    refine hv.idx (by omega) (by simp; omega) fun p' hp' => ?_
    refine hp'.fld fun p1 hp1 => ?_
    rw [hp1.ld, e1]
    simp [hlt']
    refine C_i_comparePrefixes (a := ss[i - 1]) (b := ss[i]) ⟨Abs.sub_refl _, ?_⟩
    simp
    by_cases q9 : ss[i - 1].1 = ss[i].1
    · rw [if_pos q9, i64_in (by omega) (by omega)]
      refine ⟨fun q => no fun ho => ?_, fun q => next ⟨by rw [he]; exact q1, by rw [he]; omega, fun _ => ?_⟩⟩
      · have := ho.2.2 (by omega); rw [he, he'] at this; unfold ahead at this; omega
      · rw [he, he']; unfold ahead; omega
    · rw [if_neg q9, i64_in (by omega) (by omega)]
      refine ⟨fun q => no fun ho => ?_, fun q => next ⟨by rw [he]; exact q1, by rw [he]; omega, fun _ => ?_⟩⟩
      · have := ho.2.2 (by omega); rw [he, he'] at this; unfold ahead at this; omega
      · rw [he, he']; unfold ahead; omega
  · have : i = ss.length := by omega
    subst this
    exact Ret.iff h ⟨fun hh => ⟨by omega, hok⟩, fun hh => by have := hh.1; omega⟩
theorem C_i_LsaOk {b : Bool} {a : TLsa} {vs : List V} {H : Heap} {K : V → Heap → Prop} (hv : (lsaT b).rd H a vs) (hl : a.links.length ≤ 1048576 ∧ a.stubs.length ≤ 1048576) (h : K (.bool (decide (lsaOk a))) H) : ACalls P n_i_LsaOk [.agg vs] H K := by
  obtain ⟨l, s, rfl, h2, h3⟩ := hv
  have hc := lsa_cell h2 h3
  apply W_i_LsaOk
  unfold F_i_LsaOk
  simp [hc]
  apply C_i_within
  simp
  refine ⟨fun q1 q1' => ?_, fun q => Ret.no h fun hh => by have := hh.1; omega⟩
  apply C_i_within
  simp
  refine ⟨fun q2 q2' => ?_, fun q => Ret.no h fun hh => by have := hh.2.1; omega⟩
  apply C_i_within
  simp
  refine ⟨fun q3 q3' => ?_, fun q => Ret.no h fun hh => by have := hh.2.2.1; omega⟩
  refine C_i_areLinks h2.1 hl.1 ?_
  simp
  refine ⟨fun q4 => ?_, fun q => Ret.no h fun hh => q hh.2.2.2.2.2.1⟩
  refine C_i_areStubs h3.1 hl.2 ?_
  exact Ret.iff h ⟨fun hh => ⟨⟨q1, q1'⟩, ⟨q2, q2'⟩, ⟨q3, q3'⟩, lks_len q4, hh.1, q4, hh.2⟩, fun hh => ⟨hh.2.2.2.2.1, hh.2.2.2.2.2.2⟩⟩

end Go.Proofs.Ytgoljfhjhcjcpaa
