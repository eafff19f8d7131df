/-
Contracts: valid advertisements.
-/
import Derived.Test.YtohicpepcjgnaaaGreatLkM
set_option linter.all false
namespace Go.Proofs.YtohicpepcjgnaaaGreat
open Go Go.Abs Go.Proofs

abbrev lk (ls : List TLink) (i : Nat) : TLink := ls.getD i (0, 0)
theorem rt_get {t : List TStub} {i : Nat} (h : i < t.length) : rt t i = t[i] := by simp [rt, h]
theorem lk_get {t : List TLink} {i : Nat} (h : i < t.length) : lk t i = t[i] := by simp [lk, h]
def lkOk (o : Int) (ls : List TLink) (i : Nat) : Prop := (0 ≤ (lk ls i).1 ∧ (lk ls i).1 ≤ 9) ∧ (lk ls i).1 ≠ o ∧ (1 ≤ (lk ls i).2 ∧ (lk ls i).2 ≤ 1000) ∧ (0 < i → (lk ls (i - 1)).1 < (lk ls i).1)
instance (o : Int) (ls : List TLink) (i : Nat) : Decidable (lkOk o ls i) := by unfold lkOk; infer_instance
def stOk (ss : List TStub) (i : Nat) : Prop := prefOk (rt ss i).1 (rt ss i).2.1 ∧ (1 ≤ (rt ss i).2.2 ∧ (rt ss i).2.2 ≤ 1000) ∧ (0 < i → ahead (rt ss (i - 1)) (rt ss i))
instance (ss : List TStub) (i : Nat) : Decidable (stOk ss i) := by unfold stOk; infer_instance
def lksOk (o : Int) (ls : List TLink) : Prop := ∀ i, i < ls.length → lkOk o ls i
instance (o : Int) (ls : List TLink) : Decidable (lksOk o ls) := by unfold lksOk; infer_instance
def stsOk (ss : List TStub) : Prop := ∀ i, i < ss.length → stOk ss i
instance (ss : List TStub) : Decidable (stsOk ss) := by unfold stsOk; infer_instance
def lsaOk (a : TLsa) : Prop := (0 ≤ a.origin ∧ a.origin ≤ 9) ∧ (1 ≤ a.seq ∧ a.seq ≤ 1000000) ∧ (0 ≤ a.age ∧ a.age ≤ 60) ∧ a.links.length ≤ 10 ∧ a.stubs.length ≤ 6 ∧ lksOk a.origin a.links ∧ stsOk a.stubs
instance (a : TLsa) : Decidable (lsaOk a) := by unfold lsaOk; infer_instance
theorem lks_up {o : Int} {ls : List TLink} (h : lksOk o ls) : ∀ i, i < ls.length → (i : Int) ≤ (lk ls i).1
  | 0, hi => by have := (h 0 hi).1; omega
  | i + 1, hi => by
    have := lks_up h i (by omega)
    have h2 := (h (i + 1) hi).2.2.2 (by omega)
    simp only [Nat.add_sub_cancel] at h2
    omega
theorem lks_len {o : Int} {ls : List TLink} (h : lksOk o ls) : ls.length ≤ 10 := by
  by_cases e : ls.length = 0
  · omega
  · have := lks_up h (ls.length - 1) (by omega)
    have := (h (ls.length - 1) (by omega)).1
    omega

def InvLk (o : Int) (ls : List TLink) (H : Heap) (m : Nat) (ys : List V) (Hc : Heap) : Prop :=
  ∃ i, i ≤ ls.length ∧ ys = [.int .i64 (i : Nat)] ∧ m = ls.length - i ∧ Hc = H ∧ ∀ j, j < i → lkOk o ls j
theorem C_i_areLinks {o : Int} {ls : List TLink} {w : V} {H : Heap} {K : V → Heap → Prop} (hv : Rd H 2 w (ls.map enLink)) (hl : ls.length ≤ 1048576) (h : K (.bool (decide (lksOk o ls))) H) : ACalls P n_i_areLinks [.int .i64 o, w] H K := by
  apply W_i_areLinks
  unfold F_i_areLinks
  simp [hv.len]
  refine ⟨InvLk o ls H, ⟨ls.length, Shr.of ⟨0, by omega, by simp, by omega, rfl, fun j hj => absurd hj (by omega)⟩⟩, ?_⟩
  rintro m ys Hc ⟨i, hi, rfl, rfl, rfl, hok⟩
  simp
  refine ⟨fun hlt => ?_, fun hge => ?_⟩
  · have he := lk_get hlt
    rw [i64_in (n := (i : Int) + 1) (by omega) (by omega)]
    refine hv.idx (by omega) (by simpa using hlt) fun p hp => ?_
    simp only [hp.ld]
    simp [hlt, stz_eq, putCells]
    have next : lkOk o ls i → ∃ n7, n7 < ls.length - i ∧ Shr (InvLk o ls Hc n7 [.int .i64 ((i : Int) + 1)]) Hc := fun hl =>
      ⟨ls.length - (i + 1), by omega, Shr.of ⟨i + 1, by omega, by simp, rfl, rfl, fun j hj => by
        by_cases e : j = i
        · subst e; exact hl
        · exact hok j (by omega)⟩⟩
    have no : ¬ lkOk o ls i → Ret K (.bool false) Hc := fun hn => Ret.no h fun hh => hn (hh i hlt)
    refine ⟨_, Abs.sub_refl _, ?_⟩
    apply C_i_within
    refine ⟨Abs.sub_refl _, ?_⟩
    simp
    refine ⟨fun q => no fun ho => by have := ho.1; rw [he] at this; omega, fun q1 q1' => ?_⟩
    apply C_i_within
    refine ⟨Abs.sub_refl _, ?_⟩
    simp
    refine ⟨fun q => no fun ho => by have := ho.2.2.1; rw [he] at this; omega, fun q2 q2' => ?_⟩
    refine ⟨fun q => no fun ho => by have := ho.2.1; rw [he] at this; exact this q, fun q3 => ⟨fun q4 => ?_, fun q4 => next ⟨by rw [he]; omega, by rw [he]; exact q3, by rw [he]; omega, fun hh => absurd hh (by omega)⟩⟩⟩
    have hlt' : i - 1 < ls.length := by omega
    have he' := lk_get hlt'
    have e1 : ((i : Int) - 1).toNat = i - 1 := by omega
    rw [i64_in (n := (i : Int) - 1) (by omega) (by omega)]
    refine hv.idx (by omega) (by simp; omega) fun p' hp' => ?_
    refine hp'.fld fun p1 hp1 => ?_
    rw [hp1.ld, e1]
    simp [hlt']
    refine ⟨fun q => no fun ho => by have := ho.2.2.2 q4; rw [he, he'] at this; omega, fun q5 => next ⟨by rw [he]; omega, by rw [he]; exact q3, by rw [he]; omega, fun _ => by rw [he, he']; omega⟩⟩
  · have : i = ls.length := by omega
    subst this
    exact Ret.yes h hok

def InvSt (ss : List TStub) (H : Heap) (m : Nat) (ys : List V) (Hc : Heap) : Prop :=
  ∃ i, i ≤ ss.length ∧ ys = [.int .i64 (i : Nat)] ∧ m = ss.length - i ∧ Hc = H ∧ ∀ j, j < i → stOk ss j
theorem C_i_areStubs {ss : List TStub} {w : V} {H : Heap} {K : V → Heap → Prop} (hv : Rd H 3 w (ss.map enStub)) (hl : ss.length ≤ 1048576) (h : K (.bool (decide (ss.length ≤ 6 ∧ stsOk ss))) H) : ACalls P n_i_areStubs [w] H K := by
  apply W_i_areStubs
  unfold F_i_areStubs
  simp [hv.len]
  refine ⟨InvSt ss H, ⟨ss.length, Shr.of ⟨0, by omega, by simp, by omega, rfl, fun j hj => absurd hj (by omega)⟩⟩, ?_⟩
  rintro m ys Hc ⟨i, hi, rfl, rfl, rfl, hok⟩
  simp
  refine ⟨fun hlt => ?_, fun hge => ?_⟩
  · have he := rt_get hlt
    rw [i64_in (n := (i : Int) + 1) (by omega) (by omega)]
    refine hv.idx (by omega) (by simpa using hlt) fun p hp => ?_
    simp only [hp.ld]
    simp [hlt, stz_eq, putCells]
    have next : stOk ss i → ∃ n7, n7 < ss.length - i ∧ Shr (InvSt ss Hc n7 [.int .i64 ((i : Int) + 1)]) Hc := fun hl =>
      ⟨ss.length - (i + 1), by omega, Shr.of ⟨i + 1, by omega, by simp, rfl, rfl, fun j hj => by
        by_cases e : j = i
        · subst e; exact hl
        · exact hok j (by omega)⟩⟩
    have no : ¬ stOk ss i → Ret K (.bool false) Hc := fun hn => Ret.no h fun hh => hn (hh.2 i hlt)
    refine ⟨_, Abs.sub_refl _, ?_⟩
    apply C_i_PrefixOk
    refine ⟨Abs.sub_refl _, ?_⟩
    simp
    refine ⟨fun q => no fun ho => by have := ho.1; rw [he] at this; exact q this, fun q1 => ?_⟩
    apply C_i_within
    refine ⟨Abs.sub_refl _, ?_⟩
    simp
    refine ⟨fun q => no fun ho => by have := ho.2.1; rw [he] at this; omega, fun q2 q2' => ?_⟩
    refine ⟨fun q4 => ?_, fun q4 => next ⟨by rw [he]; exact q1, by rw [he]; omega, fun hh => absurd hh (by omega)⟩⟩
    have hlt' : i - 1 < ss.length := by omega
    have he' := rt_get hlt'
    have e1 : ((i : Int) - 1).toNat = i - 1 := by omega
    have ok' := hok (i - 1) (by omega)
    have b1 := ok'.1.1
    have b2 := ok'.1.2.1
    have b3 := q1.1
    have b4 := q1.2.1
    rw [he'] at b1 b2
    unfold addrOk at b2 b4
    rw [i64_in (n := (i : Int) - 1) (by omega) (by omega)]
    refine hv.idx (by omega) (by simp; omega) fun p' hp' => ?_
    refine hp'.fld fun p1 hp1 => ?_
    rw [hp1.ld, e1]
    simp [hlt']
    refine C_i_comparePrefixes (a := ss[i - 1]) (b := ss[i]) ⟨Abs.sub_refl _, ?_⟩
    simp
    by_cases q9 : ss[i - 1].1 = ss[i].1
    · rw [if_pos q9, i64_in (by omega) (by omega)]
      refine ⟨fun q => no fun ho => ?_, fun q => next ⟨by rw [he]; exact q1, by rw [he]; omega, fun _ => ?_⟩⟩
      · have := ho.2.2 (by omega); rw [he, he'] at this; unfold ahead at this; omega
      · rw [he, he']; unfold ahead; omega
    · rw [if_neg q9, i64_in (by omega) (by omega)]
      refine ⟨fun q => no fun ho => ?_, fun q => next ⟨by rw [he]; exact q1, by rw [he]; omega, fun _ => ?_⟩⟩
      · have := ho.2.2 (by omega); rw [he, he'] at this; unfold ahead at this; omega
      · rw [he, he']; unfold ahead; omega
  · have : i = ss.length := by omega
    subst this
    exact Ret.iff h ⟨fun hh => ⟨by omega, hok⟩, fun hh => by have := hh.1; omega⟩
theorem C_i_LsaOk {b : Bool} {a : TLsa} {vs : List V} {H : Heap} {K : V → Heap → Prop} (hv : (lsaT b).rd H a vs) (hl : a.links.length ≤ 1048576 ∧ a.stubs.length ≤ 1048576) (h : K (.bool (decide (lsaOk a))) H) : ACalls P n_i_LsaOk [.agg vs] H K := by
  obtain ⟨l, s, rfl, h2, h3⟩ := hv
  have hc := lsa_cell h2 h3
  apply W_i_LsaOk
  unfold F_i_LsaOk
  simp [hc]
  apply C_i_within
  simp
  refine ⟨fun q1 q1' => ?_, fun q => Ret.no h fun hh => by have := hh.1; omega⟩
  apply C_i_within
  simp
  refine ⟨fun q2 q2' => ?_, fun q => Ret.no h fun hh => by have := hh.2.1; omega⟩
  apply C_i_within
  simp
  refine ⟨fun q3 q3' => ?_, fun q => Ret.no h fun hh => by have := hh.2.2.1; omega⟩
  refine C_i_areLinks h2.1 hl.1 ?_
  simp
  refine ⟨fun q4 => ?_, fun q => Ret.no h fun hh => q hh.2.2.2.2.2.1⟩
  refine C_i_areStubs h3.1 hl.2 ?_
  exact Ret.iff h ⟨fun hh => ⟨⟨q1, q1'⟩, ⟨q2, q2'⟩, ⟨q3, q3'⟩, lks_len q4, hh.1, q4, hh.2⟩, fun hh => ⟨hh.2.2.2.2.1, hh.2.2.2.2.2.2⟩⟩

end Go.Proofs.YtohicpepcjgnaaaGreat
/-
Contracts: valid advertisements, the reference; valid databases.
-/
namespace Go.Proofs.YtohicpepcjgnaaaGreat
open Go Go.Abs Go.Proofs

def InvLs1 (a : TLsa) (l s : V) (H : Heap) (m : Nat) (ys : List V) (Hc : Heap) : Prop :=
  ∃ i, i ≤ a.links.length ∧ ys = [.box (lsaRow a l s), .int .i64 (i : Nat)] ∧ m = a.links.length - i ∧ Hc = H ∧ ∀ j, j < i → lkOk a.origin a.links j
def InvLs2 (a : TLsa) (l s : V) (H : Heap) (m : Nat) (ys : List V) (Hc : Heap) : Prop :=
  ∃ i, i ≤ a.stubs.length ∧ ys = [.box (lsaRow a l s), .int .i64 (i : Nat)] ∧ m = a.stubs.length - i ∧ Hc = H ∧ ∀ j, j < i → stOk a.stubs j
set_option maxHeartbeats 1000000 in
theorem C_s_LsaOk {b : Bool} {a : TLsa} {vs : List V} {H : Heap} {K : V → Heap → Prop} (hv : (lsaT b).rd H a vs) (h : K (.bool (decide (lsaOk a))) H) : ACalls P n_s_LsaOk [.agg vs] H K := by
  obtain ⟨l, s, rfl, h2, h3⟩ := hv
  have hc := lsa_cell h2 h3
  have h2 := h2.1
  have h3 := h3.1
  apply W_s_LsaOk
  unfold F_s_LsaOk
  simp only [cellsOf]
  simp [hc]
  apply C_s_l01In
  simp
  refine ⟨fun q => Ret.no h fun hh => by have := hh.1; omega, fun q1 q1' => ?_⟩
  apply C_s_l01In
  simp
  refine ⟨fun q => Ret.no h fun hh => by have := hh.2.1; omega, fun q2 q2' => ?_⟩
  apply C_s_l01In
  simp [h2.len, h3.len]
  refine ⟨fun q => Ret.no h fun hh => by have := hh.2.2.1; omega, fun q3 q3' => ⟨fun q => Ret.no h fun hh => by have := hh.2.2.2.1; omega, fun q4 => ⟨fun q => Ret.no h fun hh => by have := hh.2.2.2.2.1; omega, fun q5 => ?_⟩⟩⟩
  refine ⟨InvLs1 a l s H, ⟨a.links.length, Shr.of ⟨0, by omega, by simp, by omega, rfl, fun j hj => absurd hj (by omega)⟩⟩, ?_⟩
  rintro m ys Hc ⟨i, hi, rfl, rfl, rfl, hok⟩
  simp [hc, h2.len]
  refine ⟨fun hlt => ?_, fun hge => ?_⟩
  · have he := lk_get hlt
    rw [i64_in (n := (i : Int) + 1) (by omega) (by omega)]
    refine h2.idx (by omega) (by simpa using hlt) fun p hp => ?_
    simp only [hp.ld]
    simp [hlt, stz_eq, putCells]
    have next : lkOk a.origin a.links i → ∃ n7, n7 < a.links.length - i ∧ Shr (InvLs1 a l s Hc n7 [.box (lsaRow a l s), .int .i64 ((i : Int) + 1)]) Hc := fun hl =>
      ⟨a.links.length - (i + 1), by omega, Shr.of ⟨i + 1, by omega, by simp, rfl, rfl, fun j hj => by
        by_cases e : j = i
        · subst e; exact hl
        · exact hok j (by omega)⟩⟩
    have no : ¬ lkOk a.origin a.links i → Ret K (.bool false) Hc := fun hn => Ret.no h fun hh => hn (hh.2.2.2.2.2.1 i hlt)
    refine ⟨_, Abs.sub_refl _, ?_⟩
    apply C_s_l01In
    refine ⟨Abs.sub_refl _, ?_⟩
    simp
    refine ⟨fun q => no fun ho => by have := ho.1; rw [he] at this; omega, fun r1 r1' => ?_⟩
    refine ⟨fun q => no fun ho => by have := ho.2.1; rw [he] at this; exact this q, fun r3 => ?_⟩
    apply C_s_l01In
    refine ⟨Abs.sub_refl _, ?_⟩
    simp
    refine ⟨fun q => no fun ho => by have := ho.2.2.1; rw [he] at this; omega, fun r2 r2' => ?_⟩
    refine ⟨fun q4 => ?_, fun q4 => next ⟨by rw [he]; omega, by rw [he]; exact r3, by rw [he]; omega, fun hh => absurd hh (by omega)⟩⟩
    have hlt' : i - 1 < a.links.length := by omega
    have he' := lk_get hlt'
    have e1 : ((i : Int) - 1).toNat = i - 1 := by omega
    rw [i64_in (n := (i : Int) - 1) (by omega) (by omega)]
    refine h2.idx (by omega) (by simp; omega) fun p' hp' => ?_
    refine hp'.fld fun p1 hp1 => ?_
    rw [hp1.ld, e1]
    simp [hlt']
    refine ⟨fun q => no fun ho => by have := ho.2.2.2 q4; rw [he, he'] at this; omega, fun q5 => next ⟨by rw [he]; omega, by rw [he]; exact r3, by rw [he]; omega, fun _ => by rw [he, he']; omega⟩⟩
  · have : i = a.links.length := by omega
    subst this
    refine ⟨InvLs2 a l s Hc, ⟨a.stubs.length, Shr.of ⟨0, by omega, by simp, by omega, rfl, fun j hj => absurd hj (by omega)⟩⟩, ?_⟩
    rintro m ys Hc ⟨i, hi, rfl, rfl, rfl, hok2⟩
    simp [hc, h3.len]
    refine ⟨fun hlt => ?_, fun hge => ?_⟩
    · have he := rt_get hlt
      rw [i64_in (n := (i : Int) + 1) (by omega) (by omega)]
      refine h3.idx (by omega) (by simpa using hlt) fun p hp => ?_
      simp only [hp.ld]
      simp [hlt, stz_eq, putCells]
      have next : stOk a.stubs i → ∃ n7, n7 < a.stubs.length - i ∧ Shr (InvLs2 a l s Hc n7 [.box (lsaRow a l s), .int .i64 ((i : Int) + 1)]) Hc := fun hl =>
        ⟨a.stubs.length - (i + 1), by omega, Shr.of ⟨i + 1, by omega, by simp, rfl, rfl, fun j hj => by
          by_cases e : j = i
          · subst e; exact hl
          · exact hok2 j (by omega)⟩⟩
      have no : ¬ stOk a.stubs i → Ret K (.bool false) Hc := fun hn => Ret.no h fun hh => hn (hh.2.2.2.2.2.2 i hlt)
      refine ⟨_, Abs.sub_refl _, ?_⟩
      apply C_s_PrefixOk
      refine ⟨Abs.sub_refl _, ?_⟩
      simp
      refine ⟨fun q => no fun ho => by have := ho.1; rw [he] at this; exact q this, fun r1 => ?_⟩
      apply C_s_l01In
      refine ⟨Abs.sub_refl _, ?_⟩
      simp
      refine ⟨fun q => no fun ho => by have := ho.2.1; rw [he] at this; omega, fun r2 r2' => ?_⟩
      refine ⟨fun q4 => ?_, fun q4 => next ⟨by rw [he]; exact r1, by rw [he]; omega, fun hh => absurd hh (by omega)⟩⟩
      have hlt' : i - 1 < a.stubs.length := by omega
      have he' := rt_get hlt'
      have e1 : ((i : Int) - 1).toNat = i - 1 := by omega
      rw [i64_in (n := (i : Int) - 1) (by omega) (by omega)]
      refine h3.idx (by omega) (by simp; omega) fun p' hp' => ?_
      refine hp'.fld fun p1 hp1 => ?_
      rw [hp1.ld, e1]
      simp [hlt']
      refine C_s_l02Ahead (a := a.stubs[i - 1]) (b := a.stubs[i]) ?_
      refine ⟨Abs.sub_refl _, ?_⟩
      simp
      refine ⟨fun q => no fun ho => q (by have := ho.2.2 (by omega); rw [he, he'] at this; exact this), fun q5 => next ⟨by rw [he]; exact r1, by rw [he]; omega, fun _ => by rw [he, he']; exact q5⟩⟩
    · have : i = a.stubs.length := by omega
      subst this
      exact Ret.yes h ⟨⟨q1, q1'⟩, ⟨q2, q2'⟩, ⟨q3, q3'⟩, by omega, by omega, hok, hok2⟩

def og (xs : List TLsa) (i : Nat) : Int := ((xs.map (·.origin))[i]?).getD 0
theorem og_get {xs : List TLsa} {i : Nat} (h : i < xs.length) : og xs i = xs[i].origin := by simp [og, h]
def lsOk (xs : List TLsa) (i : Nat) : Prop := (∀ a, xs[i]? = some a → lsaOk a) ∧ (0 < i → og xs (i - 1) < og xs i)
def dbOk (xs : List TLsa) : Prop := (∀ i, (h : i < xs.length) → lsaOk xs[i]) ∧ ∀ i, i < xs.length → (0 < i → og xs (i - 1) < og xs i)
instance (xs : List TLsa) : Decidable (dbOk xs) := by unfold dbOk; infer_instance
theorem og_up {xs : List TLsa} (h : dbOk xs) : ∀ i, i < xs.length → (i : Int) ≤ og xs i
  | 0, hi => by have := (h.1 0 hi).1; rw [og_get hi]; omega
  | i + 1, hi => by
    have := og_up h i (by omega)
    have h2 := h.2 (i + 1) hi (by omega)
    simp only [Nat.add_sub_cancel] at h2
    omega
theorem db_len {xs : List TLsa} (h : dbOk xs) : xs.length ≤ 10 := by
  by_cases e : xs.length = 0
  · omega
  · have := og_up h (xs.length - 1) (by omega)
    have := (h.1 (xs.length - 1) (by omega)).1
    rw [og_get (by omega)] at *
    omega
theorem og_lt {xs : List TLsa} (h : dbOk xs) {i j : Nat} (hij : i < j) (hj : j < xs.length) : og xs i < og xs j := by
  induction j with
  | zero => omega
  | succ j ih =>
    have h2 := h.2 (j + 1) hj (by omega)
    simp only [Nat.add_sub_cancel] at h2
    by_cases e : i = j
    · subst e; exact h2
    · have := ih (by omega) (by omega)
      omega

def InvDs (xs : List TLsa) (H : Heap) (m : Nat) (ys : List V) (Hc : Heap) : Prop :=
  ∃ i, i ≤ xs.length ∧ ys = [.int .i64 (i : Nat)] ∧ m = xs.length - i ∧ Hc = H ∧ (∀ j, (h : j < xs.length) → j < i → lsaOk xs[j]) ∧ ∀ j, j < i → (0 < j → og xs (j - 1) < og xs j)
theorem C_s_DbOk {b : Bool} {xs : List TLsa} {w : V} {H : Heap} {K : V → Heap → Prop} (hv : (dbT b).rd H xs [w]) (h : K (.bool (decide (dbOk xs))) H) : ACalls P n_s_DbOk [.agg [w]] H K := by
  have hc := rdS_cell hv
  apply W_s_DbOk
  unfold F_s_DbOk
  simp [hc, rdS_len hv]
  refine ⟨fun q => Ret.no h fun hh => by have := db_len hh; omega, fun q => ?_⟩
  refine ⟨InvDs xs H, ⟨xs.length, Shr.of ⟨0, by omega, by simp, by omega, rfl, fun j _ hj => absurd hj (by omega), fun j hj => absurd hj (by omega)⟩⟩, ?_⟩
  rintro m ys Hc ⟨i, hi, rfl, rfl, rfl, hok, hok2⟩
  simp
  refine ⟨fun hlt => ⟨_, Abs.sub_refl _, ?_⟩, fun hge => ?_⟩
  · rw [i64_in (n := (i : Int) + 1) (by omega) (by omega)]
    refine rdS_idx hv (by omega) (by simpa using hlt) fun p row hp hr => ?_
    simp only [Int.toNat_natCast] at hr
    have hr' := hr
    obtain ⟨l, s, rfl, _, _⟩ := hr
    rw [hp.ld]
    simp
    refine C_s_LsaOk hr' ⟨Abs.sub_refl _, ?_⟩
    simp
    have next : lsaOk xs[i] → (0 < i → og xs (i - 1) < og xs i) → ∃ n7, n7 < xs.length - i ∧ Shr (InvDs xs Hc n7 [.int .i64 ((i : Int) + 1)]) Hc := fun h1 h2 =>
      ⟨xs.length - (i + 1), by omega, Shr.of ⟨i + 1, by omega, by simp, rfl, rfl, fun j hj hji => by
        by_cases e : j = i
        · subst e; exact h1
        · exact hok j hj (by omega), fun j hj => by
        by_cases e : j = i
        · subst e; exact h2
        · exact hok2 j (by omega)⟩⟩
    refine ⟨fun q => Ret.no h fun hh => q (hh.1 i hlt), fun q1 => ⟨fun q4 => ?_, fun q4 => next q1 fun hh => absurd hh (by omega)⟩⟩
    have hlt' : i - 1 < xs.length := by omega
    have e1 : ((i : Int) - 1).toNat = i - 1 := by omega
    rw [i64_in (n := (i : Int) - 1) (by omega) (by omega)]
    refine rdS_idx hv (by omega) (by omega) fun p' row' hp' hr' => ?_
    simp only [e1] at hr'
    obtain ⟨l', s', rfl, _, _⟩ := hr'
    refine hp'.fld fun p1 hp1 => ?_
    rw [hp1.ld]
    simp
    refine rdS_idx hv (by omega) (by simpa using hlt) fun p row hp hr => ?_
    simp only [Int.toNat_natCast] at hr
    obtain ⟨l'', s'', rfl, _, _⟩ := hr
    refine hp.fld fun p1 hp1 => ?_
    rw [hp1.ld]
    simp
    refine ⟨fun q => Ret.no h fun hh => by have := hh.2 i hlt q4; rw [og_get hlt, og_get hlt'] at this; omega, fun q => next q1 fun _ => by rw [og_get hlt, og_get hlt']; omega⟩
  · have : i = xs.length := by omega
    subst this
    exact Ret.yes h ⟨fun j hj => hok j hj hj, hok2⟩
def InvDi (xs : List TLsa) (w : V) (H : Heap) (m : Nat) (ys : List V) (Hc : Heap) : Prop :=
  ∃ i, i ≤ xs.length ∧ ys = [.box [w], .int .i64 (i : Nat)] ∧ m = xs.length - i ∧ Hc = H ∧ (∀ j, (h : j < xs.length) → j < i → lsaOk xs[j]) ∧ ∀ j, j < i → (0 < j → og xs (j - 1) < og xs j)
theorem C_i_DbOk {b : Bool} {xs : List TLsa} {w : V} {H : Heap} {K : V → Heap → Prop} (hv : (dbT b).rd H xs [w]) (hl : xs.length + sumF szl xs ≤ 1048576) (h : K (.bool (decide (dbOk xs))) H) : ACalls P n_i_DbOk [.agg [w]] H K := by
  have hc := rdS_cell hv
  apply W_i_DbOk
  unfold F_i_DbOk
  simp [hc, rdS_len hv]
  refine ⟨InvDi xs w H, ⟨xs.length, Shr.of ⟨0, by omega, by simp, by omega, rfl, fun j _ hj => absurd hj (by omega), fun j hj => absurd hj (by omega)⟩⟩, ?_⟩
  rintro m ys Hc ⟨i, hi, rfl, rfl, rfl, hok, hok2⟩
  simp
  refine ⟨fun hlt => ?_, fun hge => ?_⟩
  · rw [i64_in (n := (i : Int) + 1) (by omega) (by omega)]
    refine rdS_idx hv (by omega) (by simpa using hlt) fun p row hp hr => ?_
    simp only [Int.toNat_natCast] at hr
    have hr' := hr
    obtain ⟨l, s, rfl, g1, g2⟩ := hr
    have hcc := lsa_cell g1 g2
    have hz := le_sumF (f := szl) hlt
    have hz' : szl xs[i] = xs[i].links.length + xs[i].stubs.length := rfl
    rw [hp.ld]
    simp [stz_eq, putCells, hcc, hc]
    refine ⟨_, Abs.sub_refl _, ?_⟩
    refine C_i_LsaOk hr' (by omega) ⟨Abs.sub_refl _, ?_⟩
    simp
    have next : lsaOk xs[i] → (0 < i → og xs (i - 1) < og xs i) → ∃ n7, n7 < xs.length - i ∧ Shr (InvDi xs w Hc n7 [.box [w], .int .i64 ((i : Int) + 1)]) Hc := fun h1 h2 =>
      ⟨xs.length - (i + 1), by omega, Shr.of ⟨i + 1, by omega, by simp, rfl, rfl, fun j hj hji => by
        by_cases e : j = i
        · subst e; exact h1
        · exact hok j hj (by omega), fun j hj => by
        by_cases e : j = i
        · subst e; exact h2
        · exact hok2 j (by omega)⟩⟩
    refine ⟨fun q => Ret.no h fun hh => q (hh.1 i hlt), fun q1 => ⟨fun q4 => ?_, fun q4 => next q1 fun hh => absurd hh (by omega)⟩⟩
    have hlt' : i - 1 < xs.length := by omega
    have e1 : ((i : Int) - 1).toNat = i - 1 := by omega
    rw [i64_in (n := (i : Int) - 1) (by omega) (by omega)]
    refine rdS_idx hv (by omega) (by omega) fun p' row' hp' hr' => ?_
    simp only [e1] at hr'
    obtain ⟨l', s', rfl, _, _⟩ := hr'
    refine hp'.fld fun p1 hp1 => ?_
    rw [hp1.ld]
    simp
    refine ⟨fun q => Ret.no h fun hh => by have := hh.2 i hlt q4; rw [og_get hlt, og_get hlt'] at this; omega, fun q => next q1 fun _ => by rw [og_get hlt, og_get hlt']; omega⟩
  · have : i = xs.length := by omega
    subst this
    exact Ret.yes h ⟨fun j hj => hok j hj hj, hok2⟩

end Go.Proofs.YtohicpepcjgnaaaGreat
/-
Contracts: copies of advertisements and databases.
-/
namespace Go.Proofs.YtohicpepcjgnaaaGreat
open Go Go.Abs Go.Proofs

def InvC1 (H : Heap) (a : TLsa) (l s : V) (m : Nat) (ys : List V) (Hc : Heap) : Prop :=
  ∃ (i : Nat) (u : V), i ≤ a.links.length ∧ ys = [.box (lsaRow a l s), .box [.int .i64 0, .int .i64 0, .int .i64 0, .nils, .nils], .box (lsaRow a u .nils), .int .i64 (i : Nat)] ∧ m = a.links.length - i ∧ Held H 2 ((a.links.take i).map enLink) u Hc
def InvC2 (H : Heap) (a : TLsa) (l s u : V) (m : Nat) (ys : List V) (Hc : Heap) : Prop :=
  ∃ (i : Nat) (t : V), i ≤ a.stubs.length ∧ ys = [.box (lsaRow a l s), .box [.int .i64 0, .int .i64 0, .int .i64 0, .nils, .nils], .box (lsaRow a u t), .int .i64 (i : Nat)] ∧ m = a.stubs.length - i ∧ Held H 3 ((a.stubs.take i).map enStub) t Hc
theorem C_s_l05Copy {b c : Bool} {a : TLsa} {vs : List V} {H : Heap} {K : V → Heap → Prop} (hv : (lsaT b).rd H a vs) (hl : a.links.length ≤ 1048576 ∧ a.stubs.length ≤ 1048576) (h : ∀ us H', Dp (lsaT c) H a us H' → K (.agg us) H') : ACalls P n_s_l05Copy [.agg vs] H K := by
  obtain ⟨l, s, rfl, h2, h3⟩ := hv
  have hc := lsa_cell h2 h3
  have h2 := h2.1
  have h3 := h3.1
  apply W_s_l05Copy
  unfold F_s_l05Copy
  simp [hc, stz_eq, putCells, fillZ]
  refine ⟨InvC1 H a l s, ⟨a.links.length, Shr.of ⟨0, .nils, by omega, rfl, by omega, by simpa using Held.nil⟩⟩, ?_⟩
  rintro m ys Hc ⟨i, u, hi, rfl, rfl, hu⟩
  have cu := hu.cell
  simp [hc, h2.len]
  refine ⟨fun hlt => ?_, fun hge => ?_⟩
  · refine (h2.mono hu.sub).idx (by omega) (by simpa using hlt) fun p hp => ?_
    rw [hp.ld]
    simp [hlt, cu, bsl_one]
    intro o ho
    refine hu.append (sub_fresh ho) (by simp) (by simp; omega) fun v' H' H'' ho' hs' => ?_
    have cv := ho'.cell
    simp [stz_eq, putCells, cv]
    rw [i64_in (by omega) (by omega)]
    refine ⟨a.links.length - (i + 1), by omega, H'', hs', i + 1, v', by omega, by simp, rfl, ?_⟩
    rw [List.take_succ_eq_append_getElem hlt, List.map_append]
    exact ho'
  · have : i = a.links.length := by omega
    subst this
    rw [List.take_length] at hu
    refine ⟨InvC2 Hc a l s u, ⟨a.stubs.length, Shr.of ⟨0, .nils, by omega, rfl, by omega, by simpa using Held.nil⟩⟩, ?_⟩
    rintro m ys Hd ⟨i, t, hi, rfl, rfl, ht⟩
    have ct := ht.cell
    simp [hc, h3.len]
    refine ⟨fun hlt => ?_, fun hge => ?_⟩
    · refine (h3.mono (sub_trans hu.sub ht.sub)).idx (by omega) (by simpa using hlt) fun p hp => ?_
      rw [hp.ld]
      simp [hlt, ct, bsl_one]
      intro o ho
      refine ht.append (sub_fresh ho) (by simp) (by simp; omega) fun v' H' H'' ho' hs' => ?_
      have cv := ho'.cell
      simp [stz_eq, putCells, cv]
      rw [i64_in (by omega) (by omega)]
      refine ⟨a.stubs.length - (i + 1), by omega, H'', hs', i + 1, v', by omega, by simp, rfl, ?_⟩
      rw [List.take_succ_eq_append_getElem hlt, List.map_append]
      exact ho'
    · have : i = a.stubs.length := by omega
      subst this
      rw [List.take_length] at ht
      simp [stz_eq, putCells, cu, ct]
      exact Ret.of (h _ _ (Dp.lsa hu ht))

theorem C_Clone_Link {rows : List (List V)} {v : V} {H : Heap} {K : V → Heap → Prop} (hv : Rb false H 2 v rows) (hl : rows.length ≤ 1048576) (h : ∀ u H', Held H 2 rows u H' → K u H') : ACalls P n_slices_Clone_i_Link_i_Link [v] H K := by
  obtain ⟨hv, hro⟩ := hv
  have hro := hro rfl
  apply W_slices_Clone_i_Link_i_Link
  unfold F_slices_Clone_i_Link_i_Link
  have hn : (v = .nils ∧ rows = []) ∨ ∃ o s n c, v = .slice o s n c := by
    rcases hv.2 with rfl | h | ⟨o, s, cap, ob, rfl, _⟩
    · exact absurd rfl (hro _)
    · exact .inl h
    · exact .inr ⟨_, _, _, _, rfl⟩
  rcases hn with ⟨rfl, rfl⟩ | ⟨o, s, n, c, rfl⟩
  · simp [aBinZ, isNil]
    exact Ret.of (h _ _ Held.nil)
  · simp [aBinZ, isNil, bsl_nil]
    intro o3 ho3
    have h0 := Held.new (sz := 2) ho3
    rw [(hv.mono h0.sub).rows hro]
    simp
    by_cases hr : rows = []
    · subst hr
      simp [appendK]
      exact Ret.of (h _ _ h0)
    · refine h0.append (Abs.sub_refl _) hr (by simp; omega) fun v' H' H'' ho' hs' => ?_
      exact Ret.shr (h v' H'' (by simpa using ho')) rfl hs'
theorem C_Clone_Stub {rows : List (List V)} {v : V} {H : Heap} {K : V → Heap → Prop} (hv : Rb false H 3 v rows) (hl : rows.length ≤ 1048576) (h : ∀ u H', Held H 3 rows u H' → K u H') : ACalls P n_slices_Clone_i_Stub_i_Stub [v] H K := by
  obtain ⟨hv, hro⟩ := hv
  have hro := hro rfl
  apply W_slices_Clone_i_Stub_i_Stub
  unfold F_slices_Clone_i_Stub_i_Stub
  have hn : (v = .nils ∧ rows = []) ∨ ∃ o s n c, v = .slice o s n c := by
    rcases hv.2 with rfl | h | ⟨o, s, cap, ob, rfl, _⟩
    · exact absurd rfl (hro _)
    · exact .inl h
    · exact .inr ⟨_, _, _, _, rfl⟩
  rcases hn with ⟨rfl, rfl⟩ | ⟨o, s, n, c, rfl⟩
  · simp [aBinZ, isNil]
    exact Ret.of (h _ _ Held.nil)
  · simp [aBinZ, isNil, bsl_nil]
    intro o3 ho3
    have h0 := Held.new (sz := 3) ho3
    rw [(hv.mono h0.sub).rows hro]
    simp
    by_cases hr : rows = []
    · subst hr
      simp [appendK]
      exact Ret.of (h _ _ h0)
    · refine h0.append (Abs.sub_refl _) hr (by simp; omega) fun v' H' H'' ho' hs' => ?_
      exact Ret.shr (h v' H'' (by simpa using ho')) rfl hs'
theorem C_i_ownLsa {c : Bool} {a : TLsa} {vs : List V} {H : Heap} {K : V → Heap → Prop} (hv : (lsaT false).rd H a vs) (hl : a.links.length ≤ 1048576 ∧ a.stubs.length ≤ 1048576) (h : ∀ us H', Dp (lsaT c) H a us H' → K (.agg us) H') : ACalls P n_i_ownLsa [.agg vs] H K := by
  obtain ⟨l, s, rfl, h2, h3⟩ := hv
  have hc := lsa_cell h2 h3
  apply W_i_ownLsa
  unfold F_i_ownLsa
  simp [hc]
  refine ⟨_, Abs.sub_refl _, ?_⟩
  refine C_Clone_Link h2 (by simp; omega) fun u H1 hu => ⟨hu.sub, ?_⟩
  refine C_Clone_Stub (h3.mono hu.sub) (by simp; omega) fun t H2 ht => ⟨sub_trans hu.sub ht.sub, ?_⟩
  have cu := hu.cell
  have ct := ht.cell
  simp [stz_eq, putCells, cu, ct]
  exact Ret.of (h _ _ (Dp.lsa hu ht))

def InvD1 (c : Bool) (H : Heap) (xs : List TLsa) (w : V) (m : Nat) (ys : List V) (Hc : Heap) : Prop :=
  ∃ (i : Nat) (u : V), i ≤ xs.length ∧ ys = [.box [w], .box [.nils], .box [u], .int .i64 (i : Nat)] ∧ m = xs.length - i ∧ Dp (dbT c) H (xs.take i) [u] Hc
theorem C_s_l06Copy {b c : Bool} {xs : List TLsa} {w : V} {H : Heap} {K : V → Heap → Prop} (hv : (dbT b).rd H xs [w]) (hl : xs.length + sumF szl xs ≤ 1048576) (h : ∀ u H', Dp (dbT c) H xs [u] H' → K (.agg [u]) H') : ACalls P n_s_l06Copy [.agg [w]] H K := by
  have hc := rdS_cell hv
  apply W_s_l06Copy
  unfold F_s_l06Copy
  simp [hc, stz_eq, putCells, fillZ]
  refine ⟨InvD1 c H xs w, ⟨xs.length, Shr.of ⟨0, .nils, by omega, rfl, by omega, by simpa using dpS_nil⟩⟩, ?_⟩
  rintro m ys Hc ⟨i, u, hi, rfl, rfl, hu⟩
  have cu := dpS_cell hu
  simp [hc, rdS_len hv]
  refine ⟨fun hlt => ?_, fun hge => ?_⟩
  · refine rdS_idx ((dbT b).mono hv hu.sub) (by omega) (by simpa using hlt) fun p row hp hr => ?_
    simp only [Int.toNat_natCast] at hr
    rw [hp.ld]
    have hn := (lsaT b).len hr
    have hz := le_sumF (f := szl) hlt
    have hz' : szl xs[i] = xs[i].links.length + xs[i].stubs.length := rfl
    obtain ⟨l, s, rfl, h2, h3⟩ := hr
    simp [cu]
    refine C_s_l05Copy (b := b) (c := c) (a := xs[i]) ⟨l, s, rfl, h2, h3⟩ (by omega) fun us H1 hus => ?_
    obtain ⟨l', s', Hm, rfl, w1, w2⟩ := lsa_dp hus
    have c1 := w1.cell
    have c2 := w2.cell
    simp [bsl_one, c1, c2]
    intro o ho
    refine dpS_app (T := lsaT c) hu hus (sub_fresh ho) (by simp; omega) fun v' H' H'' ho' hs' => ?_
    have cv := dpS_cell ho'
    simp [stz_eq, putCells, cv]
    rw [i64_in (by omega) (by omega)]
    refine ⟨xs.length - (i + 1), by omega, H'', hs', i + 1, v', by omega, by simp, rfl, ?_⟩
    rw [List.take_succ_eq_append_getElem hlt]
    exact ho'
  · have : i = xs.length := by omega
    subst this
    rw [List.take_length] at hu
    simp [stz_eq, putCells, cu]
    exact Ret.of (h _ _ hu)
def InvD2 (c : Bool) (H : Heap) (xs : List TLsa) (m : Nat) (ys : List V) (Hc : Heap) : Prop :=
  ∃ (i : Nat) (u : V), i ≤ xs.length ∧ ys = [.box [.nils], .box [u], .int .i64 (i : Nat)] ∧ m = xs.length - i ∧ Dp (dbT c) H (xs.take i) [u] Hc
theorem C_i_ownDb {c : Bool} {xs : List TLsa} {w : V} {H : Heap} {K : V → Heap → Prop} (hv : (dbT false).rd H xs [w]) (hl : xs.length + sumF szl xs ≤ 1048576) (h : ∀ u H', Dp (dbT c) H xs [u] H' → K (.agg [u]) H') : ACalls P n_i_ownDb [.agg [w]] H K := by
  have hc := rdS_cell hv
  apply W_i_ownDb
  unfold F_i_ownDb
  simp [hc, stz_eq, putCells, fillZ, rdS_len hv]
  refine ⟨InvD2 c H xs, ⟨xs.length, Shr.of ⟨0, .nils, by omega, rfl, by omega, by simpa using dpS_nil⟩⟩, ?_⟩
  rintro m ys Hc ⟨i, u, hi, rfl, rfl, hu⟩
  have cu := dpS_cell hu
  simp
  refine ⟨fun hlt => ?_, fun hge => ?_⟩
  · refine rdS_idx ((dbT false).mono hv hu.sub) (by omega) (by simpa using hlt) fun p row hp hr => ?_
    simp only [Int.toNat_natCast] at hr
    rw [hp.ld]
    have hz := le_sumF (f := szl) hlt
    have hz' : szl xs[i] = xs[i].links.length + xs[i].stubs.length := rfl
    obtain ⟨l, s, rfl, h2, h3⟩ := hr
    have hc3 := lsa_cell h2 h3
    simp [cu, stz_eq, putCells, hc3]
    refine C_i_ownLsa (c := c) (a := xs[i]) ⟨l, s, rfl, h2, h3⟩ (by omega) fun us H1 hus => ?_
    obtain ⟨l', s', Hm, rfl, w1, w2⟩ := lsa_dp hus
    have c1 := w1.cell
    have c2 := w2.cell
    simp [bsl_one, c1, c2]
    intro o ho
    refine dpS_app (T := lsaT c) hu hus (sub_fresh ho) (by simp; omega) fun v' H' H'' ho' hs' => ?_
    have cv := dpS_cell ho'
    simp [stz_eq, putCells, cv]
    rw [i64_in (by omega) (by omega)]
    refine ⟨xs.length - (i + 1), by omega, H'', hs', i + 1, v', by omega, by simp, rfl, ?_⟩
    rw [List.take_succ_eq_append_getElem hlt]
    exact ho'
  · have : i = xs.length := by omega
    subst this
    rw [List.take_length] at hu
    simp [stz_eq, putCells, cu]
    exact Ret.of (h _ _ hu)
end Go.Proofs.YtohicpepcjgnaaaGreat
/-
Contracts: finding an advertisement.
-/
namespace Go.Proofs.YtohicpepcjgnaaaGreat
open Go Go.Abs Go.Proofs

theorem C_cmp_isNaN_int {a : Int} {H : Heap} {K : V → Heap → Prop} (h : K (.bool false) H) : ACalls P n_cmp_isNaN_int [.int .i64 a] H K := by
  apply W_cmp_isNaN_int
  unfold F_cmp_isNaN_int
  simp
  exact Ret.of h
def cmpI (a b : Int) : Int := if a < b then -1 else if b < a then 1 else 0
theorem C_cmp_Compare_int {a b : Int} {H : Heap} {K : V → Heap → Prop} (h : K (.int .i64 (cmpI a b)) H) : ACalls P n_cmp_Compare_int [.int .i64 a, .int .i64 b] H K := by
  apply W_cmp_Compare_int
  unfold F_cmp_Compare_int
  apply C_cmp_isNaN_int
  apply C_cmp_isNaN_int
  simp
  unfold cmpI at h
  refine ⟨fun q => Ret.eq h (by rw [if_pos q]), fun q => ⟨fun q2 => Ret.eq h (by rw [if_neg (by omega), if_pos q2]), fun q2 => Ret.eq h (by rw [if_neg (by omega), if_neg (by omega)])⟩⟩
theorem C_i_Db_find_1 {a : TLsa} {l s : V} {o : Int} {H : Heap} {K : V → Heap → Prop} (hc : cellOk l = true ∧ cellOk s = true) (h : K (.int .i64 (cmpI a.origin o)) H) : ACalls P n_i_Db_find_1 [.agg (lsaRow a l s), .int .i64 o] H K := by
  apply W_i_Db_find_1
  unfold F_i_Db_find_1
  simp [hc]
  apply C_cmp_Compare_int
  exact Ret.of h

theorem mid_ : ∀ s : Nat, s ≤ 20 → aBinN .shr (.int .u64 (IntKind.u64.wrap (s : Int))) (.int .u64 1) = some (.int .u64 ((s / 2 : Nat) : Int)) := by
  intro s hs
  have : s = 0 ∨ s = 1 ∨ s = 2 ∨ s = 3 ∨ s = 4 ∨ s = 5 ∨ s = 6 ∨ s = 7 ∨ s = 8 ∨ s = 9 ∨ s = 10 ∨ s = 11 ∨ s = 12 ∨ s = 13 ∨ s = 14 ∨ s = 15 ∨ s = 16 ∨ s = 17 ∨ s = 18 ∨ s = 19 ∨ s = 20 := by omega
  rcases this with rfl | rfl | rfl | rfl | rfl | rfl | rfl | rfl | rfl | rfl | rfl | rfl | rfl | rfl | rfl | rfl | rfl | rfl | rfl | rfl | rfl <;> rfl
def InvBs (xs : List TLsa) (o : Int) (H : Heap) (m : Nat) (ys : List V) (Hc : Heap) : Prop :=
  ∃ lo hi : Nat, lo ≤ hi ∧ hi ≤ xs.length ∧ ys = [.int .i64 (lo : Nat), .int .i64 (hi : Nat)] ∧ m = hi - lo ∧ Hc = H ∧ (∀ j, j < lo → og xs j < o) ∧ ∀ j, hi ≤ j → j < xs.length → o ≤ og xs j
theorem C_find {b : Bool} {xs : List TLsa} {w : V} {o : Int} {H : Heap} {K : V → Heap → Prop} (hv : (dbT b).rd H xs [w]) (hd : dbOk xs)
    (h : ∀ i : Nat, i ≤ xs.length → (∀ j, j < i → og xs j < o) → (∀ j, i ≤ j → j < xs.length → o ≤ og xs j) → K (.tup [.int .i64 (i : Nat), .bool (decide (i < xs.length ∧ og xs i = o))]) H) : ACalls P n_slices_BinarySearchFunc_i_Lsa_i_Lsa_int [w, .int .i64 o, .fn n_i_Db_find_1 []] H K := by
  have hl := db_len hd
  apply W_slices_BinarySearchFunc_i_Lsa_i_Lsa_int
  unfold F_slices_BinarySearchFunc_i_Lsa_i_Lsa_int
  simp [rdS_len hv]
  refine ⟨InvBs xs o H, ⟨xs.length, Shr.of ⟨0, xs.length, by omega, by omega, rfl, by omega, rfl, fun j hj => absurd hj (by omega), fun j _ hj => absurd hj (by omega)⟩⟩, ?_⟩
  rintro m ys Hc ⟨lo, hi, h1, h2, rfl, rfl, rfl, h3, h4⟩
  simp
  refine ⟨fun hlt => ?_, fun hge => ?_⟩
  · have e1 : IntKind.i64.wrap ((lo : Int) + hi) = ((lo + hi : Nat) : Int) := by rw [i64_in (by omega) (by omega)]; simp
    rw [e1, mid_ _ (by omega)]
    simp
    generalize hmid : (lo + hi) / 2 = q
    have hq : lo ≤ q ∧ q < hi := by omega
    have e2 : (((lo : Int) + hi) / 2) = (q : Int) := by omega
    simp only [e2]
    rw [i64_in (n := (q : Int)) (by omega) (by omega)]
    refine rdS_idx hv (by omega) (by simp; omega) fun p row hp hr => ?_
    simp only [Int.toNat_natCast] at hr
    obtain ⟨l, s, rfl, g1, g2⟩ := hr
    have hcc := lsa_cell g1 g2
    rw [hp.ld]
    simp
    simp only [callK]
    rw [E_i_Db_find_1]
    show ACalls P n_i_Db_find_1 [.agg (lsaRow xs[q] l s), .int .i64 o] Hc _
    refine C_i_Db_find_1 (by simp [hcc]) ?_
    have hqn : q < xs.length := by omega
    have hg := og_get hqn
    rw [i64_in (by omega) (by omega)]
    simp
    unfold cmpI
    refine ⟨fun hh => ⟨hi - (q + 1), by omega, Shr.of ⟨q + 1, hi, by omega, by omega, by simp, rfl, rfl, fun j hj => ?_, h4⟩⟩, fun hh => ⟨q - lo, by omega, Shr.of ⟨lo, q, by omega, by omega, by simp, rfl, rfl, h3, fun j hj hj' => ?_⟩⟩⟩
    · have hlt : og xs q < o := by
        rw [hg]
        split at hh
        · assumption
        · split at hh <;> omega
      by_cases e : j = q
      · subst e; exact hlt
      · have := og_lt hd (i := j) (j := q) (by omega) hqn
        omega
    · have hle : o ≤ og xs q := by
        rw [hg]
        split at hh
        · omega
        · omega
      by_cases e : j = q
      · subst e; exact hle
      · have := og_lt hd (i := q) (j := j) (by omega) hj'
        omega
  · have : lo = hi := by omega
    subst this
    refine ⟨fun hlt => ?_, fun hge => Ret.eq (h lo h2 h3 h4) (by simp; omega)⟩
    refine rdS_idx hv (by omega) (by simp; omega) fun p row hp hr => ?_
    simp only [Int.toNat_natCast] at hr
    obtain ⟨l, s, rfl, g1, g2⟩ := hr
    have hcc := lsa_cell g1 g2
    rw [hp.ld]
    simp
    simp only [callK]
    rw [E_i_Db_find_1]
    show ACalls P n_i_Db_find_1 [.agg (lsaRow xs[lo] l s), .int .i64 o] Hc _
    refine C_i_Db_find_1 (by simp [hcc]) ?_
    have hg := og_get hlt
    have h5 := h4 lo (by omega) hlt
    simp
    refine Ret.eq (h lo h2 h3 h4) ?_
    simp [hlt, hg]
    unfold cmpI
    rw [hg] at h5
    split
    · omega
    · split <;> omega
theorem C_i_Db_find {b : Bool} {xs : List TLsa} {w : V} {o : Int} {H : Heap} {K : V → Heap → Prop} (hv : (dbT b).rd H xs [w]) (hd : dbOk xs)
    (h : ∀ i : Nat, i ≤ xs.length → (∀ j, j < i → og xs j < o) → (∀ j, i ≤ j → j < xs.length → o ≤ og xs j) → K (.tup [.int .i64 (i : Nat), .bool (decide (i < xs.length ∧ og xs i = o))]) H) : ACalls P n_i_Db_find [.agg [w], .int .i64 o] H K := by
  have hc := rdS_cell hv
  apply W_i_Db_find
  unfold F_i_Db_find
  simp [hc]
  refine C_find hv hd fun i h1 h2 h3 => ?_
  simp
  exact Ret.eq (h i h1 h2 h3) (by simp)

def zeroL : TLsa := ⟨0, 0, 0, [], []⟩
theorem zero_dp {b : Bool} {H : Heap} : Dp (lsaT b) H zeroL [.int .i64 0, .int .i64 0, .int .i64 0, .nils, .nils] H := Dp.lsa (a := zeroL) Held.nil Held.nil
def findR (xs : List TLsa) (o : Int) : TLsa × Bool :=
  if dbOk xs then (match xs.find? (fun a => a.origin == o) with | some a => (a, true) | none => (zeroL, false)) else (zeroL, false)
theorem findR_bad {xs : List TLsa} {o : Int} (h : ¬ dbOk xs) : findR xs o = (zeroL, false) := by unfold findR; rw [if_neg h]
theorem findR_no {xs : List TLsa} {o : Int} (h : ∀ i, i < xs.length → og xs i ≠ o) : findR xs o = (zeroL, false) := by
  unfold findR
  have : xs.find? (fun a => a.origin == o) = none := by
    rw [List.find?_eq_none]
    intro a ha
    obtain ⟨i, hi, rfl⟩ := List.mem_iff_getElem.1 ha
    have := h i hi
    rw [og_get hi] at this
    simpa using this
  rw [this]
  split <;> rfl
theorem findR_at {xs : List TLsa} {o : Int} {i : Nat} (hd : dbOk xs) (hi : i < xs.length) (h : og xs i = o) : findR xs o = (xs[i], true) := by
  unfold findR
  rw [if_pos hd]
  have : xs.find? (fun a => a.origin == o) = some xs[i] := by
    rw [List.find?_eq_some_iff_getElem]
    refine ⟨by rw [og_get hi] at h; simpa using h, i, hi, rfl, fun j hj => ?_⟩
    have := og_lt hd hj hi
    rw [og_get (by omega)] at this
    simp
    omega
  rw [this]

def InvF (xs : List TLsa) (w : V) (o : Int) (H : Heap) (m : Nat) (ys : List V) (Hc : Heap) : Prop :=
  ∃ i : Nat, i ≤ xs.length ∧ ys = [.box [w], .box [.int .i64 0, .int .i64 0, .int .i64 0, .nils, .nils], .int .i64 (i : Nat)] ∧ m = xs.length - i ∧ Hc = H ∧ ∀ j, j < i → og xs j ≠ o
theorem C_s_FindLsa {b c : Bool} {xs : List TLsa} {w : V} {o : Int} {H : Heap} {K : V → Heap → Prop} (hv : (dbT b).rd H xs [w]) (hl : xs.length + sumF szl xs ≤ 1048576)
    (h : ∀ us H', Dp (lsaT c) H (findR xs o).1 us H' → K (.tup [.agg us, .bool (findR xs o).2]) H') : ACalls P n_s_FindLsa [.agg [w], .int .i64 o] H K := by
  have hc := rdS_cell hv
  apply W_s_FindLsa
  unfold F_s_FindLsa
  simp [hc]
  refine C_s_DbOk hv ?_
  simp [fillZ, stz_eq, putCells]
  refine ⟨fun q => ?_, fun q1 => ?_⟩
  · rw [findR_bad q] at h
    exact Ret.of (h _ _ zero_dp)
  have hlen := db_len q1
  refine ⟨InvF xs w o H, ⟨xs.length, Shr.of ⟨0, by omega, rfl, by omega, rfl, fun j hj => absurd hj (by omega)⟩⟩, ?_⟩
  rintro m ys Hc ⟨i, hi, rfl, rfl, rfl, hno⟩
  simp [hc, rdS_len hv]
  refine ⟨fun hlt => ?_, fun hge => ?_⟩
  · refine rdS_idx hv (by omega) (by simpa using hlt) fun p row hp hr => ?_
    simp only [Int.toNat_natCast] at hr
    obtain ⟨l, s, rfl, _, _⟩ := hr
    refine hp.fld fun p1 hp1 => ?_
    rw [hp1.ld]
    simp
    have hg := og_get hlt
    refine ⟨fun q => ?_, fun q => ?_⟩
    · refine rdS_idx hv (by omega) (by simpa using hlt) fun p row hp hr => ?_
      simp only [Int.toNat_natCast] at hr
      have hr' := hr
      obtain ⟨l, s, rfl, _, _⟩ := hr
      rw [hp.ld]
      simp
      have hz := le_sumF (f := szl) hlt
      have hz' : szl xs[i] = xs[i].links.length + xs[i].stubs.length := rfl
      refine C_s_l05Copy (c := c) hr' (by omega) fun us H1 hus => ?_
      obtain ⟨l', s', Hm, rfl, w1, w2⟩ := lsa_dp hus
      have c1 := w1.cell
      have c2 := w2.cell
      rw [findR_at q1 hlt (by omega)] at h
      simp [stz_eq, putCells, c1, c2]
      exact Ret.of (h _ _ hus)
    · rw [i64_in (by omega) (by omega)]
      exact ⟨xs.length - (i + 1), by omega, Shr.of ⟨i + 1, by omega, by simp, rfl, rfl, fun j hj => by
        by_cases e : j = i
        · subst e; omega
        · exact hno j (by omega)⟩⟩
  · have : i = xs.length := by omega
    subst this
    rw [findR_no hno] at h
    simp [fillZ, stz_eq, putCells]
    exact Ret.of (h _ _ zero_dp)
theorem C_i_FindLsa {c : Bool} {xs : List TLsa} {w : V} {o : Int} {H : Heap} {K : V → Heap → Prop} (hv : (dbT false).rd H xs [w]) (hl : xs.length + sumF szl xs ≤ 1048576)
    (h : ∀ us H', Dp (lsaT c) H (findR xs o).1 us H' → K (.tup [.agg us, .bool (findR xs o).2]) H') : ACalls P n_i_FindLsa [.agg [w], .int .i64 o] H K := by
  have hc := rdS_cell hv
  apply W_i_FindLsa
  unfold F_i_FindLsa
  simp [hc]
  refine C_i_DbOk hv hl ?_
  simp [fillZ, stz_eq, putCells]
  refine ⟨fun q => ?_, fun q1 => ?_⟩
  · rw [findR_bad q] at h
    exact Ret.of (h _ _ zero_dp)
  refine C_i_Db_find hv q1 fun i h1 h2 h3 => ?_
  simp
  by_cases hf : i < xs.length ∧ og xs i = o
  · refine ⟨fun q => absurd hf (by omega), fun _ _ => ?_⟩
    have hlt := hf.1
    refine rdS_idx hv (by omega) (by simpa using hlt) fun p row hp hr => ?_
    simp only [Int.toNat_natCast] at hr
    have hr' := hr
    obtain ⟨l, s, rfl, _, _⟩ := hr
    rw [hp.ld]
    simp
    have hz := le_sumF (f := szl) hlt
    have hz' : szl xs[i] = xs[i].links.length + xs[i].stubs.length := rfl
    refine C_i_ownLsa (c := c) hr' (by omega) fun us H1 hus => ?_
    obtain ⟨l', s', Hm, rfl, w1, w2⟩ := lsa_dp hus
    have c1 := w1.cell
    have c2 := w2.cell
    rw [findR_at q1 hlt hf.2] at h
    simp [stz_eq, putCells, c1, c2]
    exact Ret.of (h _ _ hus)
  · refine ⟨fun q => ?_, fun q1 q2 => absurd ⟨q1, q2⟩ hf⟩
    have : ∀ j, j < xs.length → og xs j ≠ o := fun j hj => by
      by_cases e : j < i
      · have := h2 j e; omega
      · by_cases e2 : j = i
        · subst e2; exact fun hh => hf ⟨hj, hh⟩
        · have := og_lt q1 (i := i) (j := j) (by omega) hj
          have := h3 i (by omega) (by omega)
          omega
    rw [findR_no this] at h
    exact Ret.of (h _ _ zero_dp)
theorem findR_sz {xs : List TLsa} {o : Int} (h : xs.length + sumF szl xs ≤ 1048576) : (findR xs o).1.links.length ≤ 1048576 ∧ (findR xs o).1.stubs.length ≤ 1048576 := by
  unfold findR
  split
  · split
    · rename_i a ha
      obtain ⟨i, hi, rfl⟩ := List.mem_iff_getElem.1 (List.mem_of_find?_eq_some ha)
      have hz := le_sumF (f := szl) hi
      have hz' : szl xs[i] = xs[i].links.length + xs[i].stubs.length := rfl
      simp only
      omega
    · simp [zeroL]
  · simp [zeroL]
end Go.Proofs.YtohicpepcjgnaaaGreat
