/-
Contracts: valid advertisements.
-/
import Derived.Test.YtaippfedjjjpeaaGreatLkM
set_option linter.all false
namespace Go.Proofs.YtaippfedjjjpeaaGreat
open Go Go.Abs Go.Proofs

abbrev lk (ls : List TLink) (i : Nat) : TLink := ls.getD i (0, 0)
theorem rt_get {t : List TStub} {i : Nat} (h : i < t.length) : rt t i = t[i] := by simp [rt, h]
theorem lk_get {t : List TLink} {i : Nat} (h : i < t.length) : lk t i = t[i] := by simp [lk, h]
def lkOk (o : Int) (ls : List TLink) (i : Nat) : Prop := (0 ≤ (lk ls i).1 ∧ (lk ls i).1 ≤ 9) ∧ (lk ls i).1 ≠ o ∧ (1 ≤ (lk ls i).2 ∧ (lk ls i).2 ≤ 1000) ∧ (0 < i → (lk ls (i - 1)).1 < (lk ls i).1)
instance (o : Int) (ls : List TLink) (i : Nat) : Decidable (lkOk o ls i) := by unfold lkOk; infer_instance
def stOk (ss : List TStub) (i : Nat) : Prop := prefOk (rt ss i).1 (rt ss i).2.1 ∧ (1 ≤ (rt ss i).2.2 ∧ (rt ss i).2.2 ≤ 1000) ∧ (0 < i → ahead (rt ss (i - 1)) (rt ss i))
instance (ss : List TStub) (i : Nat) : Decidable (stOk ss i) := by unfold stOk; infer_instance
def lksOk (o : Int) (ls : List TLink) : Prop := ∀ i, i < ls.length → lkOk o ls i
instance (o : Int) (ls : List TLink) : Decidable (lksOk o ls) := by unfold lksOk; infer_instance
def stsOk (ss : List TStub) : Prop := ∀ i, i < ss.length → stOk ss i
instance (ss : List TStub) : Decidable (stsOk ss) := by unfold stsOk; infer_instance
def lsaOk (a : TLsa) : Prop := (0 ≤ a.origin ∧ a.origin ≤ 9) ∧ (1 ≤ a.seq ∧ a.seq ≤ 1000000) ∧ (0 ≤ a.age ∧ a.age ≤ 60) ∧ a.links.length ≤ 10 ∧ a.stubs.length ≤ 6 ∧ lksOk a.origin a.links ∧ stsOk a.stubs
instance (a : TLsa) : Decidable (lsaOk a) := by unfold lsaOk; infer_instance
theorem lks_up {o : Int} {ls : List TLink} (h : lksOk o ls) : ∀ i, i < ls.length → (i : Int) ≤ (lk ls i).1
  | 0, hi => by have := (h 0 hi).1; omega
  | i + 1, hi => by
    have := lks_up h i (by omega)
    have h2 := (h (i + 1) hi).2.2.2 (by omega)
    simp only [Nat.add_sub_cancel] at h2
    omega
theorem lks_len {o : Int} {ls : List TLink} (h : lksOk o ls) : ls.length ≤ 10 := by
  by_cases e : ls.length = 0
  · omega
  · have := lks_up h (ls.length - 1) (by omega)
    have := (h (ls.length - 1) (by omega)).1
    omega

def InvLk (o : Int) (ls : List TLink) (H : Heap) (m : Nat) (ys : List V) (Hc : Heap) : Prop :=
  ∃ i, i ≤ ls.length ∧ ys = [.int .i64 (i : Nat)] ∧ m = ls.length - i ∧ Hc = H ∧ ∀ j, j < i → lkOk o ls j
theorem C_i_areLinks {o : Int} {ls : List TLink} {w : V} {H : Heap} {K : V → Heap → Prop} (hv : Rd H 2 w (ls.map enLink)) (hl : ls.length ≤ 1048576) (h : K (.bool (decide (lksOk o ls))) H) : ACalls P n_i_areLinks [.int .i64 o, w] H K := by
  apply W_i_areLinks
  unfold F_i_areLinks
  simp [hv.len]
  refine ⟨InvLk o ls H, ⟨ls.length, Shr.of ⟨0, by omega, by simp, by omega, rfl, fun j hj => absurd hj (by omega)⟩⟩, ?_⟩
  rintro m ys Hc ⟨i, hi, rfl, rfl, rfl, hok⟩
  simp
  refine ⟨fun hlt => ?_, fun hge => ?_⟩
  · have he := lk_get hlt
    rw [i64_in (n := (i : Int) + 1) (by omega) (by omega)]
    refine hv.idx (by omega) (by simpa using hlt) fun p hp => ?_
    simp only [hp.ld]
    simp [hlt, stz_eq, putCells]
    have next : lkOk o ls i → ∃ n7, n7 < ls.length - i ∧ Shr (InvLk o ls Hc n7 [.int .i64 ((i : Int) + 1)]) Hc := fun hl =>
      ⟨ls.length - (i + 1), by omega, Shr.of ⟨i + 1, by omega, by simp, rfl, rfl, fun j hj => by
        by_cases e : j = i
        · subst e; exact hl
        · exact hok j (by omega)⟩⟩
    have no : ¬ lkOk o ls i → Ret K (.bool false) Hc := fun hn => Ret.no h fun hh => hn (hh i hlt)
    refine ⟨_, Abs.sub_refl _, ?_⟩
    apply C_i_within
    refine ⟨Abs.sub_refl _, ?_⟩
    simp
    refine ⟨fun q => no fun ho => by have := ho.1; rw [he] at this; omega, fun q1 q1' => ?_⟩
    apply C_i_within
    refine ⟨Abs.sub_refl _, ?_⟩
    simp
    refine ⟨fun q => no fun ho => by have := ho.2.2.1; rw [he] at this; omega, fun q2 q2' => ?_⟩
    refine ⟨fun q => no fun ho => by have := ho.2.1; rw [he] at this; exact this q, fun q3 => ⟨fun q4 => ?_, fun q4 => next ⟨by rw [he]; omega, by rw [he]; exact q3, by rw [he]; omega, fun hh => absurd hh (by omega)⟩⟩⟩
    have hlt' : i - 1 < ls.length := by omega
    have he' := lk_get hlt'
    have e1 : ((i : Int) - 1).toNat = i - 1 := by omega
    rw [i64_in (n := (i : Int) - 1) (by omega) (by omega)]
    refine hv.idx (by omega) (by simp; omega) fun p' hp' => ?_
    refine hp'.fld fun p1 hp1 => ?_
    rw [hp1.ld, e1]
    simp [hlt']
    refine ⟨fun q => no fun ho => by have := ho.2.2.2 q4; rw [he, he'] at this; omega, fun q5 => next ⟨by rw [he]; omega, by rw [he]; exact q3, by rw [he]; omega, fun _ => by rw [he, he']; omega⟩⟩
  · have : i = ls.length := by omega
    subst this
    exact Ret.yes h hok

def InvSt (ss : List TStub) (H : Heap) (m : Nat) (ys : List V) (Hc : Heap) : Prop :=
  ∃ i, i ≤ ss.length ∧ ys = [.int .i64 (i : Nat)] ∧ m = ss.length - i ∧ Hc = H ∧ ∀ j, j < i → stOk ss j
theorem C_i_areStubs {ss : List TStub} {w : V} {H : Heap} {K : V → Heap → Prop} (hv : Rd H 3 w (ss.map enStub)) (hl : ss.length ≤ 1048576) (h : K (.bool (decide (ss.length ≤ 6 ∧ stsOk ss))) H) : ACalls P n_i_areStubs [w] H K := by
  apply W_i_areStubs
  unfold F_i_areStubs
  simp [hv.len]
  refine ⟨InvSt ss H, ⟨ss.length, Shr.of ⟨0, by omega, by simp, by omega, rfl, fun j hj => absurd hj (by omega)⟩⟩, ?_⟩
  rintro m ys Hc ⟨i, hi, rfl, rfl, rfl, hok⟩
  simp
  refine ⟨fun hlt => ?_, fun hge => ?_⟩
  · have he := rt_get hlt
    rw [i64_in (n := (i : Int) + 1) (by omega) (by omega)]
    refine hv.idx (by omega) (by simpa using hlt) fun p hp => ?_
    simp only [hp.ld]
    simp [hlt, stz_eq, putCells]
    have next : stOk ss i → ∃ n7, n7 < ss.length - i ∧ Shr (InvSt ss Hc n7 [.int .i64 ((i : Int) + 1)]) Hc := fun hl =>
      ⟨ss.length - (i + 1), by omega, Shr.of ⟨i + 1, by omega, by simp, rfl, rfl, fun j hj => by
        by_cases e : j = i
        · subst e; exact hl
        · exact hok j (by omega)⟩⟩
    have no : ¬ stOk ss i → Ret K (.bool false) Hc := fun hn => Ret.no h fun hh => hn (hh.2 i hlt)
    refine ⟨_, Abs.sub_refl _, ?_⟩
    apply C_i_PrefixOk
    refine ⟨Abs.sub_refl _, ?_⟩
    simp
    refine ⟨fun q => no fun ho => by have := ho.1; rw [he] at this; exact q this, fun q1 => ?_⟩
    apply C_i_within
    refine ⟨Abs.sub_refl _, ?_⟩
    simp
    refine ⟨fun q => no fun ho => by have := ho.2.1; rw [he] at this; omega, fun q2 q2' => ?_⟩
    refine ⟨fun q4 => ?_, fun q4 => next ⟨by rw [he]; exact q1, by rw [he]; omega, fun hh => absurd hh (by omega)⟩⟩
    have hlt' : i - 1 < ss.length := by omega
    have he' := rt_get hlt'
    have e1 : ((i : Int) - 1).toNat = i - 1 := by omega
    have ok' := hok (i - 1) (by omega)
    have b1 := ok'.1.1
    have b2 := ok'.1.2.1
    have b3 := q1.1
    have b4 := q1.2.1
    rw [he'] at b1 b2
    unfold addrOk at b2 b4
    rw [i64_in (n := (i : Int) - 1) (by omega) (by omega)]
    refine hv.idx (by omega) (by simp; omega) fun p' hp' => ?_
    refine hp'.fld fun p1 hp1 => ?_
    rw [hp1.ld, e1]
    simp [hlt']
    refine C_i_comparePrefixes (a := ss[i - 1]) (b := ss[i]) ⟨Abs.sub_refl _, ?_⟩
    simp
    by_cases q9 : ss[i - 1].1 = ss[i].1
    · rw [if_pos q9, i64_in (by omega) (by omega)]
      refine ⟨fun q => no fun ho => ?_, fun q => next ⟨by rw [he]; exact q1, by rw [he]; omega, fun _ => ?_⟩⟩
      · have := ho.2.2 (by omega); rw [he, he'] at this; unfold ahead at this; omega
      · rw [he, he']; unfold ahead; omega
    · rw [if_neg q9, i64_in (by omega) (by omega)]
      refine ⟨fun q => no fun ho => ?_, fun q => next ⟨by rw [he]; exact q1, by rw [he]; omega, fun _ => ?_⟩⟩
      · have := ho.2.2 (by omega); rw [he, he'] at this; unfold ahead at this; omega
      · rw [he, he']; unfold ahead; omega
  · have : i = ss.length := by omega
    subst this
    exact Ret.iff h ⟨fun hh => ⟨by omega, hok⟩, fun hh => by have := hh.1; omega⟩
theorem C_i_LsaOk {b : Bool} {a : TLsa} {vs : List V} {H : Heap} {K : V → Heap → Prop} (hv : (lsaT b).rd H a vs) (hl : a.links.length ≤ 1048576 ∧ a.stubs.length ≤ 1048576) (h : K (.bool (decide (lsaOk a))) H) : ACalls P n_i_LsaOk [.agg vs] H K := by
  obtain ⟨l, s, rfl, h2, h3⟩ := hv
  have hc := lsa_cell h2 h3
  apply W_i_LsaOk
  unfold F_i_LsaOk
  simp [hc]
  apply C_i_within
  simp
  refine ⟨fun q1 q1' => ?_, fun q => Ret.no h fun hh => by have := hh.1; omega⟩
  apply C_i_within
  simp
  refine ⟨fun q2 q2' => ?_, fun q => Ret.no h fun hh => by have := hh.2.1; omega⟩
  apply C_i_within
  simp
  refine ⟨fun q3 q3' => ?_, fun q => Ret.no h fun hh => by have := hh.2.2.1; omega⟩
  refine C_i_areLinks h2.1 hl.1 ?_
  simp
  refine ⟨fun q4 => ?_, fun q => Ret.no h fun hh => q hh.2.2.2.2.2.1⟩
  refine C_i_areStubs h3.1 hl.2 ?_
  exact Ret.iff h ⟨fun hh => ⟨⟨q1, q1'⟩, ⟨q2, q2'⟩, ⟨q3, q3'⟩, lks_len q4, hh.1, q4, hh.2⟩, fun hh => ⟨hh.2.2.2.2.1, hh.2.2.2.2.2.2⟩⟩

end Go.Proofs.YtaippfedjjjpeaaGreat
/-
Contracts: valid advertisements, the reference; valid databases.
-/
namespace Go.Proofs.YtaippfedjjjpeaaGreat
open Go Go.Abs Go.Proofs

def InvLs1 (a : TLsa) (l s : V) (H : Heap) (m : Nat) (ys : List V) (Hc : Heap) : Prop :=
  ∃ i, i ≤ a.links.length ∧ ys = [.box (lsaRow a l s), .int .i64 (i : Nat)] ∧ m = a.links.length - i ∧ Hc = H ∧ ∀ j, j < i → lkOk a.origin a.links j
def InvLs2 (a : TLsa) (l s : V) (H : Heap) (m : Nat) (ys : List V) (Hc : Heap) : Prop :=
  ∃ i, i ≤ a.stubs.length ∧ ys = [.box (lsaRow a l s), .int .i64 (i : Nat)] ∧ m = a.stubs.length - i ∧ Hc = H ∧ ∀ j, j < i → stOk a.stubs j
set_option maxHeartbeats 1000000 in
theorem C_s_LsaOk {b : Bool} {a : TLsa} {vs : List V} {H : Heap} {K : V → Heap → Prop} (hv : (lsaT b).rd H a vs) (h : K (.bool (decide (lsaOk a))) H) : ACalls P n_s_LsaOk [.agg vs] H K := by
  obtain ⟨l, s, rfl, h2, h3⟩ := hv
  have hc := lsa_cell h2 h3
  have h2 := h2.1
  have h3 := h3.1
  apply W_s_LsaOk
  unfold F_s_LsaOk
  simp only [cellsOf]
  simp [hc]
  apply C_s_l01In
  simp
  refine ⟨fun q => Ret.no h fun hh => by have := hh.1; omega, fun q1 q1' => ?_⟩
  apply C_s_l01In
  simp
  refine ⟨fun q => Ret.no h fun hh => by have := hh.2.1; omega, fun q2 q2' => ?_⟩
  apply C_s_l01In
  simp [h2.len, h3.len]
  refine ⟨fun q => Ret.no h fun hh => by have := hh.2.2.1; omega, fun q3 q3' => ⟨fun q => Ret.no h fun hh => by have := hh.2.2.2.1; omega, fun q4 => ⟨fun q => Ret.no h fun hh => by have := hh.2.2.2.2.1; omega, fun q5 => ?_⟩⟩⟩
  refine ⟨InvLs1 a l s H, ⟨a.links.length, Shr.of ⟨0, by omega, by simp, by omega, rfl, fun j hj => absurd hj (by omega)⟩⟩, ?_⟩
  rintro m ys Hc ⟨i, hi, rfl, rfl, rfl, hok⟩
  simp [hc, h2.len]
  refine ⟨fun hlt => ?_, fun hge => ?_⟩
  · have he := lk_get hlt
    rw [i64_in (n := (i : Int) + 1) (by omega) (by omega)]
    refine h2.idx (by omega) (by simpa using hlt) fun p hp => ?_
    simp only [hp.ld]
    simp [hlt, stz_eq, putCells]
    have next : lkOk a.origin a.links i → ∃ n7, n7 < a.links.length - i ∧ Shr (InvLs1 a l s Hc n7 [.box (lsaRow a l s), .int .i64 ((i : Int) + 1)]) Hc := fun hl =>
      ⟨a.links.length - (i + 1), by omega, Shr.of ⟨i + 1, by omega, by simp, rfl, rfl, fun j hj => by
        by_cases e : j = i
        · subst e; exact hl
        · exact hok j (by omega)⟩⟩
    have no : ¬ lkOk a.origin a.links i → Ret K (.bool false) Hc := fun hn => Ret.no h fun hh => hn (hh.2.2.2.2.2.1 i hlt)
    refine ⟨_, Abs.sub_refl _, ?_⟩
    apply C_s_l01In
    refine ⟨Abs.sub_refl _, ?_⟩
    simp
    refine ⟨fun q => no fun ho => by have := ho.1; rw [he] at this; omega, fun r1 r1' => ?_⟩
    refine ⟨fun q => no fun ho => by have := ho.2.1; rw [he] at this; exact this q, fun r3 => ?_⟩
    apply C_s_l01In
    refine ⟨Abs.sub_refl _, ?_⟩
    simp
    refine ⟨fun q => no fun ho => by have := ho.2.2.1; rw [he] at this; omega, fun r2 r2' => ?_⟩
    refine ⟨fun q4 => ?_, fun q4 => next ⟨by rw [he]; omega, by rw [he]; exact r3, by rw [he]; omega, fun hh => absurd hh (by omega)⟩⟩
    have hlt' : i - 1 < a.links.length := by omega
    have he' := lk_get hlt'
    have e1 : ((i : Int) - 1).toNat = i - 1 := by omega
    rw [i64_in (n := (i : Int) - 1) (by omega) (by omega)]
    refine h2.idx (by omega) (by simp; omega) fun p' hp' => ?_
    refine hp'.fld fun p1 hp1 => ?_
    rw [hp1.ld, e1]
    simp [hlt']
    refine ⟨fun q => no fun ho => by have := ho.2.2.2 q4; rw [he, he'] at this; omega, fun q5 => next ⟨by rw [he]; omega, by rw [he]; exact r3, by rw [he]; omega, fun _ => by rw [he, he']; omega⟩⟩
  · have : i = a.links.length := by omega
    subst this
    refine ⟨InvLs2 a l s Hc, ⟨a.stubs.length, Shr.of ⟨0, by omega, by simp, by omega, rfl, fun j hj => absurd hj (by omega)⟩⟩, ?_⟩
    rintro m ys Hc ⟨i, hi, rfl, rfl, rfl, hok2⟩
    simp [hc, h3.len]
    refine ⟨fun hlt => ?_, fun hge => ?_⟩
    · have he := rt_get hlt
      rw [i64_in (n := (i : Int) + 1) (by omega) (by omega)]
      refine h3.idx (by omega) (by simpa using hlt) fun p hp => ?_
      simp only [hp.ld]
      simp [hlt, stz_eq, putCells]
      have next : stOk a.stubs i → ∃ n7, n7 < a.stubs.length - i ∧ Shr (InvLs2 a l s Hc n7 [.box (lsaRow a l s), .int .i64 ((i : Int) + 1)]) Hc := fun hl =>
        ⟨a.stubs.length - (i + 1), by omega, Shr.of ⟨i + 1, by omega, by simp, rfl, rfl, fun j hj => by
          by_cases e : j = i
          · subst e; exact hl
          · exact hok2 j (by omega)⟩⟩
      have no : ¬ stOk a.stubs i → Ret K (.bool false) Hc := fun hn => Ret.no h fun hh => hn (hh.2.2.2.2.2.2 i hlt)
      refine ⟨_, Abs.sub_refl _, ?_⟩
      apply C_s_PrefixOk
      refine ⟨Abs.sub_refl _, ?_⟩
      simp
      refine ⟨fun q => no fun ho => by have := ho.1; rw [he] at this; exact q this, fun r1 => ?_⟩
      apply C_s_l01In
      refine ⟨Abs.sub_refl _, ?_⟩
      simp
      refine ⟨fun q => no fun ho => by have := ho.2.1; rw [he] at this; omega, fun r2 r2' => ?_⟩
      refine ⟨fun q4 => ?_, fun q4 => next ⟨by rw [he]; exact r1, by rw [he]; omega, fun hh => absurd hh (by omega)⟩⟩
      have hlt' : i - 1 < a.stubs.length := by omega
      have he' := rt_get hlt'
      have e1 : ((i : Int) - 1).toNat = i - 1 := by omega
      rw [i64_in (n := (i : Int) - 1) (by omega) (by omega)]
      refine h3.idx (by omega) (by simp; omega) fun p' hp' => ?_
      refine hp'.fld fun p1 hp1 => ?_
      rw [hp1.ld, e1]
      simp [hlt']
      refine C_s_l02Ahead (a := a.stubs[i - 1]) (b := a.stubs[i]) ?_
      refine ⟨Abs.sub_refl _, ?_⟩
      simp
      refine ⟨fun q => no fun ho => q (by have := ho.2.2 (by omega); rw [he, he'] at this; exact this), fun q5 => next ⟨by rw [he]; exact r1, by rw [he]; omega, fun _ => by rw [he, he']; exact q5⟩⟩
    · have : i = a.stubs.length := by omega
      subst this
      exact Ret.yes h ⟨⟨q1, q1'⟩, ⟨q2, q2'⟩, ⟨q3, q3'⟩, by omega, by omega, hok, hok2⟩

def og (xs : List TLsa) (i : Nat) : Int := ((xs.map (·.origin))[i]?).getD 0
theorem og_get {xs : List TLsa} {i : Nat} (h : i < xs.length) : og xs i = xs[i].origin := by simp [og, h]
def lsOk (xs : List TLsa) (i : Nat) : Prop := (∀ a, xs[i]? = some a → lsaOk a) ∧ (0 < i → og xs (i - 1) < og xs i)
def dbOk (xs : List TLsa) : Prop := (∀ i, (h : i < xs.length) → lsaOk xs[i]) ∧ ∀ i, i < xs.length → (0 < i → og xs (i - 1) < og xs i)
instance (xs : List TLsa) : Decidable (dbOk xs) := by unfold dbOk; infer_instance
theorem og_up {xs : List TLsa} (h : dbOk xs) : ∀ i, i < xs.length → (i : Int) ≤ og xs i
  | 0, hi => by have := (h.1 0 hi).1; rw [og_get hi]; omega
  | i + 1, hi => by
    have := og_up h i (by omega)
    have h2 := h.2 (i + 1) hi (by omega)
    simp only [Nat.add_sub_cancel] at h2
    omega
theorem db_len {xs : List TLsa} (h : dbOk xs) : xs.length ≤ 10 := by
  by_cases e : xs.length = 0
  · omega
  · have := og_up h (xs.length - 1) (by omega)
    have := (h.1 (xs.length - 1) (by omega)).1
    rw [og_get (by omega)] at *
    omega
theorem og_lt {xs : List TLsa} (h : dbOk xs) {i j : Nat} (hij : i < j) (hj : j < xs.length) : og xs i < og xs j := by
  induction j with
  | zero => omega
  | succ j ih =>
    have h2 := h.2 (j + 1) hj (by omega)
    simp only [Nat.add_sub_cancel] at h2
    by_cases e : i = j
    · subst e; exact h2
    · have := ih (by omega) (by omega)
      omega

def InvDs (xs : List TLsa) (H : Heap) (m : Nat) (ys : List V) (Hc : Heap) : Prop :=
  ∃ i, i ≤ xs.length ∧ ys = [.int .i64 (i : Nat)] ∧ m = xs.length - i ∧ Hc = H ∧ (∀ j, (h : j < xs.length) → j < i → lsaOk xs[j]) ∧ ∀ j, j < i → (0 < j → og xs (j - 1) < og xs j)
theorem C_s_DbOk {b : Bool} {xs : List TLsa} {w : V} {H : Heap} {K : V → Heap → Prop} (hv : (dbT b).rd H xs [w]) (h : K (.bool (decide (dbOk xs))) H) : ACalls P n_s_DbOk [.agg [w]] H K := by
  have hc := rdS_cell hv
  apply W_s_DbOk
  unfold F_s_DbOk
  simp [hc, rdS_len hv]
  refine ⟨fun q => Ret.no h fun hh => by have := db_len hh; omega, fun q => ?_⟩
  refine ⟨InvDs xs H, ⟨xs.length, Shr.of ⟨0, by omega, by simp, by omega, rfl, fun j _ hj => absurd hj (by omega), fun j hj => absurd hj (by omega)⟩⟩, ?_⟩
  rintro m ys Hc ⟨i, hi, rfl, rfl, rfl, hok, hok2⟩
  simp
  refine ⟨fun hlt => ⟨_, Abs.sub_refl _, ?_⟩, fun hge => ?_⟩
  · rw [i64_in (n := (i : Int) + 1) (by omega) (by omega)]
    refine rdS_idx hv (by omega) (by simpa using hlt) fun p row hp hr => ?_
    simp only [Int.toNat_natCast] at hr
    have hr' := hr
    obtain ⟨l, s, rfl, _, _⟩ := hr
    rw [hp.ld]
    simp
    refine C_s_LsaOk hr' ⟨Abs.sub_refl _, ?_⟩
    simp
    have next : lsaOk xs[i] → (0 < i → og xs (i - 1) < og xs i) → ∃ n7, n7 < xs.length - i ∧ Shr (InvDs xs Hc n7 [.int .i64 ((i : Int) + 1)]) Hc := fun h1 h2 =>
      ⟨xs.length - (i + 1), by omega, Shr.of ⟨i + 1, by omega, by simp, rfl, rfl, fun j hj hji => by
        by_cases e : j = i
        · subst e; exact h1
        · exact hok j hj (by omega), fun j hj => by
        by_cases e : j = i
        · subst e; exact h2
        · exact hok2 j (by omega)⟩⟩
    refine ⟨fun q => Ret.no h fun hh => q (hh.1 i hlt), fun q1 => ⟨fun q4 => ?_, fun q4 => next q1 fun hh => absurd hh (by omega)⟩⟩
    have hlt' : i - 1 < xs.length := by omega
    have e1 : ((i : Int) - 1).toNat = i - 1 := by omega
    rw [i64_in (n := (i : Int) - 1) (by omega) (by omega)]
    refine rdS_idx hv (by omega) (by omega) fun p' row' hp' hr' => ?_
    simp only [e1] at hr'
    obtain ⟨l', s', rfl, _, _⟩ := hr'
    refine hp'.fld fun p1 hp1 => ?_
    rw [hp1.ld]
    simp
    refine rdS_idx hv (by omega) (by simpa using hlt) fun p row hp hr => ?_
    simp only [Int.toNat_natCast] at hr
    obtain ⟨l'', s'', rfl, _, _⟩ := hr
    refine hp.fld fun p1 hp1 => ?_
    rw [hp1.ld]
    simp
    refine ⟨fun q => Ret.no h fun hh => by have := hh.2 i hlt q4; rw [og_get hlt, og_get hlt'] at this; omega, fun q => next q1 fun _ => by rw [og_get hlt, og_get hlt']; omega⟩
  · have : i = xs.length := by omega
    subst this
    exact Ret.yes h ⟨fun j hj => hok j hj hj, hok2⟩
def InvDi (xs : List TLsa) (w : V) (H : Heap) (m : Nat) (ys : List V) (Hc : Heap) : Prop :=
  ∃ i, i ≤ xs.length ∧ ys = [.box [w], .int .i64 (i : Nat)] ∧ m = xs.length - i ∧ Hc = H ∧ (∀ j, (h : j < xs.length) → j < i → lsaOk xs[j]) ∧ ∀ j, j < i → (0 < j → og xs (j - 1) < og xs j)
theorem C_i_DbOk {b : Bool} {xs : List TLsa} {w : V} {H : Heap} {K : V → Heap → Prop} (hv : (dbT b).rd H xs [w]) (hl : xs.length + sumF szl xs ≤ 1048576) (h : K (.bool (decide (dbOk xs))) H) : ACalls P n_i_DbOk [.agg [w]] H K := by
  have hc := rdS_cell hv
  apply W_i_DbOk
  unfold F_i_DbOk
  simp [hc, rdS_len hv]
  refine ⟨InvDi xs w H, ⟨xs.length, Shr.of ⟨0, by omega, by simp, by omega, rfl, fun j _ hj => absurd hj (by omega), fun j hj => absurd hj (by omega)⟩⟩, ?_⟩
  rintro m ys Hc ⟨i, hi, rfl, rfl, rfl, hok, hok2⟩
  simp
  refine ⟨fun hlt => ?_, fun hge => ?_⟩
  · rw [i64_in (n := (i : Int) + 1) (by omega) (by omega)]
    refine rdS_idx hv (by omega) (by simpa using hlt) fun p row hp hr => ?_
    simp only [Int.toNat_natCast] at hr
    have hr' := hr
    obtain ⟨l, s, rfl, g1, g2⟩ := hr
    have hcc := lsa_cell g1 g2
    have hz := le_sumF (f := szl) hlt
    have hz' : szl xs[i] = xs[i].links.length + xs[i].stubs.length := rfl
    rw [hp.ld]
    simp [stz_eq, putCells, hcc, hc]
    refine ⟨_, Abs.sub_refl _, ?_⟩
    refine C_i_LsaOk hr' (by omega) ⟨Abs.sub_refl _, ?_⟩
    simp
    have next : lsaOk xs[i] → (0 < i → og xs (i - 1) < og xs i) → ∃ n7, n7 < xs.length - i ∧ Shr (InvDi xs w Hc n7 [.box [w], .int .i64 ((i : Int) + 1)]) Hc := fun h1 h2 =>
      ⟨xs.length - (i + 1), by omega, Shr.of ⟨i + 1, by omega, by simp, rfl, rfl, fun j hj hji => by
        by_cases e : j = i
        · subst e; exact h1
        · exact hok j hj (by omega), fun j hj => by
        by_cases e : j = i
        · subst e; exact h2
        · exact hok2 j (by omega)⟩⟩
    refine ⟨fun q => Ret.no h fun hh => q (hh.1 i hlt), fun q1 => ⟨fun q4 => ?_, fun q4 => next q1 fun hh => absurd hh (by omega)⟩⟩
    have hlt' : i - 1 < xs.length := by omega
    have e1 : ((i : Int) - 1).toNat = i - 1 := by omega
    rw [i64_in (n := (i : Int) - 1) (by omega) (by omega)]
    refine rdS_idx hv (by omega) (by omega) fun p' row' hp' hr' => ?_
    simp only [e1] at hr'
    obtain ⟨l', s', rfl, _, _⟩ := hr'
    refine hp'.fld fun p1 hp1 => ?_
    rw [hp1.ld]
    simp
    refine ⟨fun q => Ret.no h fun hh => by have := hh.2 i hlt q4; rw [og_get hlt, og_get hlt'] at this; omega, fun q => next q1 fun _ => by rw [og_get hlt, og_get hlt']; omega⟩
  · have : i = xs.length := by omega
    subst this
    exact Ret.yes h ⟨fun j hj => hok j hj hj, hok2⟩

end Go.Proofs.YtaippfedjjjpeaaGreat
/-
Contracts: copies of advertisements and databases.
-/
namespace Go.Proofs.YtaippfedjjjpeaaGreat
open Go Go.Abs Go.Proofs

def InvC1 (H : Heap) (a : TLsa) (l s : V) (m : Nat) (ys : List V) (Hc : Heap) : Prop :=
  ∃ (i : Nat) (u : V), i ≤ a.links.length ∧ ys = [.box (lsaRow a l s), .box [.int .i64 0, .int .i64 0, .int .i64 0, .nils, .nils], .box (lsaRow a u .nils), .int .i64 (i : Nat)] ∧ m = a.links.length - i ∧ Held H 2 ((a.links.take i).map enLink) u Hc
def InvC2 (H : Heap) (a : TLsa) (l s u : V) (m : Nat) (ys : List V) (Hc : Heap) : Prop :=
  ∃ (i : Nat) (t : V), i ≤ a.stubs.length ∧ ys = [.box (lsaRow a l s), .box [.int .i64 0, .int .i64 0, .int .i64 0, .nils, .nils], .box (lsaRow a u t), .int .i64 (i : Nat)] ∧ m = a.stubs.length - i ∧ Held H 3 ((a.stubs.take i).map enStub) t Hc
theorem C_s_l05Copy {b c : Bool} {a : TLsa} {vs : List V} {H : Heap} {K : V → Heap → Prop} (hv : (lsaT b).rd H a vs) (hl : a.links.length ≤ 1048576 ∧ a.stubs.length ≤ 1048576) (h : ∀ us H', Dp (lsaT c) H a us H' → K (.agg us) H') : ACalls P n_s_l05Copy [.agg vs] H K := by
  obtain ⟨l, s, rfl, h2, h3⟩ := hv
  have hc := lsa_cell h2 h3
  have h2 := h2.1
  have h3 := h3.1
  apply W_s_l05Copy
  unfold F_s_l05Copy
  simp [hc, stz_eq, putCells, fillZ]
  refine ⟨InvC1 H a l s, ⟨a.links.length, Shr.of ⟨0, .nils, by omega, rfl, by omega, by simpa using Held.nil⟩⟩, ?_⟩
  rintro m ys Hc ⟨i, u, hi, rfl, rfl, hu⟩
  have cu := hu.cell
  simp [hc, h2.len]
  refine ⟨fun hlt => ?_, fun hge => ?_⟩
  · refine (h2.mono hu.sub).idx (by omega) (by simpa using hlt) fun p hp => ?_
    rw [hp.ld]
    simp [hlt, cu, bsl_one]
    intro o ho
    refine hu.append (sub_fresh ho) (by simp) (by simp; omega) fun v' H' H'' ho' hs' => ?_
    have cv := ho'.cell
    simp [stz_eq, putCells, cv]
    rw [i64_in (by omega) (by omega)]
    refine ⟨a.links.length - (i + 1), by omega, H'', hs', i + 1, v', by omega, by simp, rfl, ?_⟩
    rw [List.take_succ_eq_append_getElem hlt, List.map_append]
    exact ho'
  · have : i = a.links.length := by omega
    subst this
    rw [List.take_length] at hu
    refine ⟨InvC2 Hc a l s u, ⟨a.stubs.length, Shr.of ⟨0, .nils, by omega, rfl, by omega, by simpa using Held.nil⟩⟩, ?_⟩
    rintro m ys Hd ⟨i, t, hi, rfl, rfl, ht⟩
    have ct := ht.cell
    simp [hc, h3.len]
    refine ⟨fun hlt => ?_, fun hge => ?_⟩
    · refine (h3.mono (sub_trans hu.sub ht.sub)).idx (by omega) (by simpa using hlt) fun p hp => ?_
      rw [hp.ld]
      simp [hlt, ct, bsl_one]
      intro o ho
      refine ht.append (sub_fresh ho) (by simp) (by simp; omega) fun v' H' H'' ho' hs' => ?_
      have cv := ho'.cell
      simp [stz_eq, putCells, cv]
      rw [i64_in (by omega) (by omega)]
      refine ⟨a.stubs.length - (i + 1), by omega, H'', hs', i + 1, v', by omega, by simp, rfl, ?_⟩
      rw [List.take_succ_eq_append_getElem hlt, List.map_append]
      exact ho'
    · have : i = a.stubs.length := by omega
      subst this
      rw [List.take_length] at ht
      simp [stz_eq, putCells, cu, ct]
      exact Ret.of (h _ _ (Dp.lsa hu ht))

def InvD1 (c : Bool) (H : Heap) (xs : List TLsa) (w : V) (m : Nat) (ys : List V) (Hc : Heap) : Prop :=
  ∃ (i : Nat) (u : V), i ≤ xs.length ∧ ys = [.box [w], .box [.nils], .box [u], .int .i64 (i : Nat)] ∧ m = xs.length - i ∧ Dp (dbT c) H (xs.take i) [u] Hc
def InvD2 (c : Bool) (H : Heap) (xs : List TLsa) (m : Nat) (ys : List V) (Hc : Heap) : Prop :=
  ∃ (i : Nat) (u : V), i ≤ xs.length ∧ ys = [.box [.nils], .box [u], .int .i64 (i : Nat)] ∧ m = xs.length - i ∧ Dp (dbT c) H (xs.take i) [u] Hc
end Go.Proofs.YtaippfedjjjpeaaGreat
