/-
Contracts: prefixes, tables, the best route.
-/
import Derived.Test.YtcmpkkcbdmllpaaTables
set_option linter.all false
namespace Go.Proofs.Ytcmpkkcbdmllpaa
open Go Go.Abs Go.Proofs

def psz (len : Int) : Int := 2 ^ (16 - len).toNat
theorem psz_in {len : Int} (h : 0 ≤ len ∧ len ≤ 16) : 1 ≤ psz len ∧ psz len ≤ 65536 := by
  have : len = 0 ∨ len = 1 ∨ len = 2 ∨ len = 3 ∨ len = 4 ∨ len = 5 ∨ len = 6 ∨ len = 7 ∨ len = 8 ∨ len = 9 ∨ len = 10 ∨ len = 11 ∨ len = 12 ∨ len = 13 ∨ len = 14 ∨ len = 15 ∨ len = 16 := by omega
  rcases this with rfl | rfl | rfl | rfl | rfl | rfl | rfl | rfl | rfl | rfl | rfl | rfl | rfl | rfl | rfl | rfl | rfl <;> decide
theorem C_i_Prefix_size {net len : Int} {H : Heap} {K : V → Heap → Prop} (hl : 0 ≤ len ∧ len ≤ 16) (h : K (.int .i64 (psz len)) H) : ACalls P n_i_Prefix_size [.agg [.int .i64 net, .int .i64 len]] H K := by
  apply W_i_Prefix_size
  unfold F_i_Prefix_size
  simp
  have : len = 0 ∨ len = 1 ∨ len = 2 ∨ len = 3 ∨ len = 4 ∨ len = 5 ∨ len = 6 ∨ len = 7 ∨ len = 8 ∨ len = 9 ∨ len = 10 ∨ len = 11 ∨ len = 12 ∨ len = 13 ∨ len = 14 ∨ len = 15 ∨ len = 16 := by omega
  rcases this with rfl | rfl | rfl | rfl | rfl | rfl | rfl | rfl | rfl | rfl | rfl | rfl | rfl | rfl | rfl | rfl | rfl <;> exact Ret.eq h rfl
theorem C_s_l01Size2 {len : Int} {H : Heap} {K : V → Heap → Prop} (hl : 0 ≤ len ∧ len ≤ 16) (h : K (.int .i64 (psz len)) H) : ACalls P n_s_l01Size2 [.int .i64 len] H K := by
  apply W_s_l01Size2
  unfold F_s_l01Size2
  simp
  have : len = 0 ∨ len = 1 ∨ len = 2 ∨ len = 3 ∨ len = 4 ∨ len = 5 ∨ len = 6 ∨ len = 7 ∨ len = 8 ∨ len = 9 ∨ len = 10 ∨ len = 11 ∨ len = 12 ∨ len = 13 ∨ len = 14 ∨ len = 15 ∨ len = 16 := by omega
  rcases this with rfl | rfl | rfl | rfl | rfl | rfl | rfl | rfl | rfl | rfl | rfl | rfl | rfl | rfl | rfl | rfl | rfl <;> exact Ret.eq h rfl

def addrOk (a : Int) : Prop := 0 ≤ a ∧ a ≤ 65535
instance (a : Int) : Decidable (addrOk a) := by unfold addrOk; infer_instance
def prefOk (net len : Int) : Prop := (0 ≤ len ∧ len ≤ 16) ∧ addrOk net ∧ net.tmod (psz len) = 0
instance (net len : Int) : Decidable (prefOk net len) := by unfold prefOk; infer_instance
theorem C_s_l01Addr {a : Int} {H : Heap} {K : V → Heap → Prop} (h : K (.bool (decide (addrOk a))) H) : ACalls P n_s_l01Addr [.int .i64 a] H K := by
  apply W_s_l01Addr
  unfold F_s_l01Addr
  apply C_s_l01In
  exact Ret.of h
theorem C_i_isAddr {a : Int} {H : Heap} {K : V → Heap → Prop} (h : K (.bool (decide (addrOk a))) H) : ACalls P n_i_isAddr [.int .i64 a] H K := by
  apply W_i_isAddr
  unfold F_i_isAddr
  apply C_i_within
  exact Ret.of h
theorem C_s_PrefixOk {net len : Int} {H : Heap} {K : V → Heap → Prop} (h : K (.bool (decide (prefOk net len))) H) : ACalls P n_s_PrefixOk [.agg [.int .i64 net, .int .i64 len]] H K := by
  apply W_s_PrefixOk
  unfold F_s_PrefixOk
  simp
  refine ⟨_, Abs.sub_refl _, ?_⟩
  apply C_s_l01In
  simp
  refine ⟨fun q1 q2 => ?_, fun q => Ret.no h fun hh => by have := hh.1; omega⟩
  apply C_s_l01Addr
  simp
  refine ⟨fun q3 => ?_, fun q => Ret.no h fun hh => q hh.2.1⟩
  refine C_s_l01Size2 ⟨q1, q2⟩ ?_
  have := psz_in ⟨q1, q2⟩
  simp
  rw [if_neg (by omega)]
  simp
  exact Ret.iff h ⟨fun hh => ⟨⟨q1, q2⟩, q3, hh⟩, fun hh => hh.2.2⟩
theorem C_i_PrefixOk {net len : Int} {H : Heap} {K : V → Heap → Prop} (h : K (.bool (decide (prefOk net len))) H) : ACalls P n_i_PrefixOk [.agg [.int .i64 net, .int .i64 len]] H K := by
  apply W_i_PrefixOk
  unfold F_i_PrefixOk
  simp
  refine ⟨_, Abs.sub_refl _, ?_⟩
  apply C_i_within
  simp
  refine ⟨fun q1 q2 => ?_, fun q => Ret.no h fun hh => by have := hh.1; omega⟩
  apply C_i_isAddr
  simp
  refine ⟨fun q3 => ?_, fun q => Ret.no h fun hh => q hh.2.1⟩
  refine C_i_Prefix_size ⟨q1, q2⟩ ?_
  have := psz_in ⟨q1, q2⟩
  simp
  rw [if_neg (by omega)]
  simp
  exact Ret.iff h ⟨fun hh => ⟨⟨q1, q2⟩, q3, hh⟩, fun hh => hh.2.2⟩
def hasA (net len a : Int) : Prop := net ≤ a ∧ a ≤ net + psz len - 1
instance (net len a : Int) : Decidable (hasA net len a) := by unfold hasA; infer_instance
theorem C_s_HasAddr {net len a : Int} {H : Heap} {K : V → Heap → Prop} (hp : prefOk net len) (h : K (.bool (decide (hasA net len a))) H) : ACalls P n_s_HasAddr [.agg [.int .i64 net, .int .i64 len], .int .i64 a] H K := by
  have hz := psz_in hp.1
  have ha := hp.2.1
  unfold addrOk at ha
  apply W_s_HasAddr
  unfold F_s_HasAddr
  simp
  refine ⟨_, Abs.sub_refl _, ?_⟩
  apply C_s_PrefixOk
  simp [hp]
  refine C_s_l01Size2 hp.1 ?_
  simp
  rw [i64_in (n := net + psz len) (by omega) (by omega), i64_in (n := net + psz len - 1) (by omega) (by omega)]
  apply C_s_l01In
  exact ⟨Abs.sub_refl _, Ret.iff h Iff.rfl⟩
theorem C_i_Prefix_has {net len a : Int} {H : Heap} {K : V → Heap → Prop} (hp : prefOk net len) (h : K (.bool (decide (hasA net len a))) H) : ACalls P n_i_Prefix_has [.agg [.int .i64 net, .int .i64 len], .int .i64 a] H K := by
  have hz := psz_in hp.1
  have ha := hp.2.1
  unfold addrOk at ha
  apply W_i_Prefix_has
  unfold F_i_Prefix_has
  simp
  refine ⟨_, Abs.sub_refl _, ?_⟩
  refine C_i_Prefix_size hp.1 ?_
  simp
  rw [i64_in (n := net + psz len) (by omega) (by omega), i64_in (n := net + psz len - 1) (by omega) (by omega)]
  apply C_i_within
  exact ⟨Abs.sub_refl _, Ret.iff h Iff.rfl⟩

/-! #### tables -/
abbrev rt (t : List TRoute) (i : Nat) : TRoute := t.getD i (0, 0, 0)
def ahead (a b : TRoute) : Prop := a.1 < b.1 ∨ a.1 = b.1 ∧ a.2.1 < b.2.1
instance (a b : TRoute) : Decidable (ahead a b) := by unfold ahead; infer_instance
def rtOk (t : List TRoute) (i : Nat) : Prop := prefOk (rt t i).1 (rt t i).2.1 ∧ (0 ≤ (rt t i).2.2 ∧ (rt t i).2.2 ≤ 999) ∧ (0 < i → ahead (rt t (i - 1)) (rt t i))
instance (t : List TRoute) (i : Nat) : Decidable (rtOk t i) := by unfold rtOk; infer_instance
def tabOk (t : List TRoute) : Prop := t.length ≤ 120 ∧ ∀ i, i < t.length → rtOk t i
instance (t : List TRoute) : Decidable (tabOk t) := by unfold tabOk; infer_instance
theorem rt_get {t : List TRoute} {i : Nat} (h : i < t.length) : rt t i = t[i] := by simp [rt, h]
theorem tabOk_no {t : List TRoute} {i : Nat} (hi : i < t.length) (h : ¬ rtOk t i) : ¬ tabOk t := fun hh => h (hh.2 i hi)

theorem C_s_l02Ahead {a b : TRoute} {H : Heap} {K : V → Heap → Prop} (h : K (.bool (decide (ahead a b))) H) : ACalls P n_s_l02Ahead [.agg [.int .i64 a.1, .int .i64 a.2.1], .agg [.int .i64 b.1, .int .i64 b.2.1]] H K := by
  apply W_s_l02Ahead
  unfold F_s_l02Ahead
  simp
  refine ⟨fun q => Ret.yes h (.inl q), fun q => ⟨fun q2 => Ret.iff h ⟨fun hh => .inr ⟨q2, hh⟩, fun hh => by unfold ahead at hh; omega⟩, fun q2 => Ret.no h fun hh => by unfold ahead at hh; omega⟩⟩
theorem C_i_comparePrefixes {a b : TRoute} {H : Heap} {K : V → Heap → Prop} (h : K (.int .i64 (if a.1 ≠ b.1 then IntKind.i64.wrap (a.1 - b.1) else IntKind.i64.wrap (a.2.1 - b.2.1))) H) : ACalls P n_i_comparePrefixes [.agg [.int .i64 a.1, .int .i64 a.2.1], .agg [.int .i64 b.1, .int .i64 b.2.1]] H K := by
  apply W_i_comparePrefixes
  unfold F_i_comparePrefixes
  simp
  refine ⟨fun h1 => Ret.eq h (by simp [h1]), fun h1 => Ret.eq h (by simp [h1])⟩
theorem C_i_isRoute {r : TRoute} {H : Heap} {K : V → Heap → Prop} (h : K (.bool (decide (prefOk r.1 r.2.1 ∧ (0 ≤ r.2.2 ∧ r.2.2 ≤ 999)))) H) : ACalls P n_i_isRoute [.agg (enRoute r)] H K := by
  apply W_i_isRoute
  unfold F_i_isRoute
  simp
  apply C_i_PrefixOk
  simp
  refine ⟨fun q => ?_, fun q => Ret.no h fun hh => q hh.1⟩
  apply C_i_within
  exact Ret.iff h ⟨fun hh => ⟨q, hh⟩, fun hh => hh.2⟩

def InvTo (t : List TRoute) (H : Heap) (m : Nat) (ys : List V) (Hc : Heap) : Prop :=
  ∃ i, i ≤ t.length ∧ ys = [.int .i64 (i : Nat)] ∧ m = t.length - i ∧ Hc = H ∧ ∀ j, j < i → rtOk t j
set_option maxHeartbeats 1000000 in
theorem C_s_TableOk {t : List TRoute} {w : V} {H : Heap} {K : V → Heap → Prop} (hv : Rd H 3 w (rowsR t)) (h : K (.bool (decide (tabOk t))) H) : ACalls P n_s_TableOk [.agg [w]] H K := by
  have hc := hv.cell
  apply W_s_TableOk
  unfold F_s_TableOk
  simp [hc, hv.len]
  refine ⟨fun q => Ret.no h fun hh => by have := hh.1; omega, fun q => ?_⟩
  refine ⟨InvTo t H, ⟨t.length, Shr.of ⟨0, by omega, by simp, by omega, rfl, fun j hj => absurd hj (by omega)⟩⟩, ?_⟩
  rintro m ys Hc ⟨i, hi, rfl, rfl, rfl, hok⟩
  simp
  refine ⟨fun hlt => ⟨_, Abs.sub_refl _, ?_⟩, fun hge => ?_⟩
  · have he := rt_get hlt
    rw [i64_in (n := (i : Int) + 1) (by omega) (by omega)]
    refine hv.idx (by omega) (by simpa using hlt) fun p hp => ?_
    refine hp.fld fun p1 hp1 => ?_
    simp only [hp1.ld]
    simp [hlt]
    apply C_s_PrefixOk
    simp
    refine ⟨fun q => Ret.no h (tabOk_no hlt fun ho => q (by have := ho.1; rw [he] at this; exact this)), fun q1 => ?_⟩
    refine hv.idx (by omega) (by simpa using hlt) fun p hp => ?_
    refine hp.fld fun p1 hp1 => ?_
    simp only [hp1.ld]
    simp [hlt]
    apply C_s_l01In
    simp
    refine ⟨fun q => Ret.no h (tabOk_no hlt fun ho => by have := ho.2.1; rw [he] at this; omega), fun q2 q3 => ?_⟩
    have next : (0 < i → ahead (rt t (i - 1)) (rt t i)) → ∃ n7, n7 < t.length - i ∧ Shr (InvTo t Hc n7 [.int .i64 ((i : Int) + 1)]) Hc := fun hl =>
      ⟨t.length - (i + 1), by omega, Shr.of ⟨i + 1, by omega, by simp, rfl, rfl, fun j hj => by
        by_cases e : j = i
        · subst e
          refine ⟨?_, ?_, hl⟩ <;> rw [he]
          · exact q1
          · omega
        · exact hok j (by omega)⟩⟩
    refine ⟨fun q4 => ?_, fun q4 => next fun hh => absurd hh (by omega)⟩
    have hlt' : i - 1 < t.length := by omega
    have he' := rt_get hlt'
    have e1 : ((i : Int) - 1).toNat = i - 1 := by omega
    rw [i64_in (n := (i : Int) - 1) (by omega) (by omega)]
    refine hv.idx (by omega) (by simp; omega) fun p' hp' => ?_
    refine hp'.fld fun p1 hp1 => ?_
    simp only [hp1.ld, e1]
    simp [hlt']
    refine hv.idx (by omega) (by simpa using hlt) fun p hp => ?_
    refine hp.fld fun p1 hp1 => ?_
    simp only [hp1.ld]
    simp [hlt]
    apply C_s_l02Ahead
    simp
    refine ⟨fun q => Ret.no h (tabOk_no hlt fun ho => q (by have := ho.2.2 (by omega); rw [he, he'] at this; exact this)), fun q5 => next fun _ => by rw [he, he']; exact q5⟩
  · have : i = t.length := by omega
    subst this
    exact Ret.yes h ⟨by omega, hok⟩

def InvTi (w : V) (t : List TRoute) (H : Heap) (m : Nat) (ys : List V) (Hc : Heap) : Prop :=
  ∃ i, i ≤ t.length ∧ ys = [.box [w], .int .i64 (i : Nat)] ∧ m = t.length - i ∧ Hc = H ∧ ∀ j, j < i → rtOk t j
set_option maxHeartbeats 1000000 in
theorem C_i_TableOk {t : List TRoute} {w : V} {H : Heap} {K : V → Heap → Prop} (hv : Rd H 3 w (rowsR t)) (hl : t.length ≤ 1048576) (h : K (.bool (decide (tabOk t))) H) : ACalls P n_i_TableOk [.agg [w]] H K := by
  have hc := hv.cell
  apply W_i_TableOk
  unfold F_i_TableOk
  simp [hc, hv.len]
  refine ⟨InvTi w t H, ⟨t.length, Shr.of ⟨0, by omega, by simp, by omega, rfl, fun j hj => absurd hj (by omega)⟩⟩, ?_⟩
  rintro m ys Hc ⟨i, hi, rfl, rfl, rfl, hok⟩
  simp
  refine ⟨fun hlt => ?_, fun hge => ?_⟩
  · have he := rt_get hlt
    rw [i64_in (n := (i : Int) + 1) (by omega) (by omega)]
    refine hv.idx (by omega) (by simpa using hlt) fun p hp => ?_
    simp only [hp.ld]
    simp [hlt, stz_eq, putCells]
    refine ⟨_, Abs.sub_refl _, ?_⟩
    refine C_i_isRoute (r := t[i]) ?_
    simp
    by_cases q1 : prefOk t[i].1 t[i].2.1 ∧ (0 ≤ t[i].2.2 ∧ t[i].2.2 ≤ 999)
    · have next : (0 < i → ahead (rt t (i - 1)) (rt t i)) → ∃ n7, n7 < t.length - i ∧ Shr (InvTi w t Hc n7 [.box [w], .int .i64 ((i : Int) + 1)]) Hc := fun hl =>
        ⟨t.length - (i + 1), by omega, Shr.of ⟨i + 1, by omega, by simp, rfl, rfl, fun j hj => by
          by_cases e : j = i
          · subst e
            refine ⟨?_, ?_, hl⟩ <;> rw [he]
            · exact q1.1
            · exact q1.2
          · exact hok j (by omega)⟩⟩
      refine ⟨fun q => ?_, fun _ _ _ => ⟨fun q4 => ?_, fun q4 => next fun hh => absurd hh (by omega)⟩⟩
      · exact absurd q1 (fun hh => by
          rcases q with q | q | q
          · exact q hh.1
          · omega
          · omega)
      have hlt' : i - 1 < t.length := by omega
      have he' := rt_get hlt'
      have e1 : ((i : Int) - 1).toNat = i - 1 := by omega
      have ok' := hok (i - 1) (by omega)
      have b1 := ok'.1.1
      have b2 := ok'.1.2.1
      have b3 := q1.1.1
      have b4 := q1.1.2.1
      rw [he'] at b1 b2
      unfold addrOk at b2 b4
      rw [i64_in (n := (i : Int) - 1) (by omega) (by omega)]
      refine hv.idx (by omega) (by simp; omega) fun p' hp' => ?_
      refine hp'.fld fun p1 hp1 => ?_
      simp only [hp1.ld, e1]
      simp [hlt']
      refine C_i_comparePrefixes (a := t[i - 1]) (b := t[i]) ?_
      simp
      by_cases q9 : t[i - 1].1 = t[i].1
      · rw [if_pos q9, i64_in (by omega) (by omega)]
        refine ⟨fun q => Ret.no h (tabOk_no hlt fun ho => ?_), fun q => next fun _ => ?_⟩
        · have := ho.2.2 (by omega); rw [he, he'] at this; unfold ahead at this; omega
        · rw [he, he']; unfold ahead; omega
      · rw [if_neg q9, i64_in (by omega) (by omega)]
        refine ⟨fun q => Ret.no h (tabOk_no hlt fun ho => ?_), fun q => next fun _ => ?_⟩
        · have := ho.2.2 (by omega); rw [he, he'] at this; unfold ahead at this; omega
        · rw [he, he']; unfold ahead; omega
    · refine ⟨fun q => Ret.no h (tabOk_no hlt fun ho => q1 ?_), fun a b c => absurd ⟨a, b, c⟩ q1⟩
      have h1 := ho.1
      have h2 := ho.2.1
      rw [he] at h1 h2
      exact ⟨h1, h2⟩
  · have : i = t.length := by omega
    subst this
    simp [hv.len]
    exact Ret.iff h ⟨fun hh => ⟨by omega, hok⟩, fun hh => by have := hh.1; omega⟩

/-! #### the best route -/
def bestStep (a : Int) (o : Bool × TRoute) (r : TRoute) : Bool × TRoute := if hasA r.1 r.2.1 a ∧ (o.1 = false ∨ o.2.2.1 < r.2.1) then (true, r) else o
def bestOf (a : Int) (t : List TRoute) : Bool × TRoute := t.foldl (bestStep a) (false, (0, 0, 0))
theorem bestOf_succ {a : Int} {t : List TRoute} {i : Nat} (h : i < t.length) : bestOf a (t.take (i + 1)) = bestStep a (bestOf a (t.take i)) t[i] := by
  unfold bestOf
  rw [List.take_succ_eq_append_getElem h, List.foldl_append]
  rfl
def InvB1 (w : V) (t : List TRoute) (a : Int) (H : Heap) (m : Nat) (ys : List V) (Hc : Heap) : Prop :=
  ∃ i, i ≤ t.length ∧ ys = [.box [w], .box [.int .i64 0, .int .i64 0, .int .i64 0], .box (enRoute (bestOf a (t.take i)).2), .bool (bestOf a (t.take i)).1, .int .i64 (i : Nat)] ∧ m = t.length - i ∧ Hc = H
set_option maxHeartbeats 1000000 in
theorem C_s_BestRoute {t : List TRoute} {w : V} {a : Int} {H : Heap} {K : V → Heap → Prop} (hv : Rd H 3 w (rowsR t)) (ht : tabOk t) (ha : addrOk a) (h : K (.tup [.agg (enRoute (bestOf a t).2), .bool (bestOf a t).1]) H) : ACalls P n_s_BestRoute [.agg [w], .int .i64 a] H K := by
  have hc := hv.cell
  have hl := ht.1
  apply W_s_BestRoute
  unfold F_s_BestRoute
  simp [hc]
  refine C_s_TableOk hv ?_
  simp [ht]
  apply C_s_l01Addr
  simp [ha, fillZ, stz_eq, putCells]
  refine ⟨InvB1 w t a H, ⟨t.length, Shr.of ⟨0, by omega, by simp [bestOf], by omega, rfl⟩⟩, ?_⟩
  rintro m ys Hc ⟨i, hi, rfl, rfl, rfl⟩
  simp [hv.len]
  refine ⟨fun hlt => ⟨_, Abs.sub_refl _, ?_⟩, fun hge => ?_⟩
  · have he := rt_get hlt
    have hp := (ht.2 i hlt).1
    rw [he] at hp
    have step := bestOf_succ (a := a) hlt
    rw [i64_in (n := (i : Int) + 1) (by omega) (by omega)]
    refine hv.idx (by omega) (by simpa using hlt) fun p hp' => ?_
    refine hp'.fld fun p1 hp1 => ?_
    simp only [hp1.ld]
    simp [hlt]
    refine C_s_HasAddr hp ?_
    simp
    have yes : hasA t[i].1 t[i].2.1 a ∧ ((bestOf a (t.take i)).1 = false ∨ (bestOf a (t.take i)).2.2.1 < t[i].2.1) → ∃ n16, n16 < t.length - i ∧ Shr (InvB1 w t a Hc n16 [.box [w], .box [.int .i64 0, .int .i64 0, .int .i64 0], .box (enRoute t[i]), .bool true, .int .i64 ((i : Int) + 1)]) Hc := fun hy =>
      ⟨t.length - (i + 1), by omega, Shr.of ⟨i + 1, by omega, by rw [step, bestStep, if_pos hy]; simp, rfl, rfl⟩⟩
    have no : ¬ (hasA t[i].1 t[i].2.1 a ∧ ((bestOf a (t.take i)).1 = false ∨ (bestOf a (t.take i)).2.2.1 < t[i].2.1)) → ∃ n16, n16 < t.length - i ∧ Shr (InvB1 w t a Hc n16 [.box [w], .box [.int .i64 0, .int .i64 0, .int .i64 0], .box (enRoute (bestOf a (t.take i)).2), .bool (bestOf a (t.take i)).1, .int .i64 ((i : Int) + 1)]) Hc := fun hn =>
      ⟨t.length - (i + 1), by omega, Shr.of ⟨i + 1, by omega, by rw [step, bestStep, if_neg hn]; simp, rfl, rfl⟩⟩
    refine ⟨fun q1 => ?_, fun q1 => no fun hh => q1 hh.1⟩
    cases hb : (bestOf a (t.take i)).1 with
    | false =>
      simp
      refine hv.idx (by omega) (by simpa using hlt) fun p hp' => ?_
      simp only [hp'.ld]
      simp [hlt, stz_eq, putCells]
      exact yes ⟨q1, .inl hb⟩
    | true =>
      simp
      refine hv.idx (by omega) (by simpa using hlt) fun p hp' => ?_
      refine hp'.fld fun p1 hp1 => ?_
      refine hp1.fld fun p2 hp2 => ?_
      simp only [hp2.ld]
      simp [hlt]
      refine ⟨fun q2 => ?_, fun q2 => ?_⟩
      · refine hv.idx (by omega) (by simpa using hlt) fun p hp' => ?_
        simp only [hp'.ld]
        simp [hlt, stz_eq, putCells]
        exact yes ⟨q1, .inr q2⟩
      · have := no fun hh => by rcases hh.2 with hh | hh; rw [hb] at hh; cases hh; omega
        rwa [hb] at this
  · have : i = t.length := by omega
    subst this
    rw [List.take_length]
    simp [stz_eq, putCells]
    exact Ret.of h

def InvB2 (t : List TRoute) (a : Int) (H : Heap) (m : Nat) (ys : List V) (Hc : Heap) : Prop :=
  ∃ i, i ≤ t.length ∧ ys = [.box [.int .i64 0, .int .i64 0, .int .i64 0], .box (enRoute (bestOf a (t.take i)).2), .bool (bestOf a (t.take i)).1, .int .i64 (i : Nat)] ∧ m = t.length - i ∧ Hc = H
set_option maxHeartbeats 1000000 in
theorem C_i_best {t : List TRoute} {w : V} {a : Int} {H : Heap} {K : V → Heap → Prop} (hv : Rd H 3 w (rowsR t)) (ht : tabOk t) (h : K (.tup [.agg (enRoute (bestOf a t).2), .bool (bestOf a t).1]) H) : ACalls P n_i_best [w, .int .i64 a] H K := by
  have hl := ht.1
  apply W_i_best
  unfold F_i_best
  simp [hv.len, fillZ, stz_eq, putCells]
  refine ⟨InvB2 t a H, ⟨t.length, Shr.of ⟨0, by omega, by simp [bestOf], by omega, rfl⟩⟩, ?_⟩
  rintro m ys Hc ⟨i, hi, rfl, rfl, rfl⟩
  simp
  refine ⟨fun hlt => ?_, fun hge => ?_⟩
  · have he := rt_get hlt
    have hp := (ht.2 i hlt).1
    rw [he] at hp
    have step := bestOf_succ (a := a) hlt
    rw [i64_in (n := (i : Int) + 1) (by omega) (by omega)]
    refine hv.idx (by omega) (by simpa using hlt) fun p hp' => ?_
    simp only [hp'.ld]
    simp [hlt, stz_eq, putCells]
    refine C_i_Prefix_has hp ?_
    simp
    have yes : hasA t[i].1 t[i].2.1 a ∧ ((bestOf a (t.take i)).1 = false ∨ (bestOf a (t.take i)).2.2.1 < t[i].2.1) → ∃ n16, n16 < t.length - i ∧ Shr (InvB2 t a Hc n16 [.box [.int .i64 0, .int .i64 0, .int .i64 0], .box (enRoute t[i]), .bool true, .int .i64 ((i : Int) + 1)]) Hc := fun hy =>
      ⟨t.length - (i + 1), by omega, Shr.of ⟨i + 1, by omega, by rw [step, bestStep, if_pos hy]; simp, rfl, rfl⟩⟩
    have no : ¬ (hasA t[i].1 t[i].2.1 a ∧ ((bestOf a (t.take i)).1 = false ∨ (bestOf a (t.take i)).2.2.1 < t[i].2.1)) → ∃ n16, n16 < t.length - i ∧ Shr (InvB2 t a Hc n16 [.box [.int .i64 0, .int .i64 0, .int .i64 0], .box (enRoute (bestOf a (t.take i)).2), .bool (bestOf a (t.take i)).1, .int .i64 ((i : Int) + 1)]) Hc := fun hn =>
      ⟨t.length - (i + 1), by omega, Shr.of ⟨i + 1, by omega, by rw [step, bestStep, if_neg hn]; simp, rfl, rfl⟩⟩
    refine ⟨fun q1 => ?_, fun q1 => no fun hh => q1 hh.1⟩
    cases hb : (bestOf a (t.take i)).1 with
    | false =>
      simp [stz_eq, putCells]
      exact yes ⟨q1, .inl hb⟩
    | true =>
      simp [stz_eq, putCells]
      refine ⟨fun q2 => yes ⟨q1, .inr q2⟩, fun q2 => ?_⟩
      have := no fun hh => by rcases hh.2 with hh | hh; rw [hb] at hh; cases hh; omega
      rwa [hb] at this
  · have : i = t.length := by omega
    subst this
    rw [List.take_length]
    simp [stz_eq, putCells]
    exact Ret.of h

end Go.Proofs.Ytcmpkkcbdmllpaa
