/-
Contracts: finding an advertisement.
-/
import Derived.Test.YtaippfedjjjpeaaGreatLsaM
set_option linter.all false
namespace Go.Proofs.YtaippfedjjjpeaaGreat
open Go Go.Abs Go.Proofs

theorem C_cmp_isNaN_int {a : Int} {H : Heap} {K : V → Heap → Prop} (h : K (.bool false) H) : ACalls P n_cmp_isNaN_int [.int .i64 a] H K := by
  apply W_cmp_isNaN_int
  unfold F_cmp_isNaN_int
  simp
  exact Ret.of h
def cmpI (a b : Int) : Int := if a < b then -1 else if b < a then 1 else 0
theorem C_cmp_Compare_int {a b : Int} {H : Heap} {K : V → Heap → Prop} (h : K (.int .i64 (cmpI a b)) H) : ACalls P n_cmp_Compare_int [.int .i64 a, .int .i64 b] H K := by
  apply W_cmp_Compare_int
  unfold F_cmp_Compare_int
  apply C_cmp_isNaN_int
  apply C_cmp_isNaN_int
  simp
  unfold cmpI at h
  refine ⟨fun q => Ret.eq h (by rw [if_pos q]), fun q => ⟨fun q2 => Ret.eq h (by rw [if_neg (by omega), if_pos q2]), fun q2 => Ret.eq h (by rw [if_neg (by omega), if_neg (by omega)])⟩⟩
theorem C_i_Db_find_1 {a : TLsa} {l s : V} {o : Int} {H : Heap} {K : V → Heap → Prop} (hc : cellOk l = true ∧ cellOk s = true) (h : K (.int .i64 (cmpI a.origin o)) H) : ACalls P n_i_Db_find_1 [.agg (lsaRow a l s), .int .i64 o] H K := by
  apply W_i_Db_find_1
  unfold F_i_Db_find_1
  simp [hc]
  apply C_cmp_Compare_int
  exact Ret.of h

theorem mid_ : ∀ s : Nat, s ≤ 20 → aBinN .shr (.int .u64 (IntKind.u64.wrap (s : Int))) (.int .u64 1) = some (.int .u64 ((s / 2 : Nat) : Int)) := by
  intro s hs
  have : s = 0 ∨ s = 1 ∨ s = 2 ∨ s = 3 ∨ s = 4 ∨ s = 5 ∨ s = 6 ∨ s = 7 ∨ s = 8 ∨ s = 9 ∨ s = 10 ∨ s = 11 ∨ s = 12 ∨ s = 13 ∨ s = 14 ∨ s = 15 ∨ s = 16 ∨ s = 17 ∨ s = 18 ∨ s = 19 ∨ s = 20 := by omega
  rcases this with rfl | rfl | rfl | rfl | rfl | rfl | rfl | rfl | rfl | rfl | rfl | rfl | rfl | rfl | rfl | rfl | rfl | rfl | rfl | rfl | rfl <;> rfl
def InvBs (xs : List TLsa) (o : Int) (H : Heap) (m : Nat) (ys : List V) (Hc : Heap) : Prop :=
  ∃ lo hi : Nat, lo ≤ hi ∧ hi ≤ xs.length ∧ ys = [.int .i64 (lo : Nat), .int .i64 (hi : Nat)] ∧ m = hi - lo ∧ Hc = H ∧ (∀ j, j < lo → og xs j < o) ∧ ∀ j, hi ≤ j → j < xs.length → o ≤ og xs j
theorem C_find {b : Bool} {xs : List TLsa} {w : V} {o : Int} {H : Heap} {K : V → Heap → Prop} (hv : (dbT b).rd H xs [w]) (hd : dbOk xs)
    (h : ∀ i : Nat, i ≤ xs.length → (∀ j, j < i → og xs j < o) → (∀ j, i ≤ j → j < xs.length → o ≤ og xs j) → K (.tup [.int .i64 (i : Nat), .bool (decide (i < xs.length ∧ og xs i = o))]) H) : ACalls P n_slices_BinarySearchFunc_i_Lsa_i_Lsa_int [w, .int .i64 o, .fn n_i_Db_find_1 []] H K := by
  have hl := db_len hd
  apply W_slices_BinarySearchFunc_i_Lsa_i_Lsa_int
  unfold F_slices_BinarySearchFunc_i_Lsa_i_Lsa_int
  simp [rdS_len hv]
  refine ⟨InvBs xs o H, ⟨xs.length, Shr.of ⟨0, xs.length, by omega, by omega, rfl, by omega, rfl, fun j hj => absurd hj (by omega), fun j _ hj => absurd hj (by omega)⟩⟩, ?_⟩
  rintro m ys Hc ⟨lo, hi, h1, h2, rfl, rfl, rfl, h3, h4⟩
  simp
  refine ⟨fun hlt => ?_, fun hge => ?_⟩
  · have e1 : IntKind.i64.wrap ((lo : Int) + hi) = ((lo + hi : Nat) : Int) := by rw [i64_in (by omega) (by omega)]; simp
    rw [e1, mid_ _ (by omega)]
    simp
    generalize hmid : (lo + hi) / 2 = q
    have hq : lo ≤ q ∧ q < hi := by omega
    have e2 : (((lo : Int) + hi) / 2) = (q : Int) := by omega
    simp only [e2]
    rw [i64_in (n := (q : Int)) (by omega) (by omega)]
    refine rdS_idx hv (by omega) (by simp; omega) fun p row hp hr => ?_
    simp only [Int.toNat_natCast] at hr
    obtain ⟨l, s, rfl, g1, g2⟩ := hr
    have hcc := lsa_cell g1 g2
    rw [hp.ld]
    simp
    simp only [callK]
    rw [E_i_Db_find_1]
    show ACalls P n_i_Db_find_1 [.agg (lsaRow xs[q] l s), .int .i64 o] Hc _
    refine C_i_Db_find_1 (by simp [hcc]) ?_
    have hqn : q < xs.length := by omega
    have hg := og_get hqn
    rw [i64_in (by omega) (by omega)]
    simp
    unfold cmpI
    refine ⟨fun hh => ⟨hi - (q + 1), by omega, Shr.of ⟨q + 1, hi, by omega, by omega, by simp, rfl, rfl, fun j hj => ?_, h4⟩⟩, fun hh => ⟨q - lo, by omega, Shr.of ⟨lo, q, by omega, by omega, by simp, rfl, rfl, h3, fun j hj hj' => ?_⟩⟩⟩
    · have hlt : og xs q < o := by
        rw [hg]
        split at hh
        · assumption
        · split at hh <;> omega
      by_cases e : j = q
      · subst e; exact hlt
      · have := og_lt hd (i := j) (j := q) (by omega) hqn
        omega
    · have hle : o ≤ og xs q := by
        rw [hg]
        split at hh
        · omega
        · omega
      by_cases e : j = q
      · subst e; exact hle
      · have := og_lt hd (i := q) (j := j) (by omega) hj'
        omega
  · have : lo = hi := by omega
    subst this
    refine ⟨fun hlt => ?_, fun hge => Ret.eq (h lo h2 h3 h4) (by simp; omega)⟩
    refine rdS_idx hv (by omega) (by simp; omega) fun p row hp hr => ?_
    simp only [Int.toNat_natCast] at hr
    obtain ⟨l, s, rfl, g1, g2⟩ := hr
    have hcc := lsa_cell g1 g2
    rw [hp.ld]
    simp
    simp only [callK]
    rw [E_i_Db_find_1]
    show ACalls P n_i_Db_find_1 [.agg (lsaRow xs[lo] l s), .int .i64 o] Hc _
    refine C_i_Db_find_1 (by simp [hcc]) ?_
    have hg := og_get hlt
    have h5 := h4 lo (by omega) hlt
    simp
    refine Ret.eq (h lo h2 h3 h4) ?_
    simp [hlt, hg]
    unfold cmpI
    rw [hg] at h5
    split
    · omega
    · split <;> omega
theorem C_i_Db_find {b : Bool} {xs : List TLsa} {w : V} {o : Int} {H : Heap} {K : V → Heap → Prop} (hv : (dbT b).rd H xs [w]) (hd : dbOk xs)
    (h : ∀ i : Nat, i ≤ xs.length → (∀ j, j < i → og xs j < o) → (∀ j, i ≤ j → j < xs.length → o ≤ og xs j) → K (.tup [.int .i64 (i : Nat), .bool (decide (i < xs.length ∧ og xs i = o))]) H) : ACalls P n_i_Db_find [.agg [w], .int .i64 o] H K := by
  have hc := rdS_cell hv
  apply W_i_Db_find
  unfold F_i_Db_find
  simp [hc]
  refine C_find hv hd fun i h1 h2 h3 => ?_
  simp
  exact Ret.eq (h i h1 h2 h3) (by simp)

def zeroL : TLsa := ⟨0, 0, 0, [], []⟩
theorem zero_dp {b : Bool} {H : Heap} : Dp (lsaT b) H zeroL [.int .i64 0, .int .i64 0, .int .i64 0, .nils, .nils] H := Dp.lsa (a := zeroL) Held.nil Held.nil
def findR (xs : List TLsa) (o : Int) : TLsa × Bool :=
  if dbOk xs then (match xs.find? (fun a => a.origin == o) with | some a => (a, true) | none => (zeroL, false)) else (zeroL, false)
theorem findR_bad {xs : List TLsa} {o : Int} (h : ¬ dbOk xs) : findR xs o = (zeroL, false) := by unfold findR; rw [if_neg h]
theorem findR_no {xs : List TLsa} {o : Int} (h : ∀ i, i < xs.length → og xs i ≠ o) : findR xs o = (zeroL, false) := by
  unfold findR
  have : xs.find? (fun a => a.origin == o) = none := by
    rw [List.find?_eq_none]
    intro a ha
    obtain ⟨i, hi, rfl⟩ := List.mem_iff_getElem.1 ha
    have := h i hi
    rw [og_get hi] at this
    simpa using this
  rw [this]
  split <;> rfl
theorem findR_at {xs : List TLsa} {o : Int} {i : Nat} (hd : dbOk xs) (hi : i < xs.length) (h : og xs i = o) : findR xs o = (xs[i], true) := by
  unfold findR
  rw [if_pos hd]
  have : xs.find? (fun a => a.origin == o) = some xs[i] := by
    rw [List.find?_eq_some_iff_getElem]
    refine ⟨by rw [og_get hi] at h; simpa using h, i, hi, rfl, fun j hj => ?_⟩
    have := og_lt hd hj hi
    rw [og_get (by omega)] at this
    simp
    omega
  rw [this]

def InvF (xs : List TLsa) (w : V) (o : Int) (H : Heap) (m : Nat) (ys : List V) (Hc : Heap) : Prop :=
  ∃ i : Nat, i ≤ xs.length ∧ ys = [.box [w], .box [.int .i64 0, .int .i64 0, .int .i64 0, .nils, .nils], .int .i64 (i : Nat)] ∧ m = xs.length - i ∧ Hc = H ∧ ∀ j, j < i → og xs j ≠ o
theorem C_s_FindLsa {b c : Bool} {xs : List TLsa} {w : V} {o : Int} {H : Heap} {K : V → Heap → Prop} (hv : (dbT b).rd H xs [w]) (hl : xs.length + sumF szl xs ≤ 1048576)
    (h : ∀ us H', Dp (lsaT c) H (findR xs o).1 us H' → K (.tup [.agg us, .bool (findR xs o).2]) H') : ACalls P n_s_FindLsa [.agg [w], .int .i64 o] H K := by
  have hc := rdS_cell hv
  apply W_s_FindLsa
  unfold F_s_FindLsa
  simp [hc]
  refine C_s_DbOk hv ?_
  simp [fillZ, stz_eq, putCells]
  refine ⟨fun q => ?_, fun q1 => ?_⟩
  · rw [findR_bad q] at h
    exact Ret.of (h _ _ zero_dp)
  have hlen := db_len q1
  refine ⟨InvF xs w o H, ⟨xs.length, Shr.of ⟨0, by omega, rfl, by omega, rfl, fun j hj => absurd hj (by omega)⟩⟩, ?_⟩
  rintro m ys Hc ⟨i, hi, rfl, rfl, rfl, hno⟩
  simp [hc, rdS_len hv]
  refine ⟨fun hlt => ?_, fun hge => ?_⟩
  · refine rdS_idx hv (by omega) (by simpa using hlt) fun p row hp hr => ?_
    simp only [Int.toNat_natCast] at hr
    obtain ⟨l, s, rfl, _, _⟩ := hr
    refine hp.fld fun p1 hp1 => ?_
    rw [hp1.ld]
    simp
    have hg := og_get hlt
    refine ⟨fun q => ?_, fun q => ?_⟩
    · refine rdS_idx hv (by omega) (by simpa using hlt) fun p row hp hr => ?_
      simp only [Int.toNat_natCast] at hr
      have hr' := hr
      obtain ⟨l, s, rfl, _, _⟩ := hr
      rw [hp.ld]
      simp
      have hz := le_sumF (f := szl) hlt
      have hz' : szl xs[i] = xs[i].links.length + xs[i].stubs.length := rfl
      refine C_s_l05Copy (c := c) hr' (by omega) fun us H1 hus => ?_
      obtain ⟨l', s', Hm, rfl, w1, w2⟩ := lsa_dp hus
      have c1 := w1.cell
      have c2 := w2.cell
      rw [findR_at q1 hlt (by omega)] at h
      simp [stz_eq, putCells, c1, c2]
      exact Ret.of (h _ _ hus)
    · rw [i64_in (by omega) (by omega)]
      exact ⟨xs.length - (i + 1), by omega, Shr.of ⟨i + 1, by omega, by simp, rfl, rfl, fun j hj => by
        by_cases e : j = i
        · subst e; omega
        · exact hno j (by omega)⟩⟩
  · have : i = xs.length := by omega
    subst this
    rw [findR_no hno] at h
    simp [fillZ, stz_eq, putCells]
    exact Ret.of (h _ _ zero_dp)
theorem findR_sz {xs : List TLsa} {o : Int} (h : xs.length + sumF szl xs ≤ 1048576) : (findR xs o).1.links.length ≤ 1048576 ∧ (findR xs o).1.stubs.length ≤ 1048576 := by
  unfold findR
  split
  · split
    · rename_i a ha
      obtain ⟨i, hi, rfl⟩ := List.mem_iff_getElem.1 (List.mem_of_find?_eq_some ha)
      have hz := le_sumF (f := szl) hi
      have hz' : szl xs[i] = xs[i].links.length + xs[i].stubs.length := rfl
      simp only
      omega
    · simp [zeroL]
  · simp [zeroL]
end Go.Proofs.YtaippfedjjjpeaaGreat
