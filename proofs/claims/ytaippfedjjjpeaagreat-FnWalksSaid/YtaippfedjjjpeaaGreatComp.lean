/-
Contract: slices.Compact of prefixes.
-/
import Derived.Test.YtaippfedjjjpeaaGreatW1
import Derived.Test.YtaippfedjjjpeaaGreatAbs3
import Derived.Test.YtaippfedjjjpeaaGreatBase
set_option linter.all false
namespace Go.Proofs.YtaippfedjjjpeaaGreat
open Go Go.Abs Go.Proofs

def enP (p : Int × Int) : List V := [.int .i64 p.1, .int .i64 p.2]
theorem eq_pref (x y z w : Int) : aBin P .eql 57 (.agg [.int .i64 x, .int .i64 y]) (.agg [.int .i64 z, .int .i64 w]) = some (.bool ((x == z) && ((y == w) && true))) := by kernel_rfl
theorem neq_pref (x y z w : Int) : aBin P .neq 57 (.agg [.int .i64 x, .int .i64 y]) (.agg [.int .i64 z, .int .i64 w]) = some (.bool (!((x == z) && ((y == w) && true)))) := by kernel_rfl
def dd {α : Type} [DecidableEq α] (L : List α) : Nat → List α
  | 0 => []
  | i + 1 => if 0 < i ∧ L[i]? = L[i - 1]? then dd L i else dd L i ++ L[i]?.toList
theorem dd_len {α : Type} [DecidableEq α] (L : List α) : ∀ i, (dd L i).length ≤ i
  | 0 => by simp [dd]
  | i + 1 => by
    have := dd_len L i
    unfold dd
    split
    · omega
    · have : (L[i]?.toList).length ≤ 1 := by cases L[i]? <;> simp
      simp only [List.length_append]
      omega
theorem dd_all {α : Type} [DecidableEq α] {L : List α} : ∀ {i : Nat}, i ≤ L.length → (∀ j, 0 < j → j < i → L[j]? ≠ L[j - 1]?) → dd L i = L.take i
  | 0, _, _ => by simp [dd]
  | i + 1, hi, h => by
    have ih := dd_all (L := L) (i := i) (by omega) fun j h1 h2 => h j h1 (by omega)
    unfold dd
    rw [if_neg fun q => h i q.1 (by omega) q.2, ih]
    have : L[i]? = some L[i] := List.getElem?_eq_getElem (by omega)
    rw [this, List.take_succ_eq_append_getElem (by omega)]
    rfl
def InvCp1 (H : Heap) (L : List (Int × Int)) (m : Nat) (ys : List V) (Hc : Heap) : Prop :=
  ∃ i : Nat, 1 ≤ i ∧ i ≤ L.length ∧ ys = [.int .i64 (i : Nat)] ∧ m = L.length - i ∧ Hc = H ∧ ∀ j, 0 < j → j < i → L[j]? ≠ L[j - 1]?
def InvCp2 (H0 : Heap) (o : Nat) (L : List (Int × Int)) (k0 : Nat) (m : Nat) (ys : List V) (Hc : Heap) : Prop :=
  ∃ (k i : Nat) (C : List (Int × Int)), 1 ≤ i ∧ k0 + i ≤ L.length ∧ k < k0 + i ∧ ys = [.int .i64 (k : Nat), .int .i64 (i : Nat)] ∧ m = L.length - (k0 + i) ∧ Hc = upd H0 o ⟨2, C.map enP⟩ ∧ C.length = L.length ∧ C.take k = dd L (k0 + i) ∧ k = (dd L (k0 + i)).length ∧ ∀ j, k0 + i - 1 ≤ j → C[j]? = L[j]?
theorem at_own {H : Heap} {o : Nat} {C : List (Int × Int)} {s n : Nat} {cap : Option Nat} {i : Int} {K : V → Prop} (ho : H o = some ⟨2, C.map enP⟩) (h0 : 0 ≤ i) (h1 : i < n) (h2 : s + i.toNat < C.length) (h : K (.agg (enP (C[s + i.toNat]'h2)))) :
    bnd (aIndex H 2 (.slice o s n cap) (.int .i64 i)) fun t => bnd (aLd true 2 H t) K := by
  rw [aIndex_own ho rfl h0 h1]
  simp only [bnd_some]
  have : Go.Abs.rowAt H o (s + i.toNat) = some (enP (C[s + i.toNat]'h2)) := by
    unfold Go.Abs.rowAt
    rw [ho]
    simp [h2]
  simp only [aLd, this]
  simpa [partOf, enP] using h
theorem slice_from {H : Heap} {o n k : Nat} {ob : Ob} {cap : Option Nat} (ho : H o = some ob) (hw : ob.w = 2) (hk : k ≤ n) (hc : ∀ c, cap = some c → c = n) : ∃ cap', aSlice H 2 (.slice o 0 n cap) (some (.int .i64 (k : Nat))) none none = some (.slice o k (n - k) cap') := by
  cases cap with
  | none => exact ⟨none, by simp [aSlice, ho, hw, bound, natOf, hk]⟩
  | some c =>
    have := hc c rfl
    subst this
    exact ⟨some (c - k), by simp [aSlice, ho, hw, bound, natOf, hk]⟩
theorem dd_succ {α : Type} [DecidableEq α] {L : List α} {i : Nat} (h0 : 0 < i) (hi : i < L.length) : dd L (i + 1) = if L[i]? = L[i - 1]? then dd L i else dd L i ++ [L[i]] := by
  rw [dd, List.getElem?_eq_getElem hi]
  by_cases q : some L[i] = L[i - 1]?
  · rw [if_pos ⟨h0, q⟩, if_pos q]
  · rw [if_neg fun q2 => q q2.2, if_neg q]; rfl
set_option maxHeartbeats 4000000 in
theorem C_Compact {H0 H : Heap} {v : V} {L : List (Int × Int)} {K : V → Heap → Prop} (hv : Held H0 2 (L.map enP) v H) (hl : L.length ≤ 1048576)
    (h : ∀ u H', Abs.sub H0 H' → Rd H' 2 u ((dd L L.length).map enP) → K u H') : ACalls P n_slices_Compact_i_Prefix_i_Prefix [v] H K := by
  have hr : ∀ (C : List (Int × Int)), ∀ r ∈ C.map enP, r.length = 2 := fun C r hr => by
    obtain ⟨p, _, rfl⟩ := List.mem_map.1 hr; rfl
  have hln := (hv.rd (hr L)).len
  have whole : (∀ j, 0 < j → j < L.length → L[j]? ≠ L[j - 1]?) → Ret K v H := fun q => by
    have := dd_all (L := L) (i := L.length) (Nat.le_refl _) q
    rw [List.take_length] at this
    exact Ret.of (h v H hv.sub (by rw [this]; exact hv.rd (hr L)))
  apply W_slices_Compact_i_Prefix_i_Prefix
  unfold F_slices_Compact_i_Prefix_i_Prefix
  simp [hln]
  refine ⟨fun q => whole fun j h1 h2 => by omega, fun q => ?_⟩
  refine ⟨InvCp1 H L, ⟨L.length - 1, Shr.of ⟨1, by omega, by omega, rfl, by omega, rfl, fun j h1 h2 => by omega⟩⟩, ?_⟩
  rintro m ys Hc ⟨i, hi, hi2, rfl, rfl, rfl, hne⟩
  simp
  refine ⟨fun hlt => ?_, fun hge => whole fun j h1 h2 => hne j h1 (by omega)⟩
  refine ⟨Hc, Abs.sub_refl _, ?_⟩
  have hgd : ∀ j, (hj : j < L.length) → (L.map enP).getD j [] = enP L[j] := fun j hj => by simp [hj]
  refine (hv.rd (hr L)).idx (by omega) (by simpa using hlt) fun p hp => ?_
  simp only [Int.toNat_natCast, hgd i hlt] at hp
  rw [hp.ld]
  simp [enP]
  rw [i64_in (n := (i : Int) - 1) (by omega) (by omega)]
  refine (hv.rd (hr L)).idx (by omega) (by simp; omega) fun p hp => ?_
  have e1 : ((i : Int) - 1).toNat = i - 1 := by omega
  rw [e1, hgd (i - 1) (by omega)] at hp
  rw [hp.ld]
  simp [enP]
  rw [eq_pref]
  simp
  rw [i64_in (n := (i : Int) + 1) (by omega) (by omega)]
  have eL : L[i]? = some L[i] := List.getElem?_eq_getElem hlt
  have eL1 : L[i - 1]? = some L[i - 1] := List.getElem?_eq_getElem (by omega)
  refine ⟨fun a1 a2 => ?_, fun a1 => ?_⟩
  rotate_left
  · refine ⟨L.length - (i + 1), by omega, Shr.of ⟨i + 1, by omega, by omega, by simp, rfl, rfl, fun j h1 h2 => ?_⟩⟩
    by_cases e : j = i
    · subst e
      rw [eL, eL1]
      intro q
      have q : L[j] = L[j - 1] := by simpa using q
      exact a1 (by rw [q]) (by rw [q])
    · exact hne j h1 (by omega)
  have dup : L[i]? = L[i - 1]? := by rw [eL, eL1]; exact congrArg some (Prod.ext a1 a2)
  have hv0 := hv
  rcases hv with ⟨_, e0, _⟩ | ⟨o, cap, h1, rfl, hcap, rfl⟩
  · simp at e0; subst e0; simp at hlt
  simp only [List.length_map] at hcap ⊢
  have hcap' : ∀ c, cap = some c → c = L.length := hcap
  obtain ⟨cap1, es⟩ := slice_from (H := upd H0 o ⟨2, L.map enP⟩) (k := i) (upd_same _ _ _) rfl (by omega) hcap'
  rw [es]
  simp only [bnd_some]
  have dd1 : dd L (i + 1) = L.take i := by rw [dd_succ (by omega) hlt, if_pos dup]; exact dd_all (by omega) hne
  refine ⟨InvCp2 H0 o L i, ⟨L.length - (i + 1), Shr.of ⟨i, 1, L, by omega, by omega, by omega, rfl, rfl, rfl, rfl, by rw [dd1], by rw [dd1]; simp; omega, fun j hj => rfl⟩⟩, ?_⟩
  rintro m ys Hc ⟨k, i2, C, g1, g2, g3, rfl, rfl, rfl, g4, g5, g6, g7⟩
  have hheld : Held H0 2 (C.map enP) (.slice o 0 L.length cap) (upd H0 o ⟨2, C.map enP⟩) := .inr ⟨o, cap, h1, by simp [g4], fun c hc => by simp [g4]; exact hcap' c hc, rfl⟩
  have ln : lenOf (.slice o i (L.length - i) cap1) = some (L.length - i) := rfl
  simp [ln]
  refine ⟨fun hlt2 => ?_, fun hge2 => ?_⟩
  · have hc2 : i + i2 < C.length := by omega
    have cA : C[i + i2] = L[i + i2]'(by omega) := by
      have := g7 (i + i2) (by omega)
      rw [List.getElem?_eq_getElem hc2, List.getElem?_eq_getElem (by omega)] at this
      simpa using this
    have cB : C[i + (i2 - 1)]'(by omega) = L[i + i2 - 1]'(by omega) := by
      have := g7 (i + i2 - 1) (by omega)
      rw [List.getElem?_eq_getElem (by omega), List.getElem?_eq_getElem (by omega)] at this
      have e : i + (i2 - 1) = i + i2 - 1 := by omega
      simp only [e]
      simpa using this
    refine ⟨_, Abs.sub_refl _, ?_⟩
    refine at_own (upd_same _ _ _) (by omega) (by omega) (by simpa using hc2) ?_
    simp
    rw [i64_in (n := (i2 : Int) - 1) (by omega) (by omega)]
    refine at_own (upd_same _ _ _) (by omega) (by omega) (by omega) ?_
    have e2 : ((i2 : Int) - 1).toNat = i2 - 1 := by omega
    simp only [e2, Int.toNat_natCast, cA, cB]
    simp only [enP]
    rw [neq_pref]
    simp
    have eX : L[i + i2]? = some (L[i + i2]'(by omega)) := List.getElem?_eq_getElem (by omega)
    have eY : L[i + i2 - 1]? = some (L[i + i2 - 1]'(by omega)) := List.getElem?_eq_getElem (by omega)
    have ds := dd_succ (L := L) (i := i + i2) (by omega) (by omega)
    rw [i64_in (n := (i2 : Int) + 1) (by omega) (by omega), i64_in (n := (k : Int) + 1) (by omega) (by omega)]
    refine ⟨fun hne2 => ?_, fun b1 b2 => ?_⟩
    · have nd : ¬ L[i + i2]? = L[i + i2 - 1]? := by
        rw [eX, eY]
        intro q
        have q : L[i + i2]'(by omega) = L[i + i2 - 1]'(by omega) := by simpa using q
        rw [q] at hne2
        simp at hne2
      rw [if_neg nd] at ds
      refine at_own (upd_same _ _ _) (by omega) (by omega) (by simpa using hc2) ?_
      simp only [Int.toNat_natCast, cA]
      refine hheld.pt (Abs.sub_refl _) (by omega) (by simp; omega) fun p hp => ?_
      refine hp.st (row' := enP (L[i + i2]'(by omega))) ?_ fun H' H'' t1 t2 => ?_
      · have : (C.map enP).getD (k : Int).toNat [] = enP (C[k]'(by omega)) := by simp [show k < C.length by omega]
        rw [this]
        simp [stz, putCells, enP, cellsOf]
      simp only [Int.toNat_natCast] at t1
      rcases t1 with ⟨_, e0, _⟩ | ⟨o', cap', u1, u2, u3, u4⟩
      · have q : ((C.map enP).set k (enP (L[i + i2]'(by omega)))).length = 0 := by rw [e0]; rfl
        rw [List.length_set, List.length_map] at q
        omega
      · simp only [V.slice.injEq] at u2
        obtain ⟨rfl, _, _, rfl⟩ := u2
        subst u4
        refine ⟨L.length - (i + (i2 + 1)), by omega, upd H0 o ⟨2, (C.set k (L[i + i2]'(by omega))).map enP⟩, by rw [List.map_set]; exact t2, k + 1, i2 + 1, C.set k (L[i + i2]'(by omega)), by omega, by omega, by omega, by simp, rfl, rfl, by simp [g4], ?_, ?_, fun j hj => ?_⟩
        · rw [show i + (i2 + 1) = i + i2 + 1 by omega, ds, ← g5]
          rw [List.take_succ_eq_append_getElem (by simp; omega)]
          congr 1
          · rw [List.take_set]
            apply List.ext_getElem?
            intro j
            rw [List.getElem?_set]
            by_cases e : k = j
            · subst e
              rw [if_pos rfl, if_neg (by simp; omega)]
              rw [List.getElem?_eq_none (by simp; omega)]
            · rw [if_neg e]
          · simp
        · rw [show i + (i2 + 1) = i + i2 + 1 by omega, ds, List.length_append, ← g6]; rfl
        · rw [List.getElem?_set_ne (by omega)]
          exact g7 j (by omega)
    · have nd : L[i + i2]? = L[i + i2 - 1]? := by rw [eX, eY]; exact congrArg some (Prod.ext b1 b2)
      rw [if_pos nd] at ds
      exact ⟨L.length - (i + (i2 + 1)), by omega, Shr.of ⟨k, i2 + 1, C, by omega, by omega, by omega, by simp, rfl, rfl, g4, by rw [show i + (i2 + 1) = i + i2 + 1 by omega, ds]; exact g5, by rw [show i + (i2 + 1) = i + i2 + 1 by omega, ds]; exact g6, fun j hj => g7 j (by omega)⟩⟩
  · have ee : i + i2 = L.length := by omega
    obtain ⟨cap2, es2⟩ := slice_from (H := upd H0 o ⟨2, C.map enP⟩) (k := k) (upd_same _ _ _) rfl (by omega) hcap'
    rw [es2]
    simp [clearK, upd_same]
    refine ⟨by omega, ?_⟩
    have hr3 : (List.take k (C.map enP) ++ (List.replicate (L.length - k) [V.int .i64 0, .int .i64 0] ++ List.drop (k + (L.length - k)) (C.map enP))) = (C.take k ++ List.replicate (L.length - k) (0, 0)).map enP := by
      rw [List.map_append, List.map_take, List.map_replicate, List.drop_eq_nil_of_le (by simp; omega)]
      simp [enP]
    have h4 : Held H0 2 ((C.take k ++ List.replicate (L.length - k) (0, 0)).map enP) (.slice o 0 L.length cap) (upd H0 o ⟨2, (C.take k ++ List.replicate (L.length - k) (0, 0)).map enP⟩) := .inr ⟨o, cap, h1, by simp; omega, fun c hc => by simp; have := hcap' c hc; omega, rfl⟩
    obtain ⟨w, q1, q2⟩ := (h4.sl (hr _)).upto (k := .i64) (i := k) (by simp; omega)
    rw [← List.map_take, List.take_left' (by simp; omega), g5, ee] at q2
    rw [hr3, q1]
    simp only [bnd_some]
    exact Ret.of (h w _ h4.sub (by rw [g5, ee]; exact q2.1))

end Go.Proofs.YtaippfedjjjpeaaGreat
