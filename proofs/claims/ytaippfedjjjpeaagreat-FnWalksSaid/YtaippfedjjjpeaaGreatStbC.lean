/-
Contract: the prefixes of a database's stubs.
-/
import Derived.Test.YtaippfedjjjpeaaGreatSortP
import Derived.Test.YtaippfedjjjpeaaGreatLsaM
import Derived.Test.YtaippfedjjjpeaaGreatDbF
set_option linter.all false
namespace Go.Proofs.YtaippfedjjjpeaaGreat
open Go Go.Abs Go.Proofs

def pfx (s : TStub) : Int × Int := (s.1, s.2.1)
def pAll (xs : List TLsa) : List (Int × Int) := xs.flatMap fun a => a.stubs.map pfx
theorem pAll_succ {xs : List TLsa} {i : Nat} (h : i < xs.length) : pAll (xs.take (i + 1)) = pAll (xs.take i) ++ xs[i].stubs.map pfx := by
  unfold pAll
  rw [List.take_succ_eq_append_getElem h, List.flatMap_append]
  simp
theorem pAll_len : ∀ {xs : List TLsa}, (∀ a ∈ xs, a.stubs.length ≤ 6) → (pAll xs).length ≤ 6 * xs.length
  | [], _ => by simp [pAll]
  | a :: xs, h => by
    have i1 := pAll_len (xs := xs) fun b hb => h b (List.mem_cons_of_mem _ hb)
    have i2 := h a (by simp)
    unfold pAll at i1 ⊢
    simp only [List.flatMap_cons, List.length_append, List.length_map, List.length_cons]
    omega
theorem pAll_in {xs : List TLsa} (hd : dbOk xs) : ∀ p ∈ pAll xs, (0 ≤ p.1 ∧ p.1 < 65536) ∧ 0 ≤ p.2 ∧ p.2 < 65536 := fun p hp => by
  unfold pAll at hp
  obtain ⟨a, ha, hp⟩ := List.mem_flatMap.1 hp
  obtain ⟨s, hs, rfl⟩ := List.mem_map.1 hp
  obtain ⟨i, hi, rfl⟩ := List.mem_iff_getElem.1 ha
  obtain ⟨j, hj, rfl⟩ := List.mem_iff_getElem.1 hs
  have := (hd.1 i hi).2.2.2.2.2.2 j hj
  unfold stOk prefOk addrOk at this
  rw [show rt xs[i].stubs j = xs[i].stubs[j] by simp [rt, hj]] at this
  unfold pfx
  simp only
  omega
def InvSt1 (H : Heap) (xs : List TLsa) (m : Nat) (ys : List V) (Hc : Heap) : Prop :=
  ∃ (i : Nat) (u : V), i ≤ xs.length ∧ ys = [u, .int .i64 (i : Nat)] ∧ m = xs.length - i ∧ Held H 2 ((pAll (xs.take i)).map enP) u Hc
def InvSt2 (H : Heap) (xs : List TLsa) (i : Nat) (a : TLsa) (m : Nat) (ys : List V) (Hc : Heap) : Prop :=
  ∃ (j : Nat) (u : V), j ≤ a.stubs.length ∧ ys = [u, .int .i64 (j : Nat)] ∧ m = a.stubs.length - j ∧ Held H 2 ((pAll (xs.take i) ++ (a.stubs.take j).map pfx).map enP) u Hc
set_option maxHeartbeats 2000000 in
theorem C_i_stubsOf {b : Bool} {xs : List TLsa} {w : V} {H : Heap} {K : V → Heap → Prop} (hv : (dbT b).rd H xs [w]) (hd : dbOk xs)
    (h : ∀ u H' (L : List (Int × Int)), Abs.sub H H' → L.Perm (pAll xs) → (∀ i j, i < j → (h2 : j < L.length) → ∀ h1 : i < L.length, ¬ ltP L[j] L[i]) → Rd H' 2 u ((dd L L.length).map enP) → K u H') : ACalls P n_i_Db_stubsOf [.agg [w]] H K := by
  have cw := rdS_cell hv
  have ln := rdS_len hv
  have hxl := db_len hd
  have st6 : ∀ a ∈ xs, a.stubs.length ≤ 6 := fun a ha => by
    obtain ⟨i, hi, rfl⟩ := List.mem_iff_getElem.1 ha
    exact (hd.1 i hi).2.2.2.2.1
  have plen : ∀ i, (pAll (xs.take i)).length ≤ 6 * xs.length := fun i => by
    have := pAll_len (xs := xs.take i) fun a ha => st6 a (List.mem_of_mem_take ha)
    simp at this
    omega
  apply W_i_Db_stubsOf
  unfold F_i_Db_stubsOf
  have hb0 : bsl 2 0 [V.int .i64 0, .int .i64 0] [] = some [] := rfl
  simp [hb0, cw, ln]
  intro o ho
  refine ⟨InvSt1 H xs, ⟨xs.length, Shr.of ⟨0, .slice o 0 0 (some 0), by omega, rfl, by omega, by simpa [pAll] using Held.new ho⟩⟩, ?_⟩
  rintro m ys Hc ⟨i, u, hi, rfl, rfl, hu⟩
  simp
  refine ⟨fun hlt => ?_, fun hge => ?_⟩
  · refine rdS_at hv hu.sub (by omega) (by simpa using hlt) fun p row hp hrw => ?_
    simp only [Int.toNat_natCast] at hrw
    obtain ⟨l1, s1, rfl, g1, g2⟩ := hrw
    have cc := lsa_cell g1 g2
    rw [hp.ld]
    simp [stz_eq, putCells, cc, g2.1.len]
    have h6 := st6 xs[i] (List.getElem_mem hlt)
    have hps := plen i
    rw [i64_in (n := (i : Int) + 1) (by omega) (by omega)]
    refine ⟨InvSt2 H xs i xs[i], ⟨xs[i].stubs.length, Shr.of ⟨0, u, by omega, rfl, by omega, by simpa using hu⟩⟩, ?_⟩
    rintro m ys Hd ⟨j, u2, hj, rfl, rfl, hu2⟩
    simp
    rw [i64_in (n := (j : Int) + 1) (by omega) (by omega)]
    refine ⟨fun hlt2 => ?_, fun hge2 => ?_⟩
    · have hgd : (xs[i].stubs.map enStub).getD j [] = enStub xs[i].stubs[j] := by simp [hlt2]
      refine (g2.1.mono hu2.sub).idx (by omega) (by simpa using hlt2) fun p hp => ?_
      simp only [Int.toNat_natCast, hgd] at hp
      rw [hp.ld]
      simp [stz_eq, putCells, bsl_one]
      intro o7 ho7
      refine hu2.append (sub_fresh ho7) (by simp) (by simp; omega) fun v' H' H'' ho' hs' => ?_
      refine ⟨xs[i].stubs.length - (j + 1), by omega, H'', hs', j + 1, v', by omega, by simp, rfl, ?_⟩
      have et : pAll (xs.take i) ++ (xs[i].stubs.take (j + 1)).map pfx = (pAll (xs.take i) ++ (xs[i].stubs.take j).map pfx) ++ [pfx xs[i].stubs[j]] := by
        rw [List.take_succ_eq_append_getElem hlt2, List.map_append, List.append_assoc]; rfl
      rw [et, List.map_append]
      exact ho'
    · have : j = xs[i].stubs.length := by omega
      subst this
      rw [List.take_length, ← pAll_succ hlt] at hu2
      exact ⟨xs.length - (i + 1), by omega, Shr.of ⟨i + 1, u2, by omega, by simp, rfl, hu2⟩⟩
  · have : i = xs.length := by omega
    subst this
    rw [List.take_length] at hu
    have hp := plen xs.length
    rw [List.take_length] at hp
    refine C_SortFunc hu (by omega) (pAll_in hd) fun L H1 hperm hs hh => ?_
    refine C_Compact hh (by have := hperm.length_eq; omega) fun u2 H2 hs2 hr2 => ?_
    exact Ret.of (h u2 H2 L hs2 hperm hs hr2)

end Go.Proofs.YtaippfedjjjpeaaGreat
