/-
Contracts: the encoding of an advertisement, both sides.
-/
import Derived.Test.YtgoljfhjhcjcpaaBytes
set_option linter.all false
namespace Go.Proofs.Ytgoljfhjhcjcpaa
open Go Go.Abs Go.Proofs

def lkB (k : TLink) : List Int := (k.1 % 256) :: wideL k.2 2
def stB (s : TStub) : List Int := (wideL s.1 2 ++ [s.2.1 % 256]) ++ wideL s.2.2 2
def headB (a : TLsa) : List Int := ([a.origin % 256] ++ wideL a.seq 3) ++ [(a.links.length : Int) % 256]
def midB (a : TLsa) : List Int := (headB a ++ a.links.flatMap lkB) ++ [(a.stubs.length : Int) % 256]
def lsaB (a : TLsa) : List Int := midB a ++ a.stubs.flatMap stB
theorem fm_succ {α : Type} {f : α → List Int} {xs : List α} {i : Nat} (h : i < xs.length) : (xs.take (i + 1)).flatMap f = (xs.take i).flatMap f ++ f xs[i] := by
  rw [List.take_succ_eq_append_getElem h, List.flatMap_append]
  simp
theorem fm_len {α : Type} {f : α → List Int} {c : Nat} (hf : ∀ x, (f x).length = c) : ∀ xs : List α, (xs.flatMap f).length = c * xs.length
  | [] => by simp
  | a :: xs => by
    rw [List.flatMap_cons, List.length_append, hf, fm_len hf xs, List.length_cons, Nat.mul_add]
    omega
theorem lkB_len (k : TLink) : (lkB k).length = 3 := by simp [lkB]
theorem stB_len (s : TStub) : (stB s).length = 5 := by simp [stB]
def InvB {α : Type} (H : Heap) (pre : List V) (B : List Int) (f : α → List Int) (xs : List α) (m : Nat) (ys : List V) (Hc : Heap) : Prop :=
  ∃ (i : Nat) (u : V), i ≤ xs.length ∧ ys = pre ++ [u, .int .i64 (i : Nat)] ∧ m = xs.length - i ∧ Held H 1 ((B ++ (xs.take i).flatMap f).map enB) u Hc
theorem headB_len (a : TLsa) : (headB a).length = 5 := by simp [headB]
theorem midB_len (a : TLsa) : (midB a).length = 6 + 3 * a.links.length := by
  rw [midB, List.length_append, List.length_append, headB_len, fm_len lkB_len]
  simp; omega
theorem one_rb {H : Heap} {o : Nat} {x : Int} (ho : H o = none) : Held H 1 ([x].map enB) (.slice o 0 1 (some 1)) (upd H o ⟨1, [[.int .u8 x]]⟩) := Held.full ho rfl
/-- What is held over a greater heap, taken back. -/
theorem held_back {H Ha H' : Heap} {sz : Nat} {rows : List (List V)} {u : V} (h : Held Ha sz rows u H') (hs : Abs.sub H Ha) : ∃ H'', Held H sz rows u H'' ∧ Abs.sub H'' H' := h.shrink hs

set_option maxHeartbeats 2000000 in
theorem C_s_LsaBytes {b : Bool} {a : TLsa} {vs : List V} {H : Heap} {K : V → Heap → Prop} (hv : (lsaT b).rd H a vs) (hok : lsaOk a) (h : ∀ u H', Held H 1 ((lsaB a).map enB) u H' → K u H') : ACalls P n_s_LsaBytes [.agg vs] H K := by
  have hv' := hv
  obtain ⟨l, s, rfl, g1, g2⟩ := hv
  have hcc := lsa_cell g1 g2
  have hll := hok.2.2.2.1
  have hsl := hok.2.2.2.2.1
  apply W_s_LsaBytes
  unfold F_s_LsaBytes
  simp [hcc]
  refine C_s_LsaOk hv' ?_
  simp [hok]
  refine ⟨H, Abs.sub_refl _, ?_⟩
  simp [aCv_int, u8w]
  refine C_s_l05Wide (n := 3) (by omega) fun u1 H1 hu1 => ⟨hu1.sub, ?_⟩
  simp [bsl_one]
  intro o ho
  refine ⟨sub_trans hu1.sub (sub_fresh ho), ?_⟩
  refine C_s_l01Join (b := false) (b' := false) ((one_rb (x := a.origin % 256) ho).rb enB_len) ((hu1.rb enB_len).mono (sub_fresh ho)) (by simp) fun u2 H2 hu2 => ?_
  obtain ⟨H2', hu2, hs2⟩ := held_back hu2 (sub_trans hu1.sub (sub_fresh ho))
  refine ⟨sub_trans hu2.sub hs2, ?_⟩
  simp [hcc, g1.1.len, bsl_one, aCv_int, u8w]
  intro o2 ho2
  refine hu2.append (sub_trans hs2 (sub_fresh ho2)) (by simp) (by simp) fun v3 H3' H3 hu3 hs3 => ?_
  refine ⟨InvB H [] (headB a) lkB a.links, ⟨a.links.length, H3, hs3, ⟨0, v3, by omega, rfl, by omega, by simpa [headB] using hu3⟩⟩, ?_⟩
  rintro m ys Hc ⟨i, u, hi, rfl, rfl, hu⟩
  simp [hcc, g1.1.len]
  have hlen : ((a.links.take i).flatMap lkB).length = 3 * i := by rw [fm_len lkB_len]; simp; omega
  refine ⟨fun hlt => ?_, fun hge => ?_⟩
  · have hfm := fm_succ (f := lkB) hlt
    have hrow : (a.links.map enLink).getD i [] = enLink a.links[i] := by simp [hlt]
    refine ⟨H, hu.sub, ?_⟩
    refine g1.1.idx (by omega) (by simpa using hlt) fun p hp => ?_
    simp only [Int.toNat_natCast, hrow] at hp
    refine hp.fld fun q hq => ?_
    rw [hq.ld]
    simp [aCv_int, u8w]
    refine g1.1.idx (by omega) (by simpa using hlt) fun p hp => ?_
    simp only [Int.toNat_natCast, hrow] at hp
    refine hp.fld fun q hq => ?_
    rw [hq.ld]
    simp [bsl_one]
    intro o3 ho3
    refine ⟨sub_trans hu.sub (sub_fresh ho3), ?_⟩
    refine hu.append (sub_fresh ho3) (by simp) (by rw [List.length_map, List.length_append, headB_len, hlen]; simp; omega) fun v4 H4' H4 hu4 hs4 => ?_
    refine ⟨sub_trans hu4.sub hs4, ?_⟩
    refine C_s_l05Wide (n := 2) (by omega) fun u5 H5 hu5 => ⟨sub_trans (sub_trans hu4.sub hs4) hu5.sub, ?_⟩
    have e4 : (headB a ++ (a.links.take i).flatMap lkB).map enB ++ [[V.int .u8 (a.links[i].1 % 256)]] = ((headB a ++ (a.links.take i).flatMap lkB) ++ [a.links[i].1 % 256]).map enB := by simp
    rw [e4] at hu4
    refine C_s_l01Join (b := false) (b' := false) ((hu4.rb enB_len).mono (sub_trans hs4 hu5.sub)) (hu5.rb enB_len) (by rw [List.length_append, List.length_append, headB_len, hlen]; simp; omega) fun u6 H6 hu6 => ?_
    obtain ⟨H6', hu6, hs6⟩ := held_back hu6 (sub_trans (sub_trans hu4.sub hs4) hu5.sub)
    refine ⟨sub_trans hu6.sub hs6, ?_⟩
    rw [i64_in (by omega) (by omega)]
    refine ⟨a.links.length - (i + 1), by omega, H6', hs6, i + 1, u6, by omega, rfl, rfl, ?_⟩
    rw [hfm]
    have e6 : headB a ++ ((a.links.take i).flatMap lkB ++ lkB a.links[i]) = headB a ++ (a.links.take i).flatMap lkB ++ [a.links[i].1 % 256] ++ wideL a.links[i].2 2 := by simp [lkB]
    rw [e6]
    exact hu6
  · have : i = a.links.length := by omega
    subst this
    rw [List.take_length] at hu hlen
    simp [hcc, g2.1.len, bsl_one, aCv_int, u8w]
    intro o3 ho3
    refine hu.append (sub_fresh ho3) (by simp) (by rw [List.length_map, List.length_append, headB_len, hlen]; simp; omega) fun v4 H4' H4 hu4 hs4 => ?_
    have e4 : (headB a ++ a.links.flatMap lkB).map enB ++ [[V.int .u8 ((a.stubs.length : Int) % 256)]] = (midB a).map enB := by simp [midB]
    rw [e4] at hu4
    refine ⟨InvB H [.box (lsaRow a l s)] (midB a) stB a.stubs, ⟨a.stubs.length, H4, hs4, ⟨0, v4, by omega, rfl, by omega, by simpa using hu4⟩⟩, ?_⟩
    rintro m ys Hd ⟨i, u, hi, rfl, rfl, hu⟩
    simp [hcc, g2.1.len]
    have hlen2 : ((a.stubs.take i).flatMap stB).length = 5 * i := by rw [fm_len stB_len]; simp; omega
    refine ⟨fun hlt => ?_, fun hge => ?_⟩
    · have hfm := fm_succ (f := stB) hlt
      have hrow : (a.stubs.map enStub).getD i [] = enStub a.stubs[i] := by simp [hlt]
      refine (g2.1.mono hu.sub).idx (by omega) (by simpa using hlt) fun p hp => ?_
      simp only [Int.toNat_natCast, hrow] at hp
      rw [hp.ld]
      simp [stz_eq, putCells]
      refine ⟨H, hu.sub, ?_⟩
      simp [aCv_int, u8w]
      refine C_s_l05Wide (n := 2) (by omega) fun u5 H5 hu5 => ⟨sub_trans hu.sub hu5.sub, ?_⟩
      refine C_s_l01Join (b := false) (b' := false) ((hu.rb enB_len).mono hu5.sub) (hu5.rb enB_len) (by rw [List.length_append, midB_len, hlen2]; simp; omega) fun u6 H6 hu6 => ?_
      obtain ⟨H6', hu6, hs6⟩ := held_back hu6 (sub_trans hu.sub hu5.sub)
      refine ⟨sub_trans hu6.sub hs6, ?_⟩
      simp [bsl_one]
      intro o7 ho7
      refine ⟨sub_trans (sub_trans hu6.sub hs6) (sub_fresh ho7), ?_⟩
      refine hu6.append (sub_trans hs6 (sub_fresh ho7)) (by simp) (by rw [List.length_map, List.length_append, List.length_append, midB_len, hlen2]; simp; omega) fun v8 H8' H8 hu8 hs8 => ?_
      refine ⟨sub_trans hu8.sub hs8, ?_⟩
      refine C_s_l05Wide (n := 2) (by omega) fun u9 H9 hu9 => ⟨sub_trans (sub_trans hu8.sub hs8) hu9.sub, ?_⟩
      have e8 : (midB a ++ (a.stubs.take i).flatMap stB ++ wideL a.stubs[i].1 2).map enB ++ [[V.int .u8 (a.stubs[i].2.1 % 256)]] = ((midB a ++ (a.stubs.take i).flatMap stB ++ wideL a.stubs[i].1 2) ++ [a.stubs[i].2.1 % 256]).map enB := by simp
      rw [e8] at hu8
      refine C_s_l01Join (b := false) (b' := false) ((hu8.rb enB_len).mono (sub_trans hs8 hu9.sub)) (hu9.rb enB_len) (by rw [List.length_append, List.length_append, List.length_append, midB_len, hlen2]; simp; omega) fun u10 H10 hu10 => ?_
      obtain ⟨H10', hu10, hs10⟩ := held_back hu10 (sub_trans (sub_trans hu8.sub hs8) hu9.sub)
      refine ⟨sub_trans hu10.sub hs10, ?_⟩
      rw [i64_in (by omega) (by omega)]
      refine ⟨a.stubs.length - (i + 1), by omega, H10', hs10, i + 1, u10, by omega, rfl, rfl, ?_⟩
      rw [hfm]
      have e6 : midB a ++ ((a.stubs.take i).flatMap stB ++ stB a.stubs[i]) = midB a ++ (a.stubs.take i).flatMap stB ++ wideL a.stubs[i].1 2 ++ [a.stubs[i].2.1 % 256] ++ wideL a.stubs[i].2.2 2 := by simp [stB]
      rw [e6]
      exact hu10
    · have : i = a.stubs.length := by omega
      subst this
      rw [List.take_length] at hu
      exact Ret.of (h _ _ hu)
set_option maxHeartbeats 2000000 in
theorem C_i_Lsa_bytes {b : Bool} {a : TLsa} {vs : List V} {H : Heap} {K : V → Heap → Prop} (hv : (lsaT b).rd H a vs) (hok : lsaOk a) (h : ∀ u H', Held H 1 ((lsaB a).map enB) u H' → K u H') : ACalls P n_i_Lsa_bytes [.agg vs] H K := by
  obtain ⟨l, s, rfl, g1, g2⟩ := hv
  have hcc := lsa_cell g1 g2
  have hll := hok.2.2.2.1
  have hsl := hok.2.2.2.2.1
  apply W_i_Lsa_bytes
  unfold F_i_Lsa_bytes
  simp [hcc, aCv_int, u8w, bsl_one]
  intro o ho
  refine C_i_big (n := 3) (one_rb (x := a.origin % 256) ho) (Abs.sub_refl _) (by simp) (by omega) fun u2 H2 H2' hu2 hs2 => ?_
  simp [hcc, g1.1.len, bsl_one, aCv_int, u8w]
  intro o2 ho2
  refine hu2.append (sub_trans hs2 (sub_fresh ho2)) (by simp) (by simp) fun v3 H3' H3 hu3 hs3 => ?_
  refine ⟨InvB H [.box (lsaRow a l s)] (headB a) lkB a.links, ⟨a.links.length, H3, hs3, ⟨0, v3, by omega, rfl, by omega, by simpa [headB] using hu3⟩⟩, ?_⟩
  rintro m ys Hc ⟨i, u, hi, rfl, rfl, hu⟩
  simp
  have hlen : ((a.links.take i).flatMap lkB).length = 3 * i := by rw [fm_len lkB_len]; simp; omega
  refine ⟨fun hlt => ?_, fun hge => ?_⟩
  · have hfm := fm_succ (f := lkB) hlt
    have hrow : (a.links.map enLink).getD i [] = enLink a.links[i] := by simp [hlt]
    refine (g1.1.mono hu.sub).idx (by omega) (by simpa using hlt) fun p hp => ?_
    simp only [Int.toNat_natCast, hrow] at hp
    rw [hp.ld]
    simp [stz_eq, putCells, aCv_int, u8w, bsl_one]
    intro o3 ho3
    refine hu.append (sub_fresh ho3) (by simp) (by rw [List.length_map, List.length_append, headB_len, hlen]; simp; omega) fun v4 H4' H4 hu4 hs4 => ?_
    have e4 : (headB a ++ (a.links.take i).flatMap lkB).map enB ++ [[V.int .u8 (a.links[i].1 % 256)]] = ((headB a ++ (a.links.take i).flatMap lkB) ++ [a.links[i].1 % 256]).map enB := by simp
    rw [e4] at hu4
    refine C_i_big (n := 2) hu4 hs4 (by rw [List.length_append, List.length_append, headB_len, hlen]; simp; omega) (by omega) fun u6 H6 H6' hu6 hs6 => ?_
    rw [i64_in (by omega) (by omega)]
    refine ⟨a.links.length - (i + 1), by omega, H6', hs6, i + 1, u6, by omega, rfl, rfl, ?_⟩
    rw [hfm]
    have e6 : headB a ++ ((a.links.take i).flatMap lkB ++ lkB a.links[i]) = headB a ++ (a.links.take i).flatMap lkB ++ [a.links[i].1 % 256] ++ wideL a.links[i].2 2 := by simp [lkB]
    rw [e6]
    exact hu6
  · have : i = a.links.length := by omega
    subst this
    rw [List.take_length] at hu hlen
    simp [hcc, g2.1.len, bsl_one, aCv_int, u8w]
    intro o3 ho3
    refine hu.append (sub_fresh ho3) (by simp) (by rw [List.length_map, List.length_append, headB_len, hlen]; simp; omega) fun v4 H4' H4 hu4 hs4 => ?_
    have e4 : (headB a ++ a.links.flatMap lkB).map enB ++ [[V.int .u8 ((a.stubs.length : Int) % 256)]] = (midB a).map enB := by simp [midB]
    rw [e4] at hu4
    refine ⟨InvB H [] (midB a) stB a.stubs, ⟨a.stubs.length, H4, hs4, ⟨0, v4, by omega, rfl, by omega, by simpa using hu4⟩⟩, ?_⟩
    rintro m ys Hd ⟨i, u, hi, rfl, rfl, hu⟩
    simp
    have hlen2 : ((a.stubs.take i).flatMap stB).length = 5 * i := by rw [fm_len stB_len]; simp; omega
    refine ⟨fun hlt => ?_, fun hge => ?_⟩
    · have hfm := fm_succ (f := stB) hlt
      have hrow : (a.stubs.map enStub).getD i [] = enStub a.stubs[i] := by simp [hlt]
      refine (g2.1.mono hu.sub).idx (by omega) (by simpa using hlt) fun p hp => ?_
      simp only [Int.toNat_natCast, hrow] at hp
      rw [hp.ld]
      simp [stz_eq, putCells]
      refine C_i_big (n := 2) hu (Abs.sub_refl _) (by rw [List.length_append, midB_len, hlen2]; omega) (by omega) fun u6 H6 H6' hu6 hs6 => ?_
      simp [aCv_int, u8w, bsl_one]
      intro o7 ho7
      refine hu6.append (sub_trans hs6 (sub_fresh ho7)) (by simp) (by rw [List.length_map, List.length_append, List.length_append, midB_len, hlen2]; simp; omega) fun v8 H8' H8 hu8 hs8 => ?_
      have e8 : (midB a ++ (a.stubs.take i).flatMap stB ++ wideL a.stubs[i].1 2).map enB ++ [[V.int .u8 (a.stubs[i].2.1 % 256)]] = ((midB a ++ (a.stubs.take i).flatMap stB ++ wideL a.stubs[i].1 2) ++ [a.stubs[i].2.1 % 256]).map enB := by simp
      rw [e8] at hu8
      refine C_i_big (n := 2) hu8 hs8 (by rw [List.length_append, List.length_append, List.length_append, midB_len, hlen2]; simp; omega) (by omega) fun u10 H10 H10' hu10 hs10 => ?_
      rw [i64_in (by omega) (by omega)]
      refine ⟨a.stubs.length - (i + 1), by omega, H10', hs10, i + 1, u10, by omega, rfl, rfl, ?_⟩
      rw [hfm]
      have e6 : midB a ++ ((a.stubs.take i).flatMap stB ++ stB a.stubs[i]) = midB a ++ (a.stubs.take i).flatMap stB ++ wideL a.stubs[i].1 2 ++ [a.stubs[i].2.1 % 256] ++ wideL a.stubs[i].2.2 2 := by simp [stB]
      rw [e6]
      exact hu10
    · have : i = a.stubs.length := by omega
      subst this
      rw [List.take_length] at hu
      exact Ret.of (h _ _ hu)
end Go.Proofs.Ytgoljfhjhcjcpaa
