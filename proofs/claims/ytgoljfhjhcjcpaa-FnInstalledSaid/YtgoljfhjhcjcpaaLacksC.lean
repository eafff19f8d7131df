/-
Contracts: what is lacking.
-/
import Derived.Test.YtgoljfhjhcjcpaaInstC2
import Derived.Test.YtgoljfhjhcjcpaaKindA
set_option linter.all false
namespace Go.Proofs.Ytgoljfhjhcjcpaa
open Go Go.Abs Go.Proofs

def lackL (a bs : List TLsa) : List Int := (bs.filter fun l => decide (offerR a l = 0)).map (·.origin)
def lacksR (a bs : List TLsa) : List Int := if dbOk a ∧ dbOk bs then lackL a bs else []
theorem lack_succ {a bs : List TLsa} {i : Nat} (h : i < bs.length) : lackL a (bs.take (i + 1)) = if offerR a bs[i] = 0 then lackL a (bs.take i) ++ [bs[i].origin] else lackL a (bs.take i) := by
  unfold lackL
  rw [List.take_succ_eq_append_getElem h, List.filter_append, List.map_append]
  by_cases q : offerR a bs[i] = 0
  · simp [q]
  · simp [q]
theorem lack_len (a bs : List TLsa) : (lackL a bs).length ≤ bs.length := by
  unfold lackL
  rw [List.length_map]
  exact List.length_filter_le _ _
theorem lacksR_sz {a bs : List TLsa} (h : bDb bs) : bIntS (lacksR a bs) := by
  unfold bDb at h
  unfold lacksR bIntS
  split
  · have := lack_len a bs
    omega
  · simp
def InvLak (H : Heap) (pre : List V) (a bs : List TLsa) (m : Nat) (ys : List V) (Hc : Heap) : Prop :=
  ∃ (i : Nat) (u : V), i ≤ bs.length ∧ ys = pre ++ [u, .int .i64 (i : Nat)] ∧ m = bs.length - i ∧ Held H 1 ((lackL a (bs.take i)).map ri) u Hc
set_option maxHeartbeats 1000000 in
theorem C_s_Lacks {b b' : Bool} {xs bs : List TLsa} {v w : V} {H : Heap} {K : V → Heap → Prop} (hv : (dbT b).rd H xs [v]) (hlx : xs.length + sumF szl xs ≤ 1048576) (hw : (dbT b').rd H bs [w]) (_ : bs.length + sumF szl bs ≤ 1048576)
    (h : ∀ g H2, Dp (intsT false) H (lacksR xs bs) [g] H2 → K g H2) : ACalls P n_s_Lacks [.agg [v], .agg [w]] H K := by
  have cv := rdS_cell hv
  have cw := rdS_cell hw
  apply W_s_Lacks
  unfold F_s_Lacks
  simp [cv, cw, bsl_nil]
  intro o ho
  have hs := sub_fresh (x := ⟨1, []⟩) ho
  have no : ¬ (dbOk xs ∧ dbOk bs) → Ret K .nils (upd H o ⟨1, []⟩) := fun q => by
    unfold lacksR at h
    rw [if_neg q] at h
    exact Ret.shr (h _ _ dpS_nil) rfl hs
  refine C_s_DbOk ((dbT b).mono hv hs) ?_
  simp
  refine ⟨fun q => no fun hh => q hh.1, fun h1 => ?_⟩
  refine C_s_DbOk ((dbT b').mono hw hs) ?_
  simp
  refine ⟨fun q => no fun hh => q hh.2, fun h2 => ?_⟩
  unfold lacksR at h
  rw [if_pos ⟨h1, h2⟩] at h
  have hbl := db_len h2
  refine ⟨InvLak H [.box [v], .box [w]] xs bs, ⟨bs.length, Shr.of ⟨0, .slice o 0 0 (some 0), by omega, rfl, by omega, by simpa [lackL] using Held.new ho⟩⟩, ?_⟩
  rintro m ys Hc ⟨i, u, hi, rfl, rfl, hu⟩
  have cu := hu.cell
  have hll := lack_len xs (bs.take i)
  simp [cv, cw, rdS_len hw]
  refine ⟨fun hlt => ?_, fun hge => ?_⟩
  · have hsucc := lack_succ (a := xs) hlt
    have hwc := (dbT b').mono hw hu.sub
    refine rdS_idx hwc (by omega) (by simpa using hlt) fun p row hp hr => ?_
    simp only [Int.toNat_natCast] at hr
    rw [hp.ld]
    have hr' := hr
    obtain ⟨l1, s1, rfl, _, _⟩ := hr
    simp
    refine C_s_Install (c := false) ((dbT b).mono hv hu.sub) hr' hlx fun g H1 hg => ?_
    have cg := dpS_cell hg
    have hcode : (installR xs bs[i]).2 = offerR xs bs[i] := by
      unfold installR
      rw [if_pos ⟨h1, h2.1 i hlt⟩]
      split
      · rename_i e; simp [e]
      · rfl
    simp [aExtract, hcode]
    intro o2 ho2
    rw [aSt_at (upd_eq H1 o2 _)]
    simp [stz_eq, putCells, cg]
    have hs2 : Abs.sub Hc (upd H1 o2 ⟨1, [[g]]⟩) := sub_trans hg.sub (sub_fresh ho2)
    simp at hll
    rw [i64_in (n := (i : Int) + 1) (by omega) (by omega)]
    refine ⟨fun q => ?_, fun q => ?_⟩
    · rw [if_pos q] at hsucc
      refine rdS_idx ((dbT b').mono hwc hs2) (by omega) (by simpa using hlt) fun p row hp hr => hp.fld fun q hq => ?_
      simp only [Int.toNat_natCast] at hr
      obtain ⟨l2, s2, rfl, _, _⟩ := hr
      rw [hq.ld]
      simp [bsl_one]
      intro o3 ho3
      refine hu.append (sub_trans hs2 (sub_fresh ho3)) (by simp) (by simp; omega) fun v' H' H'' ho' hs' => ?_
      refine ⟨bs.length - (i + 1), by omega, H'', hs', i + 1, v', by omega, by simp, rfl, ?_⟩
      rw [hsucc, List.map_append]
      exact ho'
    · rw [if_neg q] at hsucc
      exact ⟨bs.length - (i + 1), by omega, Hc, hs2, i + 1, u, by omega, by simp, rfl, by rw [hsucc]; exact hu⟩
  · have : i = bs.length := by omega
    subst this
    rw [List.take_length] at hu
    exact Ret.of (h _ _ (flat_dp.2 hu))
set_option maxHeartbeats 1000000 in
theorem C_i_Lacks {b b' : Bool} {xs bs : List TLsa} {v w : V} {H : Heap} {K : V → Heap → Prop} (hv : (dbT b).rd H xs [v]) (hlx : xs.length + sumF szl xs ≤ 1048576) (hw : (dbT b').rd H bs [w]) (hlb : bs.length + sumF szl bs ≤ 1048576)
    (h : ∀ g H2, Dp (intsT false) H (lacksR xs bs) [g] H2 → K g H2) : ACalls P n_i_Lacks [.agg [v], .agg [w]] H K := by
  have cv := rdS_cell hv
  have cw := rdS_cell hw
  apply W_i_Lacks
  unfold F_i_Lacks
  simp [cv, cw, bsl_nil]
  have no : ¬ (dbOk xs ∧ dbOk bs) → Ret K .nils H := fun q => by
    unfold lacksR at h
    rw [if_neg q] at h
    exact Ret.of (h _ _ dpS_nil)
  refine C_i_DbOk hv hlx ?_
  simp
  refine ⟨fun q => no fun hh => q hh.1, fun h1 => ?_⟩
  refine C_i_DbOk hw hlb ?_
  simp
  refine ⟨fun q => no fun hh => q hh.2, fun h2 => ?_⟩
  unfold lacksR at h
  rw [if_pos ⟨h1, h2⟩] at h
  have hbl := db_len h2
  intro o ho
  simp [rdS_len hw]
  refine ⟨InvLak H [.box [v]] xs bs, ⟨bs.length, Shr.of ⟨0, .slice o 0 0 (some 0), by omega, rfl, by omega, by simpa [lackL] using Held.new ho⟩⟩, ?_⟩
  rintro m ys Hc ⟨i, u, hi, rfl, rfl, hu⟩
  have cu := hu.cell
  have hll := lack_len xs (bs.take i)
  simp
  refine ⟨fun hlt => ?_, fun hge => ?_⟩
  · have hsucc := lack_succ (a := xs) hlt
    have hwc := (dbT b').mono hw hu.sub
    refine rdS_idx hwc (by omega) (by simpa using hlt) fun p row hp hr => ?_
    simp only [Int.toNat_natCast] at hr
    rw [hp.ld]
    have hr' := hr
    obtain ⟨l1, s1, rfl, g1, g2⟩ := hr
    have hcc := lsa_cell g1 g2
    simp [stz_eq, putCells, hcc, cv]
    refine C_i_Db_offer ((dbT b).mono hv hu.sub) hr' h1 (h2.1 i hlt) ?_
    simp
    simp at hll
    rw [i64_in (n := (i : Int) + 1) (by omega) (by omega)]
    refine ⟨fun q => ?_, fun q => ?_⟩
    · rw [if_pos q] at hsucc
      simp [bsl_one]
      intro o3 ho3
      refine hu.append (sub_fresh ho3) (by simp) (by simp; omega) fun v' H' H'' ho' hs' => ?_
      refine ⟨bs.length - (i + 1), by omega, H'', hs', i + 1, v', by omega, by simp, rfl, ?_⟩
      rw [hsucc, List.map_append]
      exact ho'
    · rw [if_neg q] at hsucc
      exact ⟨bs.length - (i + 1), by omega, Shr.of ⟨i + 1, u, by omega, by simp, rfl, by rw [hsucc]; exact hu⟩⟩
  · have : i = bs.length := by omega
    subst this
    rw [List.take_length] at hu
    exact Ret.of (h _ _ (flat_dp.2 hu))
end Go.Proofs.Ytgoljfhjhcjcpaa
