/-
Contracts: ages.
-/
import Derived.Test.YtcmpkkcbdmllpacDbF
import Derived.Test.YtcmpkkcbdmllpacKindA
set_option linter.all false
namespace Go.Proofs.Ytcmpkkcbdmllpac
open Go Go.Abs Go.Proofs

def agedL (by_ : Int) (a : TLsa) : TLsa := ⟨a.origin, a.seq, min 60 (a.age + by_), a.links, a.stubs⟩
theorem C_s_AgeLsa {b c : Bool} {a : TLsa} {vs : List V} {t : Int} {H : Heap} {K : V → Heap → Prop} (hv : (lsaT b).rd H a vs) (ha : lsaOk a) (ht : 0 ≤ t ∧ t ≤ 60) (h : ∀ us H', Dp (lsaT c) H (agedL t a) us H' → K (.tup [.agg us, .bool true]) H') : ACalls P n_s_AgeLsa [.agg vs, .int .i64 t] H K := by
  have hv' := hv
  obtain ⟨l, s, rfl, h2, h3⟩ := hv
  have hc := lsa_cell h2 h3
  have hl : a.links.length ≤ 1048576 ∧ a.stubs.length ≤ 1048576 := by have := ha.2.2.2.1; have := ha.2.2.2.2.1; omega
  apply W_s_AgeLsa
  unfold F_s_AgeLsa
  simp [hc]
  refine C_s_l05Copy (c := c) hv' hl fun us H1 hus => ?_
  obtain ⟨l', s', Hm, rfl, w1, w2⟩ := lsa_dp hus
  have c1 := w1.cell
  have c2 := w2.cell
  simp [stz_eq, putCells, c1, c2]
  refine C_s_LsaOk ((lsaT b).mono hv' hus.sub) ?_
  simp
  refine ⟨fun q => absurd ha q, fun _ => ?_⟩
  apply C_s_l01In
  simp
  refine ⟨fun q => absurd ht (by omega), fun _ _ => ?_⟩
  have ho := ha.2.2.1
  rw [i64_in (by omega) (by omega)]
  refine ⟨fun q => ?_, fun q => ?_⟩
  · refine Ret.eq (h _ _ (Dp.lsa (a := agedL t a) w1 w2)) ?_
    simp [agedL]
    omega
  · refine Ret.eq (h _ _ (Dp.lsa (a := agedL t a) w1 w2)) ?_
    simp [agedL]
    omega
theorem C_i_Lsa_aged {c : Bool} {a : TLsa} {vs : List V} {t : Int} {H : Heap} {K : V → Heap → Prop} (hv : (lsaT false).rd H a vs) (ha : lsaOk a) (ht : 0 ≤ t ∧ t ≤ 60) (h : ∀ us H', Dp (lsaT c) H (agedL t a) us H' → K (.agg us) H') : ACalls P n_i_Lsa_aged [.agg vs, .int .i64 t] H K := by
  have hv' := hv
  obtain ⟨l, s, rfl, h2, h3⟩ := hv
  have hc := lsa_cell h2 h3
  have hl : a.links.length ≤ 1048576 ∧ a.stubs.length ≤ 1048576 := by have := ha.2.2.2.1; have := ha.2.2.2.2.1; omega
  apply W_i_Lsa_aged
  unfold F_i_Lsa_aged
  simp [hc]
  refine C_i_ownLsa (c := c) hv' hl fun us H1 hus => ?_
  obtain ⟨l', s', Hm, rfl, w1, w2⟩ := lsa_dp hus
  have c1 := w1.cell
  have c2 := w2.cell
  have ho := ha.2.2.1
  simp [stz_eq, putCells, c1, c2, aMins_two]
  rw [i64_in (by omega) (by omega)]
  exact Ret.of (h _ _ (Dp.lsa (a := agedL t a) w1 w2))

def alive (t : Int) (xs : List TLsa) : List TLsa := (xs.map (agedL t)).filter fun a => a.age != 60
def gone (t : Int) (xs : List TLsa) : List Int := ((xs.map (agedL t)).filter fun a => a.age == 60).map TLsa.origin
theorem alive_le (t : Int) : ∀ xs : List TLsa, (alive t xs).length + sumF szl (alive t xs) ≤ xs.length + sumF szl xs ∧ (gone t xs).length ≤ xs.length
  | [] => by simp [alive, gone, sumF]
  | a :: xs => by
    have := alive_le t xs
    have e1 : sumF szl (a :: xs) = szl a + sumF szl xs := by simp [sumF]
    have e2 : szl (agedL t a) = szl a := rfl
    unfold alive gone at *
    by_cases e : (agedL t a).age = 60
    · simp [e] at this ⊢
      rw [e1]
      omega
    · simp [e] at this ⊢
      have e3 : ∀ ys, sumF szl (agedL t a :: ys) = szl a + sumF szl ys := fun ys => by simp [sumF, e2]
      rw [e1, e3]
      omega
def ageR (xs : List TLsa) (t : Int) : List TLsa × List Int := if dbOk xs ∧ (0 ≤ t ∧ t ≤ 60) then (alive t xs, gone t xs) else (xs, [])
theorem ageR_sz {xs : List TLsa} {t : Int} (h : xs.length + sumF szl xs ≤ 1048576) : (ageR xs t).1.length + sumF szl (ageR xs t).1 ≤ 1048576 ∧ (ageR xs t).2.length ≤ 1048576 := by
  unfold ageR
  have := alive_le t xs
  split
  · simp only; omega
  · simp; omega
theorem alive_succ {t : Int} {xs : List TLsa} {i : Nat} (h : i < xs.length) : (if (agedL t xs[i]).age = 60 then alive t (xs.take (i + 1)) = alive t (xs.take i) ∧ gone t (xs.take (i + 1)) = gone t (xs.take i) ++ [xs[i].origin] else alive t (xs.take (i + 1)) = alive t (xs.take i) ++ [agedL t xs[i]] ∧ gone t (xs.take (i + 1)) = gone t (xs.take i)) := by
  unfold alive gone
  rw [List.take_succ_eq_append_getElem h, List.map_append, List.filter_append, List.filter_append, List.map_append]
  generalize (List.map (agedL t) (List.take i xs)) = ys
  split
  · rename_i e
    have ho : (agedL t xs[i]).origin = xs[i].origin := rfl
    simp [e, ho]
  · rename_i e
    simp [e]

theorem dpI_new {c : Bool} {H : Heap} {o : Nat} (ho : H o = none) : Dp (intsT c) H [] [.slice o 0 0 (some 0)] (upd H o ⟨1, []⟩) := flat_dp.2 (Held.new ho)
def InvAs (c : Bool) (H : Heap) (xs : List TLsa) (t : Int) (w : V) (m : Nat) (ys : List V) (Hc : Heap) : Prop :=
  ∃ (i : Nat) (u g : V) (Hx : Heap), i ≤ xs.length ∧ ys = [.box [w], .box [.nils], .box [u], g, .int .i64 (i : Nat)] ∧ m = xs.length - i ∧ Dp (dbT c) H (alive t (xs.take i)) [u] Hx ∧ Dp (intsT c) Hx (gone t (xs.take i)) [g] Hc
theorem C_s_AgeDb {b c : Bool} {xs : List TLsa} {w : V} {t : Int} {H : Heap} {K : V → Heap → Prop} (hv : (dbT b).rd H xs [w]) (hl : xs.length + sumF szl xs ≤ 1048576)
    (h : ∀ u H1, Dp (dbT c) H (ageR xs t).1 [u] H1 → ∀ g H2, Dp (intsT c) H1 (ageR xs t).2 [g] H2 → K (.tup [.agg [u], g]) H2) : ACalls P n_s_AgeDb [.agg [w], .int .i64 t] H K := by
  have hc := rdS_cell hv
  apply W_s_AgeDb
  unfold F_s_AgeDb
  simp [hc]
  refine C_s_DbOk hv ?_
  simp
  have bad : ¬ (dbOk xs ∧ (0 ≤ t ∧ t ≤ 60)) → ACalls P n_s_l06Copy [.agg [w]] H fun v H' => bnd (stz 1 [.nils] 0 v) fun c => bnd (if 1 ≤ c.length then some (V.agg (List.take 1 c)) else none) fun t => Ret K (.tup [t, .nils]) H' := fun hn => by
    refine C_s_l06Copy (c := c) hv hl fun u H1 hu => ?_
    have cu := dpS_cell hu
    simp [stz_eq, putCells, cu]
    unfold ageR at h
    rw [if_neg hn] at h
    exact Ret.of (h _ _ hu _ _ dpS_nil)
  refine ⟨fun q1 => bad fun hh => q1 hh.1, fun q1 => ?_⟩
  apply C_s_l01In
  simp
  refine ⟨fun q2 => bad fun hh => by omega, fun q2 q2' => ?_⟩
  simp [fillZ, stz_eq, putCells, bsl_nil]
  intro o ho
  unfold ageR at h
  rw [if_pos ⟨q1, q2, q2'⟩] at h
  have hlen := db_len q1
  refine ⟨InvAs c H xs t w, ⟨xs.length, Shr.of ⟨0, .nils, _, H, by omega, rfl, by omega, by simpa [alive] using dpS_nil, by simpa [gone] using dpI_new ho⟩⟩, ?_⟩
  rintro m ys Hc ⟨i, u, g, Hx, hi, rfl, rfl, hu, hg⟩
  have cu := dpS_cell hu
  have cg := dpS_cell hg
  simp [hc, rdS_len hv]
  refine ⟨fun hlt => ?_, fun hge => ?_⟩
  · refine rdS_idx ((dbT b).mono hv (sub_trans hu.sub hg.sub)) (by omega) (by simpa using hlt) fun p row hp hr => ?_
    simp only [Int.toNat_natCast] at hr
    have hr' := hr
    obtain ⟨l, s, rfl, _, _⟩ := hr
    rw [hp.ld]
    simp
    refine C_s_AgeLsa (c := c) hr' (q1.1 i hlt) ⟨q2, q2'⟩ fun us H1 hus => ?_
    obtain ⟨l', s', Hm, rfl, w1, w2⟩ := lsa_dp hus
    have c1 := w1.cell
    have c2 := w2.cell
    have hs := alive_succ (t := t) hlt
    simp [stz_eq, putCells, c1, c2]
    rw [i64_in (n := (i : Int) + 1) (by omega) (by omega)]
    refine ⟨fun q => ?_, fun q => ?_⟩
    · rw [if_pos q] at hs
      simp [bsl_one]
      intro o2 ho2
      have gl := (alive_le t (xs.take i)).2
      refine (flat_dp.1 hg).append (sub_trans hus.sub (sub_fresh ho2)) (by simp) (by simp at gl ⊢; omega) fun v' H' H'' ho' hs' => ?_
      refine ⟨xs.length - (i + 1), by omega, H'', hs', i + 1, u, v', Hx, by omega, by simp, rfl, by rw [hs.1]; exact hu, ?_⟩
      rw [hs.2]
      exact flat_dp.2 (by simpa [agedL] using ho')
    · rw [if_neg q] at hs
      simp [bsl_one, c1, c2, cu]
      intro o2 ho2
      obtain ⟨Hm1, g1, g2⟩ := hu.swap hg
      have gl := (alive_le t (xs.take i)).1
      refine dpS_app (T := lsaT c) g2 hus (sub_fresh ho2) (by simp at gl; have : sumF szl (xs.take i) ≤ sumF szl xs := sumF_le i; omega) fun v' H' H'' ho' hs' => ?_
      have cv := dpS_cell ho'
      simp [stz_eq, putCells, cv]
      obtain ⟨Hm2, g3, g4⟩ := g1.swap ho'
      refine ⟨xs.length - (i + 1), by omega, H'', hs', i + 1, v', g, Hm2, by omega, by simp, rfl, by rw [hs.1]; exact g3, by rw [hs.2]; exact g4⟩
  · have : i = xs.length := by omega
    subst this
    rw [List.take_length] at hu hg
    simp [stz_eq, putCells, cu]
    exact Ret.of (h _ _ hu _ _ hg)
def InvAi (c : Bool) (H : Heap) (xs : List TLsa) (t : Int) (m : Nat) (ys : List V) (Hc : Heap) : Prop :=
  ∃ (i : Nat) (u g : V) (Hx : Heap), i ≤ xs.length ∧ ys = [.box [.nils], .box [u], g, .int .i64 (i : Nat)] ∧ m = xs.length - i ∧ Dp (dbT c) H (alive t (xs.take i)) [u] Hx ∧ Dp (intsT c) Hx (gone t (xs.take i)) [g] Hc
theorem C_i_AgeDb {c : Bool} {xs : List TLsa} {w : V} {t : Int} {H : Heap} {K : V → Heap → Prop} (hv : (dbT false).rd H xs [w]) (hl : xs.length + sumF szl xs ≤ 1048576)
    (h : ∀ u H1, Dp (dbT c) H (ageR xs t).1 [u] H1 → ∀ g H2, Dp (intsT c) H1 (ageR xs t).2 [g] H2 → K (.tup [.agg [u], g]) H2) : ACalls P n_i_AgeDb [.agg [w], .int .i64 t] H K := by
  have hc := rdS_cell hv
  apply W_i_AgeDb
  unfold F_i_AgeDb
  simp [hc]
  refine C_i_DbOk hv hl ?_
  simp
  have bad : ¬ (dbOk xs ∧ (0 ≤ t ∧ t ≤ 60)) → ACalls P n_i_ownDb [.agg [w]] H fun v H' => bnd (stz 1 [.nils] 0 v) fun c => bnd (if 1 ≤ c.length then some (V.agg (List.take 1 c)) else none) fun t => Ret K (.tup [t, .nils]) H' := fun hn => by
    refine C_i_ownDb (c := c) hv hl fun u H1 hu => ?_
    have cu := dpS_cell hu
    simp [stz_eq, putCells, cu]
    unfold ageR at h
    rw [if_neg hn] at h
    exact Ret.of (h _ _ hu _ _ dpS_nil)
  refine ⟨fun q1 => bad fun hh => q1 hh.1, fun q1 => ?_⟩
  apply C_i_within
  simp
  refine ⟨fun q2 => bad fun hh => by omega, fun q2 q2' => ?_⟩
  simp [fillZ, stz_eq, putCells, bsl_nil, rdS_len hv]
  intro o ho
  unfold ageR at h
  rw [if_pos ⟨q1, q2, q2'⟩] at h
  have hlen := db_len q1
  refine ⟨InvAi c H xs t, ⟨xs.length, Shr.of ⟨0, .nils, _, H, by omega, rfl, by omega, by simpa [alive] using dpS_nil, by simpa [gone] using dpI_new ho⟩⟩, ?_⟩
  rintro m ys Hc ⟨i, u, g, Hx, hi, rfl, rfl, hu, hg⟩
  have cu := dpS_cell hu
  have cg := dpS_cell hg
  simp
  refine ⟨fun hlt => ?_, fun hge => ?_⟩
  · refine rdS_idx ((dbT false).mono hv (sub_trans hu.sub hg.sub)) (by omega) (by simpa using hlt) fun p row hp hr => ?_
    simp only [Int.toNat_natCast] at hr
    have hr' := hr
    obtain ⟨l, s, rfl, z1, z2⟩ := hr
    have hcc := lsa_cell z1 z2
    rw [hp.ld]
    simp [stz_eq, putCells, hcc]
    refine C_i_Lsa_aged (c := c) hr' (q1.1 i hlt) ⟨q2, q2'⟩ fun us H1 hus => ?_
    obtain ⟨l', s', Hm, rfl, w1, w2⟩ := lsa_dp hus
    have c1 := w1.cell
    have c2 := w2.cell
    have hs := alive_succ (t := t) hlt
    simp [stz_eq, putCells, c1, c2]
    rw [i64_in (n := (i : Int) + 1) (by omega) (by omega)]
    refine ⟨fun q => ?_, fun q => ?_⟩
    · rw [if_pos q] at hs
      simp [bsl_one]
      intro o2 ho2
      have gl := (alive_le t (xs.take i)).2
      refine (flat_dp.1 hg).append (sub_trans hus.sub (sub_fresh ho2)) (by simp) (by simp at gl ⊢; omega) fun v' H' H'' ho' hs' => ?_
      refine ⟨xs.length - (i + 1), by omega, H'', hs', i + 1, u, v', Hx, by omega, by simp, rfl, by rw [hs.1]; exact hu, ?_⟩
      rw [hs.2]
      exact flat_dp.2 (by simpa [agedL] using ho')
    · rw [if_neg q] at hs
      simp [bsl_one, c1, c2, cu]
      intro o2 ho2
      obtain ⟨Hm1, g1, g2⟩ := hu.swap hg
      have gl := (alive_le t (xs.take i)).1
      refine dpS_app (T := lsaT c) g2 hus (sub_fresh ho2) (by simp at gl; have : sumF szl (xs.take i) ≤ sumF szl xs := sumF_le i; omega) fun v' H' H'' ho' hs' => ?_
      have cv := dpS_cell ho'
      simp [stz_eq, putCells, cv]
      obtain ⟨Hm2, g3, g4⟩ := g1.swap ho'
      refine ⟨xs.length - (i + 1), by omega, H'', hs', i + 1, v', g, Hm2, by omega, by simp, rfl, by rw [hs.1]; exact g3, by rw [hs.2]; exact g4⟩
  · have : i = xs.length := by omega
    subst this
    rw [List.take_length] at hu hg
    simp [stz_eq, putCells, cu]
    exact Ret.of (h _ _ hu _ _ hg)
end Go.Proofs.Ytcmpkkcbdmllpac
