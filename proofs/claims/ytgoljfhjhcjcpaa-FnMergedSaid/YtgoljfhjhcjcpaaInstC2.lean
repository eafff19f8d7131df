/-
Contracts: offers; an advertisement is installed (the reference's way); what is lacking.
-/
import Derived.Test.YtgoljfhjhcjcpaaInstC
set_option linter.all false
namespace Go.Proofs.Ytgoljfhjhcjcpaa
open Go Go.Abs Go.Proofs

theorem find_case {xs : List TLsa} {o : Int} {i : Nat} (hd : dbOk xs) (h2 : ∀ j, j < i → og xs j < o) (h3 : ∀ j, i ≤ j → j < xs.length → o ≤ og xs j) :
    (∃ h : i < xs.length, og xs i = o ∧ findR xs o = (xs[i], true)) ∨ ((¬ (i < xs.length ∧ og xs i = o)) ∧ findR xs o = (zeroL, false)) := by
  by_cases hf : i < xs.length ∧ og xs i = o
  · exact .inl ⟨hf.1, hf.2, findR_at hd hf.1 hf.2⟩
  · refine .inr ⟨hf, findR_no fun j hj => ?_⟩
    by_cases e : j < i
    · have := h2 j e; omega
    · by_cases e2 : j = i
      · subst e2; exact fun hh => hf ⟨hj, hh⟩
      · have := og_lt hd (i := i) (j := j) (by omega) hj
        have := h3 i (by omega) (by omega)
        omega
theorem findR_ok {xs : List TLsa} {o : Int} (hd : dbOk xs) (h : (findR xs o).2 = true) : lsaOk (findR xs o).1 ∧ (findR xs o).1.origin = o := by
  unfold findR at *
  rw [if_pos hd] at *
  cases hf : xs.find? (fun a => a.origin == o) with
  | none => rw [hf] at h; simp at h
  | some a =>
    have h1 := List.mem_of_find?_eq_some hf
    have h2 := List.find?_some hf
    obtain ⟨i, hi, rfl⟩ := List.mem_iff_getElem.1 h1
    exact ⟨hd.1 i hi, by simpa using h2⟩
theorem C_i_Db_offer {b b' : Bool} {xs : List TLsa} {w : V} {l : TLsa} {r : List V} {H : Heap} {K : V → Heap → Prop} (hv : (dbT b).rd H xs [w]) (hr : (lsaT b').rd H l r) (hd : dbOk xs) (hl : lsaOk l) (h : K (.int .i64 (offerR xs l)) H) : ACalls P n_i_Db_offer [.agg [w], .agg r] H K := by
  have cw := rdS_cell hv
  have hr' := hr
  obtain ⟨lv, sv, rfl, g1, g2⟩ := hr
  have hcc := lsa_cell g1 g2
  apply W_i_Db_offer
  unfold F_i_Db_offer
  simp [cw, hcc]
  refine C_i_Db_find hv hd fun i h1 h2 h3 => ?_
  simp
  unfold offerR at h
  rcases find_case hd h2 h3 with ⟨hi, ho, hf⟩ | ⟨hf, hn⟩
  · rw [hf] at h
    simp only [if_true] at h
    have hq : ¬ (xs.length ≤ i ∨ ¬ og xs i = l.origin) := fun q => q.elim (fun q => by omega) (fun q => q ho)
    refine ⟨fun q => absurd q hq, fun _ _ => ?_⟩
    refine ⟨H, Abs.sub_refl _, ?_⟩
    refine rdS_idx hv (by omega) (by simpa using hi) fun p row hp hrw => ?_
    simp only [Int.toNat_natCast] at hrw
    rw [hp.ld]
    have hrw' := hrw
    obtain ⟨l1, s1, rfl, _, _⟩ := hrw
    simp
    refine C_i_newer hr' hrw' hl (hd.1 i hi) ⟨Abs.sub_refl _, ?_⟩
    simp
    refine ⟨fun q => ?_, fun q => ⟨fun q2 => ?_, fun q2 => ?_⟩⟩
    · rw [if_pos q] at h; exact Ret.of h
    · rw [if_neg q, if_pos q2] at h; exact Ret.of h
    · rw [if_neg q, if_neg q2] at h; exact Ret.of h
  · rw [hn] at h
    simp only [Bool.false_eq_true, if_false] at h
    refine ⟨fun _ => ?_, fun q1 q2 => absurd ⟨q1, q2⟩ hf⟩
    refine ⟨fun q => ?_, fun q => ?_⟩
    · rw [if_pos q] at h; exact Ret.of h
    · rw [if_neg q] at h; exact Ret.of h

def JF (H : Heap) (w : V) (r : List V) (ys : List V) (Hc : Heap) : Prop := ys = [.box [w], .box r, .box [.nils]] ∧ Hc = H
set_option maxHeartbeats 2000000 in
theorem C_s_Install {b b' c : Bool} {xs : List TLsa} {w : V} {l : TLsa} {r : List V} {H : Heap} {K : V → Heap → Prop} (hv : (dbT b).rd H xs [w]) (hr : (lsaT b').rd H l r) (hb : xs.length + sumF szl xs ≤ 1048576)
    (h : ∀ u H', Dp (dbT c) H (installR xs l).1 [u] H' → K (.tup [.agg [u], .int .i64 (installR xs l).2]) H') : ACalls P n_s_Install [.agg [w], .agg r] H K := by
  have cw := rdS_cell hv
  have hr' := hr
  obtain ⟨lv, sv, rfl, g1, g2⟩ := hr
  have hcc := lsa_cell g1 g2
  apply W_s_Install
  apply fold_s_Install
  unfold F'_s_Install
  simp [cw, hcc]
  have copy : ∀ (k : Int) (Hc : Heap), Abs.sub H Hc → (installR xs l) = (xs, k) → ACalls P n_s_l06Copy [.agg [w]] Hc fun v2 H3 =>
      bnd (stz 1 [.nils] 0 v2) fun c4 => bnd (if 1 ≤ c4.length then some (V.agg (c4.take 1)) else none) fun t5 => Ret K (.tup [t5, .int .i64 k]) H3 := fun k Hc hs e => by
    rw [e] at h
    refine C_s_l06Copy (c := c) ((dbT b).mono hv hs) hb fun u H1 hu => ?_
    have cu := dpS_cell hu
    simp [stz_eq, putCells, cu]
    exact Ret.dp (f := fun us => V.tup [.agg us, .int .i64 k]) hu hs (fun us H'' hd => by
      obtain ⟨u', rfl⟩ : ∃ u', us = [u'] := by
        obtain ⟨es, ⟨w', rows, ess, e, _⟩, _⟩ := hd
        exact ⟨w', e⟩
      exact h u' H'' hd)
  refine C_s_DbOk hv ?_
  simp
  refine ⟨fun q => ?_, fun hd => ?_⟩
  · exact copy 3 H (Abs.sub_refl _) (by unfold installR; rw [if_neg fun hh => q hh.1])
  refine C_s_LsaOk hr' ?_
  simp
  refine ⟨fun q => ?_, fun hl => ?_⟩
  · exact copy 3 H (Abs.sub_refl _) (by unfold installR; rw [if_neg fun hh => q hh.2])
  have hin : installR xs l = if offerR xs l = 0 then (putL l xs, 0) else (xs, offerR xs l) := by unfold installR; rw [if_pos ⟨hd, hl⟩]
  have rest : offerR xs l = 0 → ∀ ys Hc, JF H w (lsaRow l lv sv) ys Hc → restsInstall_0 K ys Hc := by
    rintro h0 ys Hc ⟨rfl, rfl⟩
    rw [hin, if_pos h0] at h
    exact inst_rest hv hr' hd hl h
  refine C_s_FindLsa (c := c) hv hb fun us H2 hus => ?_
  have hus' := hus
  obtain ⟨l', s', Hm, rfl, w1, w2⟩ := lsa_dp hus
  have c1 := w1.cell
  have c2 := w2.cell
  simp [aExtract, stz_eq, putCells, c1, c2]
  have hnw := newer_in l (findR xs l.origin).1
  cases hf : (findR xs l.origin).2 with
  | false =>
    have hof : offerR xs l = if l.age = 60 then 1 else 0 := by unfold offerR; rw [hf]; simp
    simp
    refine ⟨fun q => ?_, fun q => ?_⟩
    · rw [if_pos q] at hof
      exact copy 1 H2 hus'.sub (by rw [hin, hof]; simp)
    · rw [if_neg q] at hof
      exact ⟨JF H w (lsaRow l lv sv), ⟨H, hus'.sub, rfl, rfl⟩, rest hof⟩
  | true =>
    obtain ⟨hok, hor⟩ := findR_ok hd hf
    have hof : offerR xs l = if newerR l (findR xs l.origin).1 = 1 then 0 else if newerR l (findR xs l.origin).1 = 0 then 1 else 2 := by unfold offerR; rw [hf]; simp
    simp
    refine ⟨fun ys Hc => offerR xs l = 0 ∧ JF H w (lsaRow l lv sv) ys Hc, ?_, fun ys Hc hj => rest hj.1 ys Hc hj.2⟩
    · refine C_s_Newer ((lsaT b').mono hr' hus'.sub) hus'.rd hl hok hor.symm ?_
      simp
      refine ⟨fun q => ?_, fun q => ⟨fun q2 => ?_, fun q2 => ?_⟩⟩
      · exact copy 1 H2 hus'.sub (by rw [hin, hof, q]; simp)
      · exact copy 2 H2 hus'.sub (by rw [hin, hof, q2]; simp)
      · exact ⟨H, hus'.sub, by rw [hof, if_pos (by omega)], rfl, rfl⟩
end Go.Proofs.Ytgoljfhjhcjcpaa
