/-
Contracts of PlayNear and FullTimes.
-/
import Derived.Test.YtlmgahcpdapbdaaPlay
set_option linter.all false
namespace Go.Proofs.Ytlmgahcpdapbdaa
open Go Go.Abs Go.Proofs

theorem C_i_PlayNear_1 {i : V} {a b : TNear} {k : Int} {o : Nat} {rows : List (List V)} {H Hc : Heap} {K : V → Heap → Prop} (hc : Cap H o 1 rows Hc) (hb : rows.length ≤ 1000000) (h : ∀ u H', Shr (Cap H o 1 (rows ++ [ri k])) H' → K u H') :
    ACalls P n_i_PlayNear_1 [i, vN a, vN b, .int .i64 k, .ptr o 0 0] Hc K := by
  obtain ⟨u, hu⟩ := hc
  have ho : Hc o = some ⟨1, [[u]]⟩ := hu.sub _ _ (upd_eq _ _ _)
  apply W_i_PlayNear_1
  unfold F_i_PlayNear_1
  simp [aLd, Abs.rowAt, ho, bsl_one]
  intro o3 h3
  refine hu.append (sub_fresh h3) (by simp) (by simp; omega) fun v' H' H'' ho' hs' => ?_
  have h4 : H' o = some ⟨1, [[u]]⟩ := hs' _ _ (ho'.sub _ _ (upd_eq _ _ _))
  have hcell := ho'.cell
  rw [aSt_own h4 (row := [u]) (row' := [v']) (by simp) (by rw [stz_eq (by rw [hcell.1]; rfl) (by simp) (by rw [hcell.1]; simp [hcell.2])]; rw [hcell.1]; rfl)]
  simp
  refine Ret.of (h _ _ ⟨upd H'' o ⟨1, [[v']]⟩, sub_upd2 hs', v', ?_⟩)
  have := ho'.rebase (o := o) ⟨1, [[v']]⟩ (by simp)
  rwa [upd_twice] at this

theorem C_i_PlayNear {es : List TNearEvent} {v : V} {H : Heap} {K : V → Heap → Prop} (hv : Rd H 3 v (es.map enNearEvent)) (h : ∀ u Ha H', Abs.sub H Ha → Own Ha 1 ((played es).2.map ri) u H' → K (.tup [vN (played es).1, u]) H') :
    ACalls P n_i_PlayNear [v] H K := by
  apply W_i_PlayNear
  unfold F_i_PlayNear
  simp [hv.len, fillZ, stz_eq, putCells, bsl_nil]
  refine ⟨fun hb => ?_, fun hs o7 ho7 o8 ho8 => ?_⟩
  · have e : played es = ((0, 0, 0), []) := by unfold played; rw [if_pos (by omega)]
    rw [e] at h
    exact Ret.of (h .nils H H (Abs.sub_refl _) (.inl ⟨rfl, rfl, rfl⟩))
  have hn := (upd_none ho8).2
  have e : played es = play es := by unfold played; rw [if_neg (by omega)]
  rw [e] at h
  simp [aSt, stz_eq, putCells]
  refine C_i_played (es := es) (fun i Hc => Cap H o8 1 ((play (es.take i)).2.map ri) Hc) (by omega) (fun i Hc hc => hv.mono (hc.sub hn)) (Shr.of (Cap.start ho7 ho8)) ?_ ?_ (by simpa using hv.len)
  · rintro i hi Hc K' hI hk
    refine callK_fn E_i_PlayNear_1 ?_
    refine C_i_PlayNear_1 hI (by simp [play_len (Nat.le_of_lt hi)]; omega) fun u H' hh => hk u H' ?_
    rw [play_succ hi]
    simpa using hh
  · rintro Hc ⟨u, hu⟩
    rw [List.take_length] at hu
    have ho : Hc o8 = some ⟨1, [[u]]⟩ := hu.sub _ _ (upd_eq _ _ _)
    simp [stz_eq, putCells]
    refine ⟨Hc, by simp, ?_⟩
    simp [aLd, Abs.rowAt, ho]
    exact Ret.eq (h u _ Hc (sub_fresh hn) hu) rfl

end Go.Proofs.Ytlmgahcpdapbdaa
