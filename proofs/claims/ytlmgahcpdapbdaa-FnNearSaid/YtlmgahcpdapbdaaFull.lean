/-
Contracts of FullTimes.
-/
import Derived.Test.YtlmgahcpdapbdaaPlay2
set_option linter.all false
namespace Go.Proofs.Ytlmgahcpdapbdaa
open Go Go.Abs Go.Proofs

def isFull (es : List TNearEvent) (i : Nat) : Prop := ∃ h : i < es.length, (stepE (play (es.take i)).1 es[i]).2 = 1 ∧ (stepE (play (es.take i)).1 es[i]).1.1 = 4
instance (es : List TNearEvent) (i : Nat) : Decidable (isFull es i) := by unfold isFull; infer_instance
def fulls (es : List TNearEvent) : Nat → List Int
  | 0 => []
  | i + 1 => fulls es i ++ (if isFull es i then [(i : Int)] else [])
theorem fulls_len (es : List TNearEvent) : ∀ i, (fulls es i).length ≤ i
  | 0 => by simp [fulls]
  | i + 1 => by have := fulls_len es i; unfold fulls; rw [List.length_append]; split <;> simp <;> omega
def fullTimes (es : List TNearEvent) : List Int := if 300 < es.length then [] else fulls es es.length
theorem fullTimes_len (es : List TNearEvent) : (fullTimes es).length ≤ 300 := by
  unfold fullTimes
  split
  · simp
  · have := fulls_len es es.length; omega
theorem full_iff {es : List TNearEvent} {i : Nat} (h : i < es.length) : isFull es i ↔ (play (es.take i)).1.1 ≠ 4 ∧ (play (es.take (i + 1))).1.1 = 4 := by
  rw [play_succ h]
  unfold isFull
  simp only [h, exists_true_left]
  generalize (play (es.take i)).1 = n
  generalize es[i] = e
  simp only [stepE, stepNear]
  split
  · simp only
    split <;> rename_i h5 <;> constructor <;> rintro ⟨h6, h7⟩ <;> simp_all <;> omega
  · simp
theorem fulls_yes {es : List TNearEvent} {i : Nat} (h : isFull es i) : fulls es (i + 1) = fulls es i ++ [(i : Int)] := by
  rw [fulls, if_pos h]
theorem fulls_no {es : List TNearEvent} {i : Nat} (h : ¬ isFull es i) : fulls es (i + 1) = fulls es i := by
  rw [fulls, if_neg h, List.append_nil]

def InvF (H : Heap) (es : List TNearEvent) (n : Nat) (ys : List V) (Hc : Heap) : Prop :=
  ∃ i u, i ≤ es.length ∧ ys = [u, .box [.int .i64 (play (es.take i)).1.1, .int .i64 (play (es.take i)).1.2.1, .int .i64 (play (es.take i)).1.2.2], .int .i64 (i : Nat)] ∧ n = es.length - i ∧ Own H 1 ((fulls es i).map ri) u Hc

theorem C_s_FullTimes {es : List TNearEvent} {v : V} {H : Heap} {K : V → Heap → Prop} (hv : Rd H 3 v (es.map enNearEvent)) (h : ∀ u H', Own H 1 ((fullTimes es).map ri) u H' → K u H') :
    ACalls P n_s_FullTimes [v] H K := by
  apply W_s_FullTimes
  unfold F_s_FullTimes
  simp [hv.len, fillZ, stz_eq, putCells, bsl_nil]
  refine fun o ho => ⟨fun hb => ?_, fun hs => ?_⟩
  · have e : fullTimes es = [] := by unfold fullTimes; rw [if_pos (by omega)]
    rw [e] at h
    exact Ret.shr (h .nils H (.inl ⟨rfl, rfl, rfl⟩)) rfl (sub_fresh ho)
  · refine ⟨InvF H es, ⟨es.length, Shr.of ⟨0, _, by omega, rfl, by omega, .inr (.inr ⟨o, rfl, ho, rfl, rfl⟩)⟩⟩, ?_⟩
    rintro n ys Hc ⟨i, u, hi, rfl, rfl, hu⟩
    simp
    refine ⟨fun hlt => ⟨Hc, by simp, ?_⟩, fun hge => ?_⟩
    · refine (hv.mono hu.sub).idx (by omega) (by simpa using hlt) fun p hp => ?_
      simp only [hp.ld]
      simp [hlt]
      apply C_s_StepNear
      simp [stz_eq, putCells, bsl_one]
      rw [i64_in (n := (i : Int) + 1) (by omega) (by omega)]
      refine ⟨fun h1 => ⟨fun h2 => ?_, fun h2 => ?_⟩, fun h1 => ?_⟩
      · have hf : isFull es i := ⟨hlt, h1, h2⟩
        intro o2 ho2
        refine hu.append (sub_fresh ho2) (by simp) (by have := fulls_len es i; simp; omega) fun v' H' H'' ho' hs' => ?_
        refine ⟨es.length - (i + 1), by omega, H'', hs', i + 1, v', by omega, ?_, rfl, ?_⟩
        · rw [play_succ hlt]; simp
        · rw [fulls_yes hf]; simpa using ho'
      · have hf : ¬ isFull es i := fun ⟨_, _, h4⟩ => h2 h4
        refine ⟨es.length - (i + 1), by omega, Shr.of ⟨i + 1, u, by omega, ?_, rfl, ?_⟩⟩
        · rw [play_succ hlt]; simp
        · rw [fulls_no hf]; exact hu
      · have hf : ¬ isFull es i := fun ⟨_, h3, _⟩ => h1 h3
        refine ⟨es.length - (i + 1), by omega, Shr.of ⟨i + 1, u, by omega, ?_, rfl, ?_⟩⟩
        · rw [play_succ hlt]; simp
        · rw [fulls_no hf]; exact hu
    · have : i = es.length := by omega
      subst this
      have e : fullTimes es = fulls es es.length := by unfold fullTimes; rw [if_neg (by omega)]
      rw [e] at h
      exact Ret.of (h u Hc hu)

theorem C_slices_Clip {rows : List (List V)} {u : V} {H0 H Hb : Heap} {K : V → Heap → Prop} (hu : Own H0 1 rows u H) (hs : Abs.sub H Hb) (hn : u ≠ .nils) (h : ∀ w, Held H0 1 rows w H → K w Hb) : ACalls P n_slices_Clip_int_int [u] Hb K := by
  apply W_slices_Clip_int_int
  unfold F_slices_Clip_int_int
  rcases hu with ⟨rfl, _⟩ | ⟨o, h1, rfl, rfl⟩ | ⟨o, rfl, h1, rfl, rfl⟩
  · exact absurd rfl hn
  · have := hs _ _ (upd_eq _ _ _)
    simp [aSlice, this, bound, natOf]
    exact Ret.of (h _ (.inr ⟨o, _, h1, rfl, by simp, rfl⟩))
  · have := hs _ _ (upd_eq _ _ _)
    simp [aSlice, this, bound, natOf]
    exact Ret.of (h _ (.inr ⟨o, _, h1, rfl, by simp, rfl⟩))

def CapN (H : Heap) (o : Nat) (rows : List (List V)) (Hc : Heap) : Prop := ∃ u, u ≠ .nils ∧ Own (upd H o ⟨1, [[u]]⟩) 1 rows u Hc
theorem C_i_FullTimes_1 {i : Nat} {a b : TNear} {k : V} {o : Nat} {rows : List (List V)} {H Hc : Heap} {K : V → Heap → Prop} (hc : CapN H o rows Hc) (hb : rows.length ≤ 1000000) (h : ∀ u H', Shr (CapN H o (rows ++ (if a.1 ≠ 4 ∧ b.1 = 4 then [ri (i : Int)] else []))) H' → K u H') :
    ACalls P n_i_FullTimes_1 [.int .i64 (i : Nat), vN a, vN b, k, .ptr o 0 0] Hc K := by
  obtain ⟨u, hn, hu⟩ := hc
  have ho : Hc o = some ⟨1, [[u]]⟩ := hu.sub _ _ (upd_eq _ _ _)
  apply W_i_FullTimes_1
  unfold F_i_FullTimes_1
  simp [aLd, Abs.rowAt, ho, bsl_one]
  refine ⟨fun h1 => ⟨fun h2 => ?_, fun h2 => ?_⟩, fun h1 => ?_⟩
  · intro o3 h3
    rw [if_pos ⟨h1, h2⟩] at h
    refine hu.append (sub_fresh h3) (by simp) (by simp; omega) fun v' H' H'' ho' hs' => ?_
    have h4 : H' o = some ⟨1, [[u]]⟩ := hs' _ _ (ho'.sub _ _ (upd_eq _ _ _))
    have hcell := ho'.cell
    rw [aSt_own h4 (row := [u]) (row' := [v']) (by simp) (by rw [stz_eq (by rw [hcell.1]; rfl) (by simp) (by rw [hcell.1]; simp [hcell.2])]; rw [hcell.1]; rfl)]
    simp
    refine Ret.of (h _ _ ⟨upd H'' o ⟨1, [[v']]⟩, sub_upd2 hs', v', ho'.some (by simp), ?_⟩)
    have := ho'.rebase (o := o) ⟨1, [[v']]⟩ (by simp)
    rwa [upd_twice] at this
  · rw [if_neg (fun hh => h2 hh.2), List.append_nil] at h
    exact Ret.of (h _ _ (Shr.of ⟨u, hn, hu⟩))
  · rw [if_neg (fun hh => hh.1 h1), List.append_nil] at h
    exact Ret.of (h _ _ (Shr.of ⟨u, hn, hu⟩))

theorem C_i_FullTimes {es : List TNearEvent} {v : V} {H : Heap} {K : V → Heap → Prop} (hv : Rd H 3 v (es.map enNearEvent)) (h : ∀ u Ha H', Abs.sub H Ha → Held Ha 1 ((fullTimes es).map ri) u H' → K u H') :
    ACalls P n_i_FullTimes [v] H K := by
  apply W_i_FullTimes
  unfold F_i_FullTimes
  simp [hv.len, fillZ, stz_eq, putCells, bsl_nil]
  refine ⟨fun hb => ?_, fun hs o7 ho7 o8 ho8 => ?_⟩
  · have e : fullTimes es = [] := by unfold fullTimes; rw [if_pos (by omega)]
    rw [e] at h
    exact Ret.of (h .nils H H (Abs.sub_refl _) (.inl ⟨rfl, rfl, rfl⟩))
  have hn := (upd_none ho8).2
  have hne := (upd_none ho8).1
  have e : fullTimes es = fulls es es.length := by unfold fullTimes; rw [if_neg (by omega)]
  rw [e] at h
  simp [aSt, stz_eq, putCells]
  refine C_i_played (es := es) (fun i Hc => CapN H o8 ((fulls es i).map ri) Hc) (by omega) (fun i Hc ⟨u, _, hu⟩ => hv.mono (sub_trans (sub_fresh hn) hu.sub)) (Shr.of ?_) ?_ ?_ (by simpa using hv.len)
  · exact ⟨_, by simp, .inr (.inr ⟨o7, rfl, by rw [upd_off (Ne.symm hne)]; exact ho7, rfl, upd_comm _ _ (Ne.symm hne)⟩)⟩
  · rintro i hi Hc K' hI hk
    refine callK_fn E_i_FullTimes_1 ?_
    refine C_i_FullTimes_1 hI (by have := fulls_len es i; simp; omega) fun u H' hh => hk u H' ?_
    have := full_iff hi
    by_cases hf : isFull es i
    · rw [if_pos (this.1 hf)] at hh
      rw [fulls_yes hf]
      simpa using hh
    · rw [if_neg (fun q => hf (this.2 q)), List.append_nil] at hh
      rw [fulls_no hf]
      exact hh
  · rintro Hc ⟨u, hn', hu⟩
    have ho : Hc o8 = some ⟨1, [[u]]⟩ := hu.sub _ _ (upd_eq _ _ _)
    simp [aLd, Abs.rowAt, ho]
    refine C_slices_Clip hu (Abs.sub_refl _) hn' fun w hw => ?_
    exact Ret.of (h w _ Hc (sub_fresh hn) hw)

end Go.Proofs.Ytlmgahcpdapbdaa
