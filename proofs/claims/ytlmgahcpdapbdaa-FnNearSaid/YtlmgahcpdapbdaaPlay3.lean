/-
The law of PlayNear.
-/
import Derived.Test.YtlmgahcpdapbdaaPlay2
import Derived.Test.YtlmgahcpdapbdaaMark
set_option linter.all false
namespace Go.Proofs.Ytlmgahcpdapbdaa
open Go Go.Abs Go.Proofs

theorem rdS {es : List TNearEvent} {H : Heap} {o : Nat} : Rd (upd H o ⟨3, es.map enNearEvent⟩) 3 (.slice o 0 es.length (some es.length)) (es.map enNearEvent) := by
  have := Rd.own (cap := some es.length) (enNearEvent_len (xs := es)) (upd_eq H o ⟨3, es.map enNearEvent⟩)
  simpa using this
theorem played_len (es : List TNearEvent) : (played es).2.length ≤ 300 := by
  unfold played
  split
  · simp
  · have := play_len (es := es) (Nat.le_refl _)
    rw [List.take_length] at this
    omega

theorem C_l_FnExactPlayNear {es : List TNearEvent} {v : V} {H : Heap} {K : V → Heap → Prop} (hv : Rd H 3 v (es.map enNearEvent)) (hl : es.length ≤ 9223372036854775807) (h : ∀ H', K (.bool true) H') : ACalls P n_l_FnExactPlayNear [v] H K := by
  have hW := played_len es
  apply W_l_FnExactPlayNear
  unfold F_l_FnExactPlayNear
  refine C_l_szNearEventS hv ?_
  rw [i64_in (by omega) (by omega)]
  simp
  refine ⟨fun _ => Ret.of (h _), fun hs => ?_⟩
  have hlen : es.length ≤ 1048576 := by split at hs <;> omega
  refine C_l_toNearEventS hv (by omega) fun o1 ho1 => ?_
  refine C_s_PlayNear rdS fun u9 H7 h9 => ?_
  simp [stz_eq, putCells]
  have s7 : Abs.sub H H7 := sub_trans (sub_fresh ho1) h9.sub
  refine C_l_toNearEventS (hv.mono s7) (by omega) fun o11 ho11 => ?_
  refine C_i_PlayNear rdS fun u16 Ha H14 sa h16 => ?_
  simp [stz_eq, putCells]
  have s14 : Abs.sub H7 H14 := sub_trans (sub_fresh ho11) (sub_trans sa h16.sub)
  have r9 := h9.rd ri_len
  apply C_l_eqNear
  simp
  refine C_l_eqIntS (h16.rd ri_len) (r9.mono s14) (by omega) ?_
  simp
  refine C_l_toNearEventS (hv.mono (sub_trans s7 s14)) (by omega) fun o26 ho26 => ?_
  have a11 : (upd H14 o26 ⟨3, es.map enNearEvent⟩) o11 = some ⟨3, es.map enNearEvent⟩ := sub_fresh ho26 _ _ (h16.sub _ _ (sa _ _ (upd_eq _ _ _)))
  refine C_l_eqNearEventS (rdS.mono (sub_trans sa (sub_trans h16.sub (sub_fresh ho26)))) rdS (by omega) ?_
  simp
  refine C_l_markNearEventS a11 enNearEvent_len (by simp) (by omega) (by omega) ?_
  simp
  refine ⟨fun hh => absurd hh (by omega), fun _ => ?_⟩
  have g16 := h16.rebase (o := o11) ⟨3, mkNearEvent 1 es.length⟩ (by rw [sa _ _ (upd_eq _ _ _)]; simp)
  have t7 : Abs.sub H7 (upd (upd H14 o26 ⟨3, es.map enNearEvent⟩) o11 ⟨3, mkNearEvent 1 es.length⟩) := sub_upd_of (sub_trans s14 (sub_fresh ho26)) ho11
  have t16 : Abs.sub (upd H14 o11 ⟨3, mkNearEvent 1 es.length⟩) (upd (upd H14 o26 ⟨3, es.map enNearEvent⟩) o11 ⟨3, mkNearEvent 1 es.length⟩) := sub_upd2 (sub_fresh ho26)
  apply C_l_eqNear
  simp
  refine C_l_eqIntS ((g16.rd ri_len).mono t16) (r9.mono t7) (by omega) ?_
  simp
  refine C_markOwn g16 t16 ri_len (by omega) (by simp; omega) fun H43 Ho gm sm => ?_
  simp at gm ⊢
  refine C_l_heldIntS ((gm.rd marks_row).mono sm) (by omega) (by omega) ?_
  simp
  refine ⟨fun hh => absurd hh (by omega), fun _ => ?_⟩
  have b7 : Abs.sub H7 (upd Ha o11 ⟨3, mkNearEvent 1 es.length⟩) := sub_upd_of (sub_trans (sub_fresh ho11) sa) ho11
  have s43 : Abs.sub H7 H43 := sub_trans b7 (sub_trans gm.sub sm)
  refine C_l_toNearEventS (hv.mono (sub_trans s7 s43)) (by omega) fun o48 ho48 => ?_
  refine C_i_PlayNear rdS fun u53 Hb H51 sb h53 => ?_
  simp [stz_eq, putCells]
  have s51 : Abs.sub H43 H51 := sub_trans (sub_fresh ho48) (sub_trans sb h53.sub)
  apply C_l_eqNear
  simp
  refine C_l_eqIntS (h53.rd ri_len) (r9.mono (sub_trans s43 s51)) (by omega) ?_
  simp
  refine C_l_heldIntS ((gm.rd marks_row).mono (sub_trans sm s51)) (by omega) (by omega) ?_
  simp
  exact ⟨fun hh => absurd hh (by omega), fun _ => Ret.of (h _)⟩

end Go.Proofs.Ytlmgahcpdapbdaa
