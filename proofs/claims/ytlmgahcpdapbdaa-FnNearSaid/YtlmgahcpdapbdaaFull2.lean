/-
The law of FullTimes.
-/
import Derived.Test.YtlmgahcpdapbdaaFull
import Derived.Test.YtlmgahcpdapbdaaPlay3
set_option linter.all false
namespace Go.Proofs.Ytlmgahcpdapbdaa
open Go Go.Abs Go.Proofs

theorem C_markHeld {rows : List (List V)} {v : V} {k : Int} {H0 Ho H : Heap} {K : V → Heap → Prop} (hv : Held H0 1 rows v Ho) (hs : Abs.sub Ho H) (hr : ∀ r ∈ rows, r.length = 1) (hk : 0 ≤ k) (hkn : k + rows.length ≤ 1000000000000)
    (h : ∀ H' Ho', Held H0 1 (marks k rows.length) v Ho' → Abs.sub Ho' H' → K (.int .i64 (k + rows.length)) H') : ACalls P n_l_markIntS [v, .int .i64 k] H K := by
  rcases hv with ⟨rfl, rfl, rfl⟩ | ⟨o, cap, h1, rfl, hc, rfl⟩
  · exact C_l_markIntS_nil (by simpa using h H Ho (.inl ⟨rfl, rfl, rfl⟩) hs)
  · exact C_l_markIntS (rows := rows) (hs _ _ (upd_eq _ _ _)) hr rfl hk hkn (h _ (upd H0 o ⟨1, marks k rows.length⟩) (.inr ⟨o, cap, h1, by simp, by simpa using hc, rfl⟩) (by
      have := sub_upd2 (o := o) (x := ⟨1, marks k rows.length⟩) hs
      simpa using this))

theorem C_l_FnExactFullTimes {es : List TNearEvent} {v : V} {H : Heap} {K : V → Heap → Prop} (hv : Rd H 3 v (es.map enNearEvent)) (hl : es.length ≤ 9223372036854775807) (h : ∀ H', K (.bool true) H') : ACalls P n_l_FnExactFullTimes [v] H K := by
  have hW := fullTimes_len es
  apply W_l_FnExactFullTimes
  unfold F_l_FnExactFullTimes
  refine C_l_szNearEventS hv ?_
  rw [i64_in (by omega) (by omega)]
  simp
  refine ⟨fun _ => Ret.of (h _), fun hs => ?_⟩
  have hlen : es.length ≤ 1048576 := by split at hs <;> omega
  refine C_l_toNearEventS hv (by omega) fun o1 ho1 => ?_
  refine C_s_FullTimes rdS fun u9 H7 h9 => ?_
  have s7 : Abs.sub H H7 := sub_trans (sub_fresh ho1) h9.sub
  refine C_l_toNearEventS (hv.mono s7) (by omega) fun o11 ho11 => ?_
  refine C_i_FullTimes rdS fun u16 Ha H14 sa h16 => ?_
  have s14 : Abs.sub H7 H14 := sub_trans (sub_fresh ho11) (sub_trans sa h16.sub)
  have r9 := h9.rd ri_len
  refine C_l_eqIntS (h16.rd ri_len) (r9.mono s14) (by omega) ?_
  simp
  refine C_l_toNearEventS (hv.mono (sub_trans s7 s14)) (by omega) fun o26 ho26 => ?_
  have a11 : (upd H14 o26 ⟨3, es.map enNearEvent⟩) o11 = some ⟨3, es.map enNearEvent⟩ := sub_fresh ho26 _ _ (h16.sub _ _ (sa _ _ (upd_eq _ _ _)))
  refine C_l_eqNearEventS (rdS.mono (sub_trans sa (sub_trans h16.sub (sub_fresh ho26)))) rdS (by omega) ?_
  simp
  refine C_l_markNearEventS a11 enNearEvent_len (by simp) (by omega) (by omega) ?_
  simp
  refine ⟨fun hh => absurd hh (by omega), fun _ => ?_⟩
  have g16 := h16.rebase (o := o11) ⟨3, mkNearEvent 1 es.length⟩ (by rw [sa _ _ (upd_eq _ _ _)]; simp)
  have t7 : Abs.sub H7 (upd (upd H14 o26 ⟨3, es.map enNearEvent⟩) o11 ⟨3, mkNearEvent 1 es.length⟩) := sub_upd_of (sub_trans s14 (sub_fresh ho26)) ho11
  have t16 : Abs.sub (upd H14 o11 ⟨3, mkNearEvent 1 es.length⟩) (upd (upd H14 o26 ⟨3, es.map enNearEvent⟩) o11 ⟨3, mkNearEvent 1 es.length⟩) := sub_upd2 (sub_fresh ho26)
  refine C_l_eqIntS ((g16.rd ri_len).mono t16) (r9.mono t7) (by omega) ?_
  simp
  refine C_markHeld g16 t16 ri_len (by omega) (by simp; omega) fun H43 Ho gm sm => ?_
  simp at gm ⊢
  refine C_l_heldIntS ((gm.rd marks_row).mono sm) (by omega) (by omega) ?_
  simp
  refine ⟨fun hh => absurd hh (by omega), fun _ => ?_⟩
  have b7 : Abs.sub H7 (upd Ha o11 ⟨3, mkNearEvent 1 es.length⟩) := sub_upd_of (sub_trans (sub_fresh ho11) sa) ho11
  have s43 : Abs.sub H7 H43 := sub_trans b7 (sub_trans gm.sub sm)
  refine C_l_toNearEventS (hv.mono (sub_trans s7 s43)) (by omega) fun o48 ho48 => ?_
  refine C_i_FullTimes rdS fun u53 Hb H51 sb h53 => ?_
  have s51 : Abs.sub H43 H51 := sub_trans (sub_fresh ho48) (sub_trans sb h53.sub)
  refine C_l_eqIntS (h53.rd ri_len) (r9.mono (sub_trans s43 s51)) (by omega) ?_
  simp
  refine C_l_heldIntS ((gm.rd marks_row).mono (sub_trans sm s51)) (by omega) (by omega) ?_
  simp
  exact ⟨fun hh => absurd hh (by omega), fun _ => Ret.of (h _)⟩

end Go.Proofs.Ytlmgahcpdapbdaa
