/-
Contracts: an element of one's own slice is taken out.
-/
import Derived.Test.YtmbekckgpbmdkaaGreatNetC
set_option linter.all false
namespace Go.Proofs.YtmbekckgpbmdkaaGreat
open Go Go.Abs Go.Proofs

theorem erase_rows {rows ex : List (List V)} {k : Nat} (hk : k < rows.length) : (rows ++ ex).take k ++ ((rows ++ ex).drop (k + 1)).take (rows.length - (k + 1)) = rows.eraseIdx k := by
  have h1 : (rows ++ ex).take k = rows.take k := List.take_append_of_le_length (by omega)
  have h2 : (rows ++ ex).drop (k + 1) = rows.drop (k + 1) ++ ex := List.drop_append_of_le_length (by omega)
  have h3 : (rows.drop (k + 1) ++ ex).take (rows.length - (k + 1)) = rows.drop (k + 1) := by
    rw [List.take_append_of_le_length (by simp), List.take_of_length_le (by simp)]
  rw [h1, h2, h3, List.eraseIdx_eq_take_drop_succ]
set_option maxHeartbeats 1000000 in
theorem delete_core {rows ex : List (List V)} {o k c n : Nat} {H : Heap} (ho : H o = some ⟨7, rows ++ ex⟩) (hn : rows.length = n) (hk : k < n) (hc : n + ex.length = c) (hl : n ≤ 1048576) :
    ACalls P n_slices_Delete_i_Msg_i_Msg [.slice o 0 n (some c), .int .i64 (k : Nat), .int .i64 ((k : Int) + 1)] H fun v H' => v = .slice o 0 (n - 1) (some c) ∧ ∃ ex', H' = upd H o ⟨7, rows.eraseIdx k ++ ex'⟩ := by
  subst hn
  apply W_slices_Delete_i_Msg_i_Msg
  unfold F_slices_Delete_i_Msg_i_Msg
  have e1 : aSlice H 7 (.slice o 0 rows.length (some c)) (some (.int .i64 (k : Nat))) (some (.int .i64 ((k : Int) + 1))) (some (.int .i64 (rows.length : Nat))) = some (.slice o (0 + k) (k + 1 - k) (some (rows.length - k))) := by
    have : ((k : Int) + 1).toNat = k + 1 := by omega
    have h3 : (0 : Int) ≤ (k : Int) + 1 := by omega
    simp [aSlice, ho, bound, natOf, this, h3]
    omega
  have e2 : aSlice H 7 (.slice o 0 rows.length (some c)) none (some (.int .i64 (k : Nat))) none = some (.slice o 0 k (some c)) := by
    simp [aSlice, ho, bound, natOf]
    omega
  have e3 : aSlice H 7 (.slice o 0 rows.length (some c)) (some (.int .i64 ((k : Int) + 1))) none none = some (.slice o (k + 1) (rows.length - (k + 1)) (some (c - (k + 1)))) := by
    have : ((k : Int) + 1).toNat = k + 1 := by omega
    have h3 : (0 : Int) ≤ (k : Int) + 1 := by omega
    simp [aSlice, ho, bound, natOf, this, h3]
    omega
  have e4 : rowsOf H 7 (.slice o (k + 1) (rows.length - (k + 1)) (some (c - (k + 1)))) = some (((rows ++ ex).drop (k + 1)).take (rows.length - (k + 1))) := by
    simp [rowsOf, ho]
    omega
  simp [e1, e2, e3, e4]
  have her := erase_rows (ex := ex) hk
  generalize hxs : ((rows ++ ex).drop (k + 1)).take (rows.length - (k + 1)) = xs at *
  have hxl : xs.length = rows.length - (k + 1) := by rw [← hxs]; simp; omega
  have hel : (rows.eraseIdx k).length = rows.length - 1 := List.length_eraseIdx_of_lt hk
  have tail : ∀ (A : List (List V)) (H' : Heap), H' o = some ⟨7, rows.eraseIdx k ++ A⟩ → 1 ≤ A.length → H' = upd H o ⟨7, rows.eraseIdx k ++ A⟩ → ∀ (K : V → Heap → Prop), (∀ v ex', K v (upd H o ⟨7, rows.eraseIdx k ++ ex'⟩)) →
      bnd (aSlice H' 7 (.slice o 0 (rows.length - 1) (some c)) (some (.int .i64 ((rows.length - 1 : Nat) : Nat))) (some (.int .i64 (rows.length : Nat))) none) fun t11 =>
        clearK H' 7 [.int .i64 0, .int .i64 0, .int .i64 0, .int .i64 0, .int .i64 0, .nils, .nils] t11 K := by
    intro A H' hA h1 hH' K hK
    have e5 : aSlice H' 7 (.slice o 0 (rows.length - 1) (some c)) (some (.int .i64 ((rows.length - 1 : Nat) : Nat))) (some (.int .i64 (rows.length : Nat))) none = some (.slice o (rows.length - 1) (rows.length - (rows.length - 1)) (some (c - (rows.length - 1)))) := by
      simp [aSlice, hA, bound, natOf]
      omega
    rw [e5]
    have hone : rows.length - (rows.length - 1) = 1 := by omega
    simp only [hone, bnd_some, clearK, hA]
    refine ⟨trivial, by simp [hel]; omega, by simp, ?_⟩
    rw [hH']
    have : upd (upd H o ⟨7, rows.eraseIdx k ++ A⟩) o ⟨7, (rows.eraseIdx k ++ A).take (rows.length - 1) ++ List.replicate 1 [.int .i64 0, .int .i64 0, .int .i64 0, .int .i64 0, .int .i64 0, .nils, .nils] ++ (rows.eraseIdx k ++ A).drop (rows.length - 1 + 1)⟩ =
        upd H o ⟨7, rows.eraseIdx k ++ (List.replicate 1 [.int .i64 0, .int .i64 0, .int .i64 0, .int .i64 0, .int .i64 0, .nils, .nils] ++ (rows.eraseIdx k ++ A).drop (rows.length - 1 + 1))⟩ := by
      rw [upd_upd, ← hel, List.take_left, List.append_assoc]
    rw [this]
    exact hK _ _
  have hex : ex.length = c - rows.length := by omega
  simp only [appendK, ho]
  refine ⟨fun q => absurd q (by omega), fun _ => ?_⟩
  refine ⟨trivial, by simp; omega, fun e => ?_, fun hne => ⟨by omega, fun hroom => ⟨by simp; omega, ?_⟩, fun hh => absurd hh (by omega)⟩⟩
  · subst e
    have hk1 : k = rows.length - 1 := by simp at hxl; omega
    subst hk1
    simp only [lenOf, bnd_some]
    simp only [List.append_nil] at her
    have hA : H o = some ⟨7, rows.eraseIdx (rows.length - 1) ++ (rows ++ ex).drop (rows.length - 1)⟩ := by
      rw [ho, ← her, List.take_append_drop]
    refine tail ((rows ++ ex).drop (rows.length - 1)) H hA (by simp; omega) ?_ _ fun v ex' => Ret.of ⟨rfl, ex', rfl⟩
    funext i
    unfold upd
    split
    · rename_i hi; rw [hi]; exact hA
    · rfl
  · have hkx : k + xs.length = rows.length - 1 := by omega
    simp only [hkx, lenOf, bnd_some, Nat.zero_add]
    have hA : (rows ++ ex).take k ++ xs ++ (rows ++ ex).drop (rows.length - 1) = rows.eraseIdx k ++ (rows ++ ex).drop (rows.length - 1) := by rw [her]
    rw [hA]
    exact tail ((rows ++ ex).drop (rows.length - 1)) _ (upd_eq _ _ _) (by simp; omega) rfl _ fun v ex' => Ret.of ⟨rfl, ex', rfl⟩
theorem C_Delete_rows {rows : List (List V)} {u : V} {k : Nat} {H0 Ho H : Heap} {K : V → Heap → Prop} (hu : Held H0 7 rows u Ho) (hs : Abs.sub Ho H) (hk : k < rows.length) (hl : rows.length ≤ 1048576)
    (h : ∀ v H' H'', Held H0 7 (rows.eraseIdx k) v H'' → Abs.sub H'' H' → K v H') : ACalls P n_slices_Delete_i_Msg_i_Msg [u, .int .i64 (k : Nat), .int .i64 ((k : Int) + 1)] H K := by
  rcases hu with ⟨_, rfl, _⟩ | ⟨o, cap, h1, rfl, hc, rfl⟩
  · simp at hk
  · have ho : H o = some ⟨7, rows⟩ := hs _ _ (upd_eq _ _ _)
    have hel : (rows.eraseIdx k).length = rows.length - 1 := List.length_eraseIdx_of_lt hk
    have fin : ∀ {c : Nat} {H2 : Heap}, H2 = H ∨ (∃ x, H2 = upd H o x) → ∀ v H', (v = .slice o 0 (rows.length - 1) (some c) ∧ ∃ ex', H' = upd H2 o ⟨7, rows.eraseIdx k ++ ex'⟩) →
        K v H' ∨ ∃ o n c sz rows ex, v = .slice o 0 n (some c) ∧ H' o = some ⟨sz, rows ++ ex⟩ ∧ K (.slice o 0 n none) (upd H' o ⟨sz, rows⟩) := by
      rintro c H2 hH2 v H' ⟨rfl, ex', rfl⟩
      refine .inr ⟨o, rows.length - 1, c, 7, rows.eraseIdx k, ex', rfl, upd_eq _ _ _, ?_⟩
      have : upd (upd H2 o ⟨7, rows.eraseIdx k ++ ex'⟩) o ⟨7, rows.eraseIdx k⟩ = upd H o ⟨7, rows.eraseIdx k⟩ := by
        rcases hH2 with rfl | ⟨x, rfl⟩
        · rw [upd_upd]
        · rw [upd_upd, upd_upd]
      rw [this]
      exact h _ _ (upd H0 o ⟨7, rows.eraseIdx k⟩) (.inr ⟨o, none, h1, by rw [hel], by simp, rfl⟩) (sub_upd2 (sub_trans (sub_fresh h1) hs))
    cases cap with
    | none =>
      refine ACalls.opened ho rfl fun c ex hx hc => ?_
      exact (delete_core (upd_eq _ _ _) rfl hk hc hl).closed (fin (.inr ⟨_, rfl⟩))
    | some c =>
      have := hc c rfl
      subst this
      exact (delete_core (ex := []) (by simpa using ho) rfl hk (by simp) hl).closed (fin (.inl rfl))
theorem C_Delete_Msg {b : Bool} {xs : List TMsg} {u : V} {k : Nat} {H0 Ho H : Heap} {K : V → Heap → Prop} (hu : Dp (wiresT b) H0 xs [u] Ho) (hs : Abs.sub Ho H) (hk : k < xs.length) (hl : xs.length ≤ 1048576)
    (h : ∀ v H' H'', Dp (wiresT b) H0 (xs.eraseIdx k) [v] H'' → Abs.sub H'' H' → K v H') : ACalls P n_slices_Delete_i_Msg_i_Msg [u, .int .i64 (k : Nat), .int .i64 ((k : Int) + 1)] H K := by
  obtain ⟨es, ⟨w', rows, ess, e, h0, h1, rfl⟩, h2⟩ := hu
  cases e
  have hlen := h1.len
  obtain ⟨Hm, c1, c2⟩ := Chain.append.1 h2
  have c2 : Held Hm 7 rows u Ho := Chain.one.1 c2
  obtain ⟨r, A, e, B, g1, g2, g3, g4, rfl⟩ := h1.cut hk
  obtain ⟨H', d1, d2⟩ := chain_drop c1
  refine C_Delete_rows c2 hs (by omega) (by omega) fun v Hx Hy q1 q2 => ?_
  obtain ⟨Hz, q3, q4⟩ := q1.shrink d2
  refine h v Hx Hz ⟨_, ⟨v, rows.eraseIdx k, A ++ B, rfl, fun r hr => h0 r (List.mem_of_mem_eraseIdx hr), ?_, rfl⟩, Chain.append.2 ⟨H', d1, Chain.one.2 q3⟩⟩ (sub_trans q4 q2)
  rw [List.eraseIdx_eq_take_drop_succ, List.eraseIdx_eq_take_drop_succ]
  exact g2.append g4
end Go.Proofs.YtmbekckgpbmdkaaGreat
