/-
Contracts: an element is put into one's own slice.
-/
import Derived.Test.YtohicpepcjgnaaaGreatBytM
set_option linter.all false
namespace Go.Proofs.YtohicpepcjgnaaaGreat
open Go Go.Abs Go.Proofs

abbrev putAt {α : Type} (xs : List α) (i : Nat) (x : α) : List α := xs.take i ++ [x] ++ xs.drop i
theorem putAt_len {α : Type} {xs : List α} {i : Nat} {x : α} (h : i ≤ xs.length) : (putAt xs i x).length = xs.length + 1 := by
  simp [putAt]; omega
def InsR (o n c : Nat) (final : List (List V)) (H : Heap) (v : V) (H' : Heap) : Prop :=
  (v = .slice o 0 (n + 1) (some c) ∧ ∃ ex', H' = upd H o ⟨5, final ++ ex'⟩) ∨ (∃ o', H o' = none ∧ v = .slice o' 0 (n + 1) none ∧ H' = upd H o' ⟨5, final⟩)
set_option maxHeartbeats 2000000 in
theorem insert_core {rows ex : List (List V)} {r : List V} {o q i c n : Nat} {H : Heap} (ho : H o = some ⟨5, rows ++ ex⟩) (hq : H q = some ⟨5, [r]⟩) (hqo : q ≠ o) (hn : rows.length = n) (hi : i < n) (hc : n + ex.length = c) (hl : n ≤ 1048576) :
    ACalls P n_slices_Insert_i_Lsa_i_Lsa [.slice o 0 n (some c), .int .i64 (i : Nat), .slice q 0 1 (some 1)] H (InsR o n c (putAt rows i r) H) := by
  subst hn
  apply W_slices_Insert_i_Lsa_i_Lsa
  unfold F_slices_Insert_i_Lsa_i_Lsa
  have e1 : aSlice H 5 (.slice o 0 rows.length (some c)) (some (.int .i64 (i : Nat))) none none = some (.slice o i (rows.length - i) (some (c - i))) := by
    simp [aSlice, ho, bound, natOf]
    omega
  have a1 : IntKind.i64.wrap ((rows.length : Int) + 1) = ((rows.length + 1 : Nat) : Int) := by rw [i64_in (by omega) (by omega)]; omega
  have a2 : IntKind.i64.wrap ((i : Int) + 1) = ((i + 1 : Nat) : Int) := by rw [i64_in (by omega) (by omega)]; omega
  have a3 : IntKind.i64.wrap (((rows.length + 1 : Nat) : Int) - (i : Int)) = ((rows.length + 1 - i : Nat) : Int) := by rw [i64_in (by omega) (by omega)]; omega
  have ra : ∀ {H' : Heap}, H' q = some ⟨5, [r]⟩ → rowsOf H' 5 (.slice q 0 1 (some 1)) = some [r] := fun h => by simp [rowsOf, h]
  simp only [e1, bnd_some, lenOf]
  simp
  refine ⟨fun h => absurd h (by omega), fun _ => ?_⟩
  rw [a1]
  simp only [capK]
  have hfin : (putAt rows i r).length = rows.length + 1 := putAt_len (by omega)
  simp
  refine ⟨fun hgt => ?_, fun hle => ?_⟩
  · have hex : ex = [] := List.eq_nil_of_length_eq_zero (by omega)
    subst hex
    simp only [List.append_nil, List.length_nil, Nat.add_zero] at ho hc
    subst hc
    have e2 : aSlice H 5 (.slice o 0 rows.length (some rows.length)) none (some (.int .i64 (i : Nat))) none = some (.slice o 0 i (some rows.length)) := by
      simp [aSlice, ho, bound, natOf]
      omega
    have a3' : IntKind.i64.wrap ((rows.length : Int) + 1 - (i : Int)) = ((rows.length + 1 - i : Nat) : Int) := by rw [i64_in (by omega) (by omega)]; omega
    simp only [e2, bnd_some, a3', growZ, ho]
    have hm : i + (rows.length + 1 - i) = rows.length + 1 := by omega
    refine ⟨trivial, by simp; omega, by omega, by omega, by simp; omega, by simp; omega, fun o' ho' => ?_⟩
    simp only [Int.toNat_natCast, hm, List.drop_zero]
    have hqo' : q ≠ o' := by rintro rfl; rw [hq] at ho'; cases ho'
    have hoo' : o ≠ o' := by rintro rfl; rw [ho] at ho'; cases ho'
    generalize hz : List.replicate (rows.length + 1 - i) [V.int .i64 0, .int .i64 0, .int .i64 0, .nils, .nils] = z
    have hzl : z.length = rows.length + 1 - i := by rw [← hz]; simp
    have hti : (rows.take i).length = i := by simp; omega
    have e3 : aSlice (upd H o' ⟨5, rows.take i ++ z⟩) 5 (.slice o' 0 (rows.length + 1) none) (some (.int .i64 (i : Nat))) none none = some (.slice o' i (rows.length + 1 - i) none) := by
      simp [aSlice, bound, natOf]
      omega
    rw [e3]
    simp only [bnd_some]
    rw [ra (by rw [upd_off hqo']; exact hq)]
    simp only [bnd_some, copyK, upd_eq]
    refine ⟨trivial, by simp; omega, ?_⟩
    rw [a2]
    have r1 : (rows.take i ++ z).take i ++ [r].take (rows.length + 1 - i) ++ (rows.take i ++ z).drop (i + min [r].length (rows.length + 1 - i)) = rows.take i ++ [r] ++ z.drop 1 := by
      have h1 : (rows.take i ++ z).take i = rows.take i := by rw [List.take_append_of_le_length (by omega), List.take_of_length_le (by omega)]
      have h2 : [r].take (rows.length + 1 - i) = [r] := List.take_of_length_le (by simp; omega)
      have h3 : min [r].length (rows.length + 1 - i) = 1 := by simp; omega
      have h4 : (rows.take i ++ z).drop (i + 1) = z.drop 1 := by
        rw [List.drop_append, List.drop_of_length_le (by omega)]
        simp [hti]
      rw [h1, h2, h3, h4]
    rw [r1, upd_upd]
    have sn : ∀ {H' : Heap} {rs : List (List V)} {k : Nat}, H' o' = some ⟨5, rs⟩ → k ≤ rows.length + 1 → aSlice H' 5 (.slice o' 0 (rows.length + 1) none) (some (.int .i64 (k : Nat))) none none = some (.slice o' k (rows.length + 1 - k) none) := fun hH hk => by
      simp [aSlice, hH, bound, natOf]
      omega
    have e4 := sn (H' := upd H o' ⟨5, rows.take i ++ [r] ++ z.drop 1⟩) (upd_eq _ _ _) (k := i + 1) (by omega)
    have hk4 : rows.length + 1 - (i + 1) = rows.length - i := by omega
    rw [hk4] at e4
    have e5 : aSlice (upd H o' ⟨5, rows.take i ++ [r] ++ z.drop 1⟩) 5 (.slice o 0 rows.length (some rows.length)) (some (.int .i64 (i : Nat))) none none = some (.slice o i (rows.length - i) (some (rows.length - i))) := by
      simp [aSlice, upd_off hoo', ho, bound, natOf]
      omega
    have e6 : rowsOf (upd H o' ⟨5, rows.take i ++ [r] ++ z.drop 1⟩) 5 (.slice o i (rows.length - i) (some (rows.length - i))) = some (rows.drop i) := by
      have h2 : (rows.drop i).take (rows.length - i) = rows.drop i := List.take_of_length_le (by simp)
      simp [rowsOf, upd_off hoo', ho, h2]
      omega
    rw [e4]
    simp only [bnd_some, e5, e6, copyK, upd_eq]
    have hl2 : (rows.take i ++ [r] ++ z.drop 1).length = rows.length + 1 := by
      rw [List.length_append, List.length_append, hti, List.length_drop, hzl]
      simp; omega
    refine ⟨trivial, by omega, Ret.of (.inr ⟨o', ho', rfl, ?_⟩)⟩
    rw [upd_upd]
    have r2 : (rows.take i ++ [r] ++ z.drop 1).take (i + 1) ++ (rows.drop i).take (rows.length - i) ++ (rows.take i ++ [r] ++ z.drop 1).drop (i + 1 + min (rows.drop i).length (rows.length - i)) = putAt rows i r := by
      have hl1 : (rows.take i ++ [r]).length = i + 1 := by simp; omega
      have h1 : (rows.take i ++ [r] ++ z.drop 1).take (i + 1) = rows.take i ++ [r] := by rw [List.take_append_of_le_length (by omega), List.take_of_length_le (by omega)]
      have h2 : (rows.drop i).take (rows.length - i) = rows.drop i := List.take_of_length_le (by simp)
      have h3 : (rows.take i ++ [r] ++ z.drop 1).drop (i + 1 + min (rows.drop i).length (rows.length - i)) = [] := List.drop_eq_nil_of_le (by simp; omega)
      rw [h1, h2, h3, List.append_nil]
    rw [r2]
    simp [putAt]
  · have e2 : aSlice H 5 (.slice o 0 rows.length (some c)) none (some (.int .i64 ((rows.length + 1 : Nat) : Int))) none = some (.slice o 0 (rows.length + 1) (some c)) := by
      have : ((rows.length : Int) + 1).toNat = rows.length + 1 := by omega
      have h3 : (0 : Int) ≤ (rows.length : Int) + 1 := by omega
      simp [aSlice, ho, bound, natOf, this, h3]
      omega
    have sl : ∀ {H' : Heap} {rs : List (List V)} {k : Nat}, H' o = some ⟨5, rs⟩ → k ≤ rows.length + 1 → aSlice H' 5 (.slice o 0 (rows.length + 1) (some c)) (some (.int .i64 (k : Nat))) none none = some (.slice o k (rows.length + 1 - k) (some (c - k))) := fun hH hk => by
      simp [aSlice, hH, bound, natOf]
      omega
    have e2' : aSlice H 5 (.slice o 0 rows.length (some c)) none (some (.int .i64 ((rows.length : Int) + 1))) none = some (.slice o 0 (rows.length + 1) (some c)) := by
      have := e2
      simpa using this
    simp only [e2', bnd_some, a2]
    rw [sl ho (by omega)]
    simp only [bnd_some]
    have hrl : (rows ++ ex).length = c := by simp; omega
    refine ⟨X_slices_overlaps_i_Lsa, q, 0, 1, some 1, o, i + 1, rows.length + 1 - (i + 1), some (c - (i + 1)), rfl, ⟨hqo, by omega, by omega⟩, ⟨_, hq⟩, ⟨_, ho, by intro h; simp at h; rw [h.1] at hi; simp at hi, by simp⟩, ?_⟩
    simp only [aNot, bnd_some]
    simp only [cnd]
    rw [sl ho (by omega), sl ho (by omega)]
    simp only [bnd_some]
    have e6 : rowsOf H 5 (.slice o i (rows.length + 1 - i) (some (c - i))) = some (((rows ++ ex).drop i).take (rows.length + 1 - i)) := by
      simp [rowsOf, ho]
      omega
    rw [e6]
    simp only [bnd_some, copyK, ho]
    refine ⟨trivial, by rw [hrl]; omega, ?_⟩
    have r1 : (rows ++ ex).take (i + 1) ++ (((rows ++ ex).drop i).take (rows.length + 1 - i)).take (rows.length + 1 - (i + 1)) ++ (rows ++ ex).drop (i + 1 + min (((rows ++ ex).drop i).take (rows.length + 1 - i)).length (rows.length + 1 - (i + 1))) = rows.take i ++ [rows[i]] ++ rows.drop i ++ ex.drop 1 := by
      have h1 : (rows ++ ex).take (i + 1) = rows.take i ++ [rows[i]] := by rw [List.take_append_of_le_length (by omega), List.take_succ_eq_append_getElem (by omega)]
      have h2 : (((rows ++ ex).drop i).take (rows.length + 1 - i)).take (rows.length + 1 - (i + 1)) = rows.drop i := by
        rw [List.take_take, List.drop_append_of_le_length (by omega), List.take_append_of_le_length (by simp; omega), List.take_of_length_le (by simp; omega)]
      have h3 : i + 1 + min (((rows ++ ex).drop i).take (rows.length + 1 - i)).length (rows.length + 1 - (i + 1)) = rows.length + 1 := by simp; omega
      have h4 : (rows ++ ex).drop (rows.length + 1) = ex.drop 1 := by
        rw [List.drop_append, List.drop_of_length_le (by omega)]
        simp
      rw [h1, h2, h3, h4]
    rw [r1]
    generalize hA : rows.take i ++ [rows[i]] ++ rows.drop i ++ ex.drop 1 = A
    have hAl : A.length = rows.length + 1 + (ex.length - 1) := by rw [← hA]; simp; omega
    rw [sl (upd_eq _ _ _) (by omega)]
    simp only [bnd_some]
    rw [ra (by rw [upd_off hqo]; exact hq)]
    simp only [bnd_some, copyK, upd_eq]
    refine ⟨trivial, by omega, Ret.of (.inl ⟨rfl, ex.drop 1, ?_⟩)⟩
    rw [upd_upd]
    have r2 : A.take i ++ [r].take (rows.length + 1 - i) ++ A.drop (i + min [r].length (rows.length + 1 - i)) = putAt rows i r ++ ex.drop 1 := by
      have h2 : [r].take (rows.length + 1 - i) = [r] := List.take_of_length_le (by simp; omega)
      have h3 : min [r].length (rows.length + 1 - i) = 1 := by simp; omega
      have hti : (rows.take i).length = i := by simp; omega
      have h1 : A.take i = rows.take i := by
        rw [← hA, List.append_assoc, List.append_assoc, List.take_append_of_le_length (by omega), List.take_of_length_le (by omega)]
      have h4 : A.drop (i + 1) = rows.drop i ++ ex.drop 1 := by
        have hl1 : (rows.take i ++ [rows[i]]).length = i + 1 := by simp; omega
        rw [← hA, List.append_assoc, List.drop_append, List.drop_of_length_le (by omega), hl1]
        simp
      rw [h2, h3, h1, h4]
      simp [putAt]
    rw [r2]
    simp [putAt]

theorem own_split {α : Type} {T : Ty α} {xs : List α} {rows : List (List V)} {es : List Ent} (h : OwnL T xs rows es) : ∀ i : Nat, ∃ A B : List Ent, OwnL T (xs.take i) (rows.take i) A ∧ OwnL T (xs.drop i) (rows.drop i) B ∧ es = A ++ B := by
  induction h with
  | nil => intro i; exact ⟨[], [], by simpa using .nil, by simpa using .nil, rfl⟩
  | @cons a r es xs rs ess h1 h2 ih =>
    intro i
    cases i with
    | zero => exact ⟨[], es ++ ess, .nil, .cons h1 h2, rfl⟩
    | succ i =>
      obtain ⟨A, B, q1, q2, rfl⟩ := ih i
      exact ⟨es ++ A, B, .cons h1 q1, q2, by simp⟩
theorem C_Insert_rows {rows : List (List V)} {r : List V} {u : V} {i q : Nat} {H0 Ho H : Heap} {K : V → Heap → Prop} (hu : Held H0 5 rows u Ho) (hs : Abs.sub Ho H) (hq : H q = some ⟨5, [r]⟩) (hq0 : Ho q = none) (hi : i ≤ rows.length) (hl : rows.length ≤ 1048575)
    (h : ∀ v H' H'', Held H0 5 (putAt rows i r) v H'' → Abs.sub H'' H' → K v H') : ACalls P n_slices_Insert_i_Lsa_i_Lsa [u, .int .i64 (i : Nat), .slice q 0 1 (some 1)] H K := by
  by_cases e : i = rows.length
  · subst e
    apply W_slices_Insert_i_Lsa_i_Lsa
    unfold F_slices_Insert_i_Lsa_i_Lsa
    have hlu : lenOf u = some rows.length := by
      rcases hu with ⟨rfl, rfl, _⟩ | ⟨o, cap, _, rfl, _⟩ <;> rfl
    have e1 : ∃ w, aSlice H 5 u (some (.int .i64 (rows.length : Nat))) none none = some w := by
      rcases hu with ⟨rfl, rfl, _⟩ | ⟨o, cap, h1, rfl, hc, rfl⟩
      · exact ⟨.nils, by simp [aSlice, bound, natOf]⟩
      · have ho : H o = some ⟨5, rows⟩ := hs _ _ (upd_eq _ _ _)
        cases cap with
        | none => exact ⟨_, by simp [aSlice, ho, bound, natOf]; rfl⟩
        | some c =>
          have := hc c rfl
          subst this
          exact ⟨_, by simp [aSlice, ho, bound, natOf]; rfl⟩
    obtain ⟨w, e1⟩ := e1
    have ra : rowsOf H 5 (.slice q 0 1 (some 1)) = some [r] := by simp [rowsOf, hq]
    have hl1 : lenOf (.slice q 0 1 (some 1)) = some 1 := rfl
    simp only [e1, hlu, hl1, bnd_some]
    simp
    rw [ra]
    simp only [bnd_some]
    refine hu.append hs (by simp) (by simp; omega) fun v' H' H'' q1 q2 => Ret.of (h _ _ _ ?_ q2)
    rw [putAt, List.take_length, List.drop_length, List.append_nil]
    exact q1
  · rcases hu with ⟨_, rfl, _⟩ | ⟨o, cap, h1, rfl, hc, rfl⟩
    · simp at hi; simp at e; omega
    · have ho : H o = some ⟨5, rows⟩ := hs _ _ (upd_eq _ _ _)
      have hqo : q ≠ o := by rintro rfl; rw [upd_eq] at hq0; cases hq0
      have hpl : (putAt rows i r).length = rows.length + 1 := putAt_len hi
      have h0H : Abs.sub H0 H := sub_trans (sub_fresh h1) hs
      have fin : ∀ {c : Nat} {H2 : Heap}, H2 = H ∨ (∃ x, H2 = upd H o x) → ∀ v H', InsR o rows.length c (putAt rows i r) H2 v H' →
          K v H' ∨ ∃ o n c sz rows ex, v = .slice o 0 n (some c) ∧ H' o = some ⟨sz, rows ++ ex⟩ ∧ K (.slice o 0 n none) (upd H' o ⟨sz, rows⟩) := by
        rintro c H2 hH2 v H' (⟨rfl, ex', rfl⟩ | ⟨o', ho', rfl, rfl⟩)
        · refine .inr ⟨o, rows.length + 1, c, 5, putAt rows i r, ex', rfl, upd_eq _ _ _, ?_⟩
          have : upd (upd H2 o ⟨5, putAt rows i r ++ ex'⟩) o ⟨5, putAt rows i r⟩ = upd H o ⟨5, putAt rows i r⟩ := by
            rcases hH2 with rfl | ⟨x, rfl⟩
            · rw [upd_upd]
            · rw [upd_upd, upd_upd]
          rw [this]
          exact h _ _ (upd H0 o ⟨5, putAt rows i r⟩) (.inr ⟨o, none, h1, by rw [hpl], by simp, rfl⟩) (sub_upd2 h0H)
        · have hoH : H o' = none := by
            rcases hH2 with rfl | ⟨x, rfl⟩
            · exact ho'
            · exact (upd_none ho').2
          refine .inl (h _ _ (upd H0 o' ⟨5, putAt rows i r⟩) (.inr ⟨o', none, sub_none h0H hoH, by rw [hpl], by simp, rfl⟩) ?_)
          refine sub_upd2 ?_
          rcases hH2 with rfl | ⟨x, rfl⟩
          · exact h0H
          · intro j y hj
            have hne : j ≠ o := by rintro rfl; rw [h1] at hj; cases hj
            rw [upd_off hne]
            exact h0H _ _ hj
      cases cap with
      | none =>
        refine ACalls.opened ho rfl fun c ex hx hc => ?_
        exact (insert_core (upd_eq _ _ _) (by rw [upd_off hqo]; exact hq) hqo rfl (by omega) hc (by omega)).closed (fin (.inr ⟨_, rfl⟩))
      | some c =>
        have := hc c rfl
        subst this
        exact (insert_core (ex := []) (by simpa using ho) hq hqo rfl (by omega) (by simp) (by omega)).closed (fin (.inl rfl))
/-- The same for slices of advertisements. -/
theorem C_Insert_Lsa {b : Bool} {xs : List TLsa} {u : V} {l : TLsa} {r : List V} {i q : Nat} {H0 Ho Hl H : Heap} {K : V → Heap → Prop} (hu : Dp (dbT b) H0 xs [u] Ho) (hr : Dp (lsaT b) Ho l r Hl) (hs : Abs.sub Hl H) (hq : H q = some ⟨5, [r]⟩) (hq0 : Hl q = none) (hi : i ≤ xs.length) (hl : xs.length ≤ 1048575)
    (h : ∀ v H' H'', Dp (dbT b) H0 (putAt xs i l) [v] H'' → Abs.sub H'' H' → K v H') : ACalls P n_slices_Insert_i_Lsa_i_Lsa [u, .int .i64 (i : Nat), .slice q 0 1 (some 1)] H K := by
  have hrl : r.length = 5 := (lsaT b).len hr.rd
  obtain ⟨es, ⟨w', rows, ess, e, h0, h1, rfl⟩, h2⟩ := hu
  cases e
  obtain ⟨fs, g1, g2⟩ := hr
  have hlen := h1.len
  -- the slices inside the new one go below
  have hc : Chain H0 (ess ++ ⟨5, rows, u⟩ :: fs) Hl := by
    have := Chain.append.2 ⟨Ho, h2, g2⟩
    show Chain H0 (ess ++ (⟨(lsaT b).n, rows, u⟩ : Ent) :: fs) Hl
    simpa using this
  obtain ⟨Hm, c1, c2⟩ := hc.top
  have c2 : Held Hm 5 rows u Hl := c2
  refine C_Insert_rows c2 hs hq hq0 (by omega) (by omega) fun v Hx Hy q1 q2 => ?_
  obtain ⟨c3, c4⟩ : ∃ A B : List Ent, OwnL (lsaT b) (xs.take i) (rows.take i) A ∧ OwnL (lsaT b) (xs.drop i) (rows.drop i) B ∧ ess = A ++ B := own_split h1 i
  obtain ⟨B, o1, o2, rfl⟩ := c4
  refine h v Hx Hy ⟨_, ⟨v, putAt rows i r, c3 ++ fs ++ B, rfl, ?_, (o1.append (.one g1)).append o2, rfl⟩, ?_⟩ q2
  · intro x hx
    rcases List.mem_append.1 hx with hx | hx
    · rcases List.mem_append.1 hx with hx | hx
      · exact h0 x (List.mem_of_mem_take hx)
      · simp at hx; subst hx; exact hrl
    · exact h0 x (List.mem_of_mem_drop hx)
  · have := c1.push q1
    refine this.perm ?_
    refine List.Perm.append_right _ ?_
    rw [List.append_assoc, List.append_assoc]
    exact List.Perm.append_left _ List.perm_append_comm
end Go.Proofs.YtohicpepcjgnaaaGreat
