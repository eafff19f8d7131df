/-
Contracts: slices are cut; bytes are read as numbers; equality of bytes; an advertisement in bytes.
-/
import Derived.Test.YtgoljfhjhcjcpaaBytM
set_option linter.all false
namespace Go.Proofs.Ytgoljfhjhcjcpaa
open Go Go.Abs Go.Proofs

theorem Sl_from {H : Heap} {sz : Nat} {v : V} {rows : List (List V)} {k : IntKind} {i : Nat} (h : Sl H sz v rows) (hi : i ≤ rows.length) : ∃ w, aSlice H sz v (some (.int k (i : Nat))) none none = some w ∧ Sl H sz w (rows.drop i) := by
  obtain ⟨⟨h0, h1⟩, h2, h3⟩ := h
  rcases h1 with rfl | ⟨rfl, rfl⟩ | ⟨o, s, cap, ob, rfl, g2, g3, g4, g5⟩
  · exact absurd rfl (h2 rows)
  · simp at hi
    subst hi
    exact ⟨.nils, by simp [aSlice, bound, natOf], ⟨by simp, .inr (.inl ⟨rfl, by simp⟩)⟩, by simp, by simp⟩
  · have hw : ∀ r ∈ rows.drop i, r.length = sz := fun r hr => h0 r (List.mem_of_mem_drop hr)
    have hn : (rows.drop i).length = rows.length - i := by simp
    have rd : ∀ c, Rd H sz (.slice o (s + i) (rows.length - i) c) (rows.drop i) := fun c => ⟨hw, .inr (.inr ⟨o, s + i, c, ob, by rw [hn], g2, g3, by rw [hn]; omega, fun j hj => by
      rw [hn] at hj
      rw [Nat.add_assoc, g5 (i + j) (by omega), List.getElem?_drop]⟩)⟩
    cases cap with
    | none => exact ⟨.slice o (s + i) (rows.length - i) none, by simp [aSlice, g2, g3, bound, natOf, hi], rd _, by simp, by simp⟩
    | some c =>
      have := h3 o s rows.length c rfl
      exact ⟨.slice o (s + i) (rows.length - i) (some (c - i)), by simp [aSlice, g2, g3, bound, natOf]; omega, rd _, by simp, fun o s n c e => by cases e; omega⟩
theorem Sl_part {H : Heap} {sz : Nat} {v : V} {rows : List (List V)} {k k' : IntKind} {i j : Nat} (h : Sl H sz v rows) (hij : i ≤ j) (hj : j ≤ rows.length) : ∃ w, aSlice H sz v (some (.int k (i : Nat))) (some (.int k' (j : Nat))) none = some w ∧ Rd H sz w ((rows.take j).drop i) := by
  obtain ⟨⟨h0, h1⟩, h2, h3⟩ := h
  rcases h1 with rfl | ⟨rfl, rfl⟩ | ⟨o, s, cap, ob, rfl, g2, g3, g4, g5⟩
  · exact absurd rfl (h2 rows)
  · simp at hj
    subst hj
    have : i = 0 := by omega
    subst this
    exact ⟨.nils, by simp [aSlice, bound, natOf], ⟨by simp, .inr (.inl ⟨rfl, by simp⟩)⟩⟩
  · have hw : ∀ r ∈ (rows.take j).drop i, r.length = sz := fun r hr => h0 r (List.mem_of_mem_take (List.mem_of_mem_drop hr))
    have hn : ((rows.take j).drop i).length = j - i := by simp; omega
    have rd : ∀ c, Rd H sz (.slice o (s + i) (j - i) c) ((rows.take j).drop i) := fun c => ⟨hw, .inr (.inr ⟨o, s + i, c, ob, by rw [hn], g2, g3, by rw [hn]; omega, fun t ht => by
      rw [hn] at ht
      rw [Nat.add_assoc, g5 (i + t) (by omega), List.getElem?_drop, List.getElem?_take, if_pos (by omega)]⟩)⟩
    cases cap with
    | none => exact ⟨.slice o (s + i) (j - i) none, by simp [aSlice, g2, g3, bound, natOf]; omega, rd _⟩
    | some c =>
      have := h3 o s rows.length c rfl
      exact ⟨.slice o (s + i) (j - i) (some (c - i)), by simp [aSlice, g2, g3, bound, natOf]; omega, rd _⟩
/-! #### bytes as a number -/
def readB (bs : List Int) : Int := bs.foldl (fun x c => 256 * x + c) 0
theorem readB_succ {bs : List Int} {i : Nat} (h : i < bs.length) : readB (bs.take (i + 1)) = 256 * readB (bs.take i) + bs[i] := by
  unfold readB
  rw [List.take_succ_eq_append_getElem h, List.foldl_append]
  rfl
theorem readB_in {bs : List Int} (hb : ∀ c ∈ bs, isB c) : 0 ≤ readB bs ∧ readB bs < 256 ^ bs.length := by
  have key : ∀ i, i ≤ bs.length → 0 ≤ readB (bs.take i) ∧ readB (bs.take i) < 256 ^ i := by
    intro i
    induction i with
    | zero => intro _; simp [readB]
    | succ i ih =>
      intro hi
      have a := ih (by omega)
      have b := hb _ (List.getElem_mem (show i < bs.length by omega))
      rw [readB_succ (by omega)]
      unfold isB at b
      have e : (256 : Int) ^ (i + 1) = 256 * 256 ^ i := by rw [Int.pow_succ]; omega
      rw [e]
      omega
  have := key bs.length (Nat.le_refl _)
  rw [List.take_length] at this
  exact this
theorem u8_i64 {c : Int} (h : isB c) : IntKind.i64.wrap c = c := by unfold isB at h; exact i64_in (by omega) (by omega)
theorem pow_small {n : Nat} (h : n ≤ 3) : (256 : Int) ^ n ≤ 16777216 := by
  have : n = 0 ∨ n = 1 ∨ n = 2 ∨ n = 3 := by omega
  rcases this with rfl | rfl | rfl | rfl <;> decide
def InvRe (H : Heap) (bs : List Int) (m : Nat) (ys : List V) (Hc : Heap) : Prop :=
  ∃ i : Nat, i ≤ bs.length ∧ ys = [.int .i64 (readB (bs.take i)), .int .i64 (i : Nat)] ∧ m = bs.length - i ∧ Hc = H
theorem take_in {bs : List Int} (hb : ∀ c ∈ bs, isB c) (i : Nat) : ∀ c ∈ bs.take i, isB c := fun c hc => hb c (List.mem_of_mem_take hc)
theorem read_small {bs : List Int} (hb : ∀ c ∈ bs, isB c) (hl : bs.length ≤ 3) (i : Nat) : 0 ≤ readB (bs.take i) ∧ readB (bs.take i) < 16777216 := by
  have h1 := readB_in (take_in hb i)
  have h2 := pow_small (n := (bs.take i).length) (by simp; omega)
  omega
/-! #### equality -/
def InvSm (H : Heap) (xs ys : List Int) (m : Nat) (zs : List V) (Hc : Heap) : Prop :=
  ∃ i : Nat, i ≤ xs.length ∧ zs = [.int .i64 (i : Nat)] ∧ m = xs.length - i ∧ Hc = H ∧ ∀ j, j < i → xs[j]? = ys[j]?
theorem list_eq_of {xs ys : List Int} (hl : xs.length = ys.length) (h : ∀ j, j < xs.length → xs[j]? = ys[j]?) : xs = ys := by
  apply List.ext_getElem? 
  intro j
  by_cases e : j < xs.length
  · exact h j e
  · rw [List.getElem?_eq_none (by omega), List.getElem?_eq_none (by omega)]
theorem C_slices_Equal_byte {xs ys : List Int} {v w : V} {H : Heap} {K : V → Heap → Prop} (hv : Rd H 1 v (xs.map enB)) (hw : Rd H 1 w (ys.map enB)) (hl : xs.length ≤ 1048576) (h : K (.bool (decide (xs = ys))) H) : ACalls P n_slices_Equal_byte_byte [v, w] H K := by
  apply W_slices_Equal_byte_byte
  unfold F_slices_Equal_byte_byte
  simp [hv.len, hw.len]
  refine ⟨fun q => Ret.no h fun hh => q (by rw [hh]), fun q => ?_⟩
  refine ⟨InvSm H xs ys, ⟨xs.length, Shr.of ⟨0, by omega, rfl, by omega, rfl, fun j hj => absurd hj (by omega)⟩⟩, ?_⟩
  rintro m zs Hc ⟨i, hi, rfl, rfl, rfl, hok⟩
  simp
  refine ⟨fun hlt => ?_, fun hge => ?_⟩
  · refine ⟨Hc, Abs.sub_refl _, ?_⟩
    have g1 : (xs.map enB).getD i [] = enB xs[i] := by simp [hlt]
    have hlt2 : i < ys.length := by omega
    have g2 : (ys.map enB).getD i [] = enB ys[i] := by simp [hlt2]
    refine hv.idx (by omega) (by simpa using hlt) fun p hp => ?_
    simp only [Int.toNat_natCast, g1] at hp
    rw [hp.ld]
    simp
    refine hw.idx (by omega) (by simpa using hlt2) fun p hp => ?_
    simp only [Int.toNat_natCast, g2] at hp
    rw [hp.ld]
    simp
    refine ⟨fun hne => Ret.no h fun hh => ?_, fun heq => ?_⟩
    · subst hh; exact hne rfl
    · rw [i64_in (n := (i : Int) + 1) (by omega) (by omega)]
      exact ⟨xs.length - (i + 1), by omega, Shr.of ⟨i + 1, by omega, by simp, rfl, rfl, fun j hj => by
        by_cases e : j = i
        · subst e; simp [hlt, hlt2, heq]
        · exact hok j (by omega)⟩⟩
  · exact Ret.yes h (list_eq_of (by omega) fun j hj => hok j (by omega))
/-! #### an advertisement in bytes -/
def putB (a : TLsa) : List Int := (lsaB a ++ [a.age % 256]) ++ wideL (lsaSum a) 3
theorem putB_len (a : TLsa) : (putB a).length = 10 + 3 * a.links.length + 5 * a.stubs.length := by
  unfold putB
  rw [List.length_append, List.length_append, lsaB_len]
  simp
  omega
theorem C_i_PutLsa {b : Bool} {a : TLsa} {vs : List V} {H : Heap} {K : V → Heap → Prop} (hv : (lsaT b).rd H a vs) (hl : a.links.length ≤ 1048576 ∧ a.stubs.length ≤ 1048576) (hy : lsaOk a → ∀ u H', Held H 1 ((putB a).map enB) u H' → K u H') (hn : ¬ lsaOk a → K .nils H) : ACalls P n_i_PutLsa [.agg vs] H K := by
  have hv' := hv
  obtain ⟨l, s, rfl, g1, g2⟩ := hv
  have hcc := lsa_cell g1 g2
  apply W_i_PutLsa
  unfold F_i_PutLsa
  simp [hcc]
  refine C_i_LsaOk hv' hl ?_
  simp
  refine ⟨fun q => Ret.of (hn q), fun hok => ?_⟩
  refine ⟨noHeap, none_sub _, ?_⟩
  try simp [aCv_int]
  refine C_i_Lsa_bytes hv' hok fun u H1 h1 => ?_
  simp [none_sub, bsl_one, u8w]
  intro o ho
  have hlb := lsaB_len (a := a)
  have hl4 := hok.2.2.2.1
  have hl5 := hok.2.2.2.2.1
  refine h1.append (sub_fresh ho) (by simp) (by simp; omega) fun v' H2 H2' h2 hs2 => ?_
  have h2' : Held H 1 ((lsaB a ++ [a.age % 256]).map enB) v' H2' := by
    rw [List.map_append]
    exact h2
  have hsH : Abs.sub H H2 := sub_trans h2.sub hs2
  refine C_i_Lsa_sum ((lsaT b).mono hv' hsH) hok ?_
  try simp [none_sub]
  refine C_i_big (n := 3) h2' hs2 (by simp; omega) (by omega) fun w H3 H3' h3 hs3 => ?_
  try simp [none_sub]
  exact Ret.shr (hy hok _ _ h3) rfl hs3
end Go.Proofs.Ytgoljfhjhcjcpaa
