/-
Contracts of the laws' helpers over bytes; bytes from without.
-/
import Derived.Test.YtcmpkkcbdmllpacTakeP
set_option linter.all false
namespace Go.Proofs.Ytcmpkkcbdmllpac
open Go Go.Abs Go.Proofs

abbrev bytesT (b : Bool) : Ty (List Int) := sliceT b (flatT 1 enB (fun _ => rfl))
def bByteS (xs : List Int) : Prop := xs.length ≤ 1048576
theorem sB_ByteS {xs : List Int} (h : bByteS xs) : xs.length ≤ 10000000 := by unfold bByteS at h; omega
def mkBy (k : Int) (n : Nat) : List Int := (List.range n).map fun i => (k + (i : Nat)) % 256
@[simp] theorem mkBy_len (k : Int) (n : Nat) : (mkBy k n).length = n := by simp [mkBy]
theorem bytes_of {e : TypeId} {x : V} (hf : flat P 8 e = some [.int .u8]) (c : CT P 8 (.slice e) x) : ∃ xs : List Int, x = .ro (xs.map enB) ∧ (∀ c ∈ xs, isB c) ∧ xs.length ≤ 9223372036854775807 := by
  obtain ⟨rows, rfl, hl, h⟩ := CT_slice hf c
  have key : ∀ rows : List (List V), (∀ row ∈ rows, CTs P 7 [.int .u8] row) → ∃ xs : List Int, rows = xs.map enB ∧ ∀ c ∈ xs, isB c := by
    intro rows
    induction rows with
    | nil => exact fun _ => ⟨[], rfl, by simp⟩
    | cons r rows ih =>
      intro h
      obtain ⟨xs, rfl, hx⟩ := ih fun row hr => h row (List.mem_cons_of_mem _ hr)
      obtain ⟨y, ys, rfl, k0, c'⟩ := CTs_cons (h r (by simp))
      obtain rfl := CTs_nil c'
      obtain ⟨n, rfl, hw⟩ := CT_int k0
      refine ⟨n :: xs, rfl, fun z hz => ?_⟩
      rcases List.mem_cons.1 hz with rfl | hz
      · simp [Lit.wf] at hw
        have h0 : IntKind.u8.min = 0 := by decide
        have h1 : IntKind.u8.max = 255 := by decide
        unfold isB
        omega
      · exact hx z hz
  obtain ⟨xs, rfl, hx⟩ := key rows h
  exact ⟨xs, rfl, hx, by simp [maxLen] at hl; omega⟩
theorem bytes_of1 {e : TypeId} {x : List V} (hf : flat P 8 e = some [.int .u8]) (c : CTs P 8 [.slice e] x) : ∃ xs : List Int, x = [.ro (xs.map enB)] ∧ (∀ c ∈ xs, isB c) ∧ xs.length ≤ 9223372036854775807 := by
  obtain ⟨_, _, rfl, k0, c⟩ := CTs_cons c
  obtain rfl := CTs_nil c
  obtain ⟨xs, rfl, h1, h2⟩ := bytes_of hf k0
  exact ⟨xs, rfl, h1, h2⟩
theorem C_to_ByteS {b : Bool} {xs : List Int} {v : V} {H : Heap} {K : V → Heap → Prop} (hv : (bytesT b).rd H xs [v]) (hb : bByteS xs) (h : ∀ u H', Dp (bytesT false) H xs [u] H' → K u H') : ACalls P n_l_toByteS [v] H K := by
  unfold bByteS at hb
  have hv := (flat_rd.1 hv).1
  apply W_l_toByteS
  unfold F_l_toByteS
  simp [hv.len]
  refine ⟨by omega, fun o ho => ?_⟩
  refine ⟨fun n ys H' => ∃ i, i ≤ xs.length ∧ ys = [.int .i64 (i : Nat)] ∧ n = xs.length - i ∧ H' = upd H o ⟨1, (xs.map enB).take i ++ List.replicate (xs.length - i) (enB 0)⟩, ⟨xs.length, Shr.of ⟨0, by omega, rfl, by omega, by simp⟩⟩, ?_⟩
  rintro n ys H' ⟨i, hi, rfl, rfl, rfl⟩
  simp
  refine ⟨fun hlt => ?_, fun hge => ?_⟩
  · refine (hv.mono (sub_fresh ho)).idx (by omega) (by simpa using hlt) fun p hp => ?_
    simp only [hp.ld]
    simp [hlt]
    rw [aIndex_own (upd_eq _ _ _) rfl (by omega) (by omega)]
    simp
    rw [aSt_own (upd_eq _ _ _) (row := enB 0) (row' := enB xs[i]) (by simpa using fill_get (M := xs.map enB) (z := enB 0) (i := i) (by simp) (by simpa using hlt)) (by simp [stz_eq, putCells])]
    simp
    rw [i64_in (by omega) (by omega)]
    refine ⟨xs.length - (i + 1), by omega, Shr.of ⟨i + 1, by omega, by simp, rfl, ?_⟩⟩
    have := fill_set (M := xs.map enB) (z := enB 0) (i := i) (n := xs.length) (by simp) (by simpa using hlt)
    simp at this
    rw [this]
  · have : i = xs.length := by omega
    subst this
    have e : (xs.map enB).take xs.length ++ List.replicate (xs.length - xs.length) (enB 0) = xs.map enB := by rw [List.take_of_length_le (by simp)]; simp
    rw [e]
    exact Ret.of (h _ _ (flat_dp.2 (Held.full ho (by simp))))
theorem C_eq_ByteS {b c : Bool} {xs ys : List Int} {v w : V} {H : Heap} {K : V → Heap → Prop} (hv : (bytesT b).rd H xs [v]) (hw : (bytesT c).rd H ys [w]) (hb : bByteS xs) (h : K (.bool (decide (xs = ys))) H) :
    ACalls P n_l_eqByteS [v, w] H K := by
  unfold bByteS at hb
  have hv := (flat_rd.1 hv).1
  have hw := (flat_rd.1 hw).1
  apply W_l_eqByteS
  unfold F_l_eqByteS
  simp [hv.len, hw.len]
  refine ⟨fun hne => Ret.eq h ?_, fun heq => ?_⟩
  · have : xs ≠ ys := by rintro rfl; exact hne rfl
    simp [this]
  · have heq' : xs.length = ys.length := by omega
    refine ⟨fun n zs H' => ∃ i, i ≤ xs.length ∧ zs = [.int .i64 (i : Nat)] ∧ n = xs.length - i ∧ H' = H ∧ xs.take i = ys.take i, ⟨xs.length, Shr.of ⟨0, by omega, rfl, by omega, rfl, by simp⟩⟩, ?_⟩
    rintro n zs H' ⟨i, hi, rfl, rfl, rfl, ht⟩
    simp
    refine ⟨fun hlt => ⟨H', by simp, ?_⟩, fun hge => ?_⟩
    · refine hv.idx (by omega) (by simpa using hlt) fun p hp => ?_
      simp only [hp.ld]
      simp [hlt]
      refine hw.idx (by omega) (by simp; omega) fun q hq => ?_
      simp only [hq.ld]
      have hlt' : i < ys.length := by omega
      simp [hlt']
      refine ⟨fun hne => Ret.eq h ?_, fun he => ?_⟩
      · have : xs ≠ ys := by rintro rfl; exact hne rfl
        simp [this]
      · rw [i64_in (by omega) (by omega)]
        refine ⟨xs.length - (i + 1), by omega, Shr.of ⟨i + 1, by omega, by simp, rfl, rfl, ?_⟩⟩
        rw [List.take_succ_eq_append_getElem hlt, List.take_succ_eq_append_getElem hlt', ht, he]
    · have : i = xs.length := by omega
      subst this
      rw [List.take_of_length_le (by omega), List.take_of_length_le (by omega)] at ht
      exact Ret.eq h (by simp [ht])
theorem C_l_markByteS {o n : Nat} {cap : Option Nat} {rows : List (List V)} {k : Int} {H : Heap} {K : V → Heap → Prop} (ho : H o = some ⟨1, rows⟩) (hr : ∀ r ∈ rows, r.length = 1) (hn : rows.length = n) (hk : 0 ≤ k) (hkn : k + n ≤ 1000000000000)
    (h : K (.int .i64 (k + n)) (upd H o ⟨1, (mkBy k n).map enB⟩)) : ACalls P n_l_markByteS [.slice o 0 n cap, .int .i64 k] H K := by
  apply W_l_markByteS
  unfold F_l_markByteS
  simp
  refine ⟨fun m zs H' => ∃ i, i ≤ n ∧ zs = [.int .i64 (k + (i : Nat)), .int .i64 (i : Nat)] ∧ m = n - i ∧ H' = upd H o ⟨1, ((mkBy k n).map enB).take i ++ rows.drop i⟩, ⟨n, Shr.of ⟨0, by omega, by simp, by omega, ?_⟩⟩, ?_⟩
  · funext j
    by_cases e : j = o
    · subst e; simp [ho]
    · rw [upd_off e]
  rintro m zs H' ⟨i, hi, rfl, rfl, rfl⟩
  simp
  refine ⟨fun hlt => ?_, fun hge => ?_⟩
  · rw [u8w]
    rw [aIndex_own (upd_eq _ _ _) rfl (by omega) (by omega)]
    simp
    have hri : i < rows.length := by omega
    have hrow : rows[i].length = 1 := hr _ (List.getElem_mem hri)
    have hd : rows[i].drop 1 = [] := List.drop_eq_nil_of_le (by omega)
    rw [aSt_own (upd_eq _ _ _) (row := rows[i]) (row' := enB ((k + (i : Nat)) % 256)) (by simp; rw [over_get (by simp; omega) (by simp; omega)]; simp [hri]) (by rw [stz_eq (by simp) (by omega) (by simp)]; simp [putCells, hd])]
    simp
    rw [i64_in (by omega) (by omega), i64_in (by omega) (by omega)]
    refine ⟨n - (i + 1), by omega, Shr.of ⟨i + 1, by omega, by simp; omega, rfl, ?_⟩⟩
    rw [over_set (by simp; omega) (by simp [mkBy, hlt])]
  · have : i = n := by omega
    subst this
    refine Ret.eq (v' := .int .i64 (k + (i : Nat))) ?_ rfl
    have e : ((mkBy k i).map enB).take i ++ rows.drop i = (mkBy k i).map enB := by rw [List.take_of_length_le (by simp), List.drop_eq_nil_of_le (by omega)]; simp
    rw [e]; exact h
theorem C_mark_ByteS {xs : List Int} {u : V} {k : Int} {H0 Ho H : Heap} {K : V → Heap → Prop} (hu : Dp (bytesT false) H0 xs [u] Ho) (hs : Abs.sub Ho H) (hb : bByteS xs) (hk : 0 ≤ k ∧ k ≤ 1000000000)
    (h : ∀ H' Ho', Dp (bytesT false) H0 (mkBy k xs.length) [u] Ho' → Abs.sub Ho' H' → K (.int .i64 (k + xs.length)) H') : ACalls P n_l_markByteS [u, .int .i64 k] H K := by
  unfold bByteS at hb
  have hu := flat_dp.1 hu
  rcases hu with ⟨rfl, hr, rfl⟩ | ⟨o, cap, h1, rfl, hc, rfl⟩
  · have hx : xs = [] := by simpa using hr
    subst hx
    apply W_l_markByteS
    unfold F_l_markByteS
    simp
    refine ⟨fun m zs H' => zs = [.int .i64 k, .int .i64 0] ∧ H' = H, ⟨0, Shr.of ⟨rfl, rfl⟩⟩, ?_⟩
    rintro m zs H' ⟨rfl, rfl⟩
    simp
    refine Ret.eq (h _ Ho (flat_dp.2 (.inl ⟨rfl, by simp [mkBy], rfl⟩)) hs) (by simp)
  · refine C_l_markByteS (n := (xs.map enB).length) (rows := xs.map enB) (hs _ _ (upd_eq _ _ _)) enB_len rfl hk.1 (by simp; omega) ?_
    rw [List.length_map]
    exact h _ (upd H0 o ⟨1, (mkBy k xs.length).map enB⟩) (flat_dp.2 (.inr ⟨o, cap, h1, by simp, by simpa using hc, rfl⟩)) (by
      have := sub_upd2 (o := o) (x := ⟨1, (mkBy k xs.length).map enB⟩) hs
      simpa using this)
end Go.Proofs.Ytcmpkkcbdmllpac
