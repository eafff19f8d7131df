/-
Contracts: advertisements as bytes.
-/
import Derived.Test.YtgoljfhjhcjcpaaDbF
import Derived.Test.YtgoljfhjhcjcpaaAbs3
set_option linter.all false
namespace Go.Proofs.Ytgoljfhjhcjcpaa
open Go Go.Abs Go.Proofs

abbrev enB (x : Int) : List V := [.int .u8 x]
theorem enB_len {xs : List Int} : ∀ r ∈ xs.map enB, r.length = 1 := by
  intro r hr
  obtain ⟨x, _, rfl⟩ := List.mem_map.1 hr
  rfl
def byteAt (x : Int) (i : Nat) : Int := (x / 2 ^ (8 * i)) % 256
def wideL (x : Int) : Nat → List Int
  | 0 => []
  | n + 1 => byteAt x n :: wideL x n
@[simp] theorem wide_len (x : Int) : ∀ n, (wideL x n).length = n
  | 0 => rfl
  | n + 1 => by simp [wideL, wide_len x n]
theorem wide_get (x : Int) : ∀ {n k : Nat}, k < n → (wideL x n)[n - (k + 1)]? = some (byteAt x k)
  | n + 1, k, h => by
    by_cases e : k = n
    · subst e; simp [wideL]
    · have := wide_get x (n := n) (k := k) (by omega)
      have e1 : n + 1 - (k + 1) = (n - (k + 1)) + 1 := by omega
      rw [e1, wideL, List.getElem?_cons_succ]
      exact this
theorem wide_take {x : Int} {n k : Nat} (h : k < n) : (wideL x n).take (n - k) = (wideL x n).take (n - (k + 1)) ++ [byteAt x k] := by
  obtain ⟨hi, he⟩ := List.getElem?_eq_some_iff.1 (wide_get x h)
  have e1 : n - k = n - (k + 1) + 1 := by omega
  rw [e1, List.take_succ_eq_append_getElem hi, he]
theorem u8w (x : Int) : IntKind.u8.wrap x = x % 256 := by
  show IntKind.wrap .u8 x = _
  unfold IntKind.wrap
  simp [IntKind.bits, IntKind.signed]
theorem aCv_int (k k' : IntKind) (x : Int) : aCv k (.int k' x) = some (.int k (k.wrap x)) := rfl
theorem shr_int {k k' : IntKind} {a b : Int} (h : 0 ≤ b) : aBinN .shr (.int k a) (.int k' b) = some (.int k (a.fdiv (2 ^ (min b.toNat k.bits)))) := by
  show (if b < 0 then none else some (V.int k (a.fdiv (2 ^ (min b.toNat k.bits))))) = _
  rw [if_neg (by omega)]
theorem and_255 {a : Int} : aBinN .and (.int .i64 a) (.int .i64 255) = some (.int .i64 (IntKind.i64.wrap ((BitVec.ofInt 64 a &&& BitVec.ofInt 64 255).toNat))) := rfl
theorem low_byte (y : Int) : IntKind.u8.wrap (IntKind.i64.wrap ((BitVec.ofInt 64 y &&& BitVec.ofInt 64 255).toNat : Int)) = y % 256 := by
  have h1 : (BitVec.ofInt 64 y &&& BitVec.ofInt 64 255).toNat = (y % 256).toNat := by
    rw [BitVec.toNat_and, BitVec.toNat_ofInt, BitVec.toNat_ofInt]
    have e : ((255 : Int) % ((2 ^ 64 : Nat) : Int)).toNat = 2 ^ 8 - 1 := by decide
    rw [e, Nat.and_two_pow_sub_one_eq_mod]
    omega
  rw [h1, i64_in (by omega) (by omega), u8w]
  omega
theorem shr_byte {x : Int} {k : Nat} (hk : k < 8) : x.fdiv (2 ^ (min (8 * k) 64)) % 256 = byteAt x k := by
  have e : min (8 * k) 64 = 8 * k := by omega
  rw [e, Int.fdiv_eq_ediv_of_nonneg _ (by exact Int.le_of_lt (Int.pow_pos (by omega)))]
  rfl

def InvW (H : Heap) (bs : List Int) (x : Int) (n : Nat) (m : Nat) (ys : List V) (Hc : Heap) : Prop :=
  ∃ (j : Nat) (u : V), j ≤ n ∧ ys = [u, .int .i64 ((j : Int) - 1)] ∧ m = j ∧ Held H 1 ((bs ++ (wideL x n).take (n - j)).map enB) u Hc
theorem C_s_l05Wide {x : Int} {n : Nat} {H : Heap} {K : V → Heap → Prop} (hn : n ≤ 8) (h : ∀ u H', Held H 1 ((wideL x n).map enB) u H' → K u H') : ACalls P n_s_l05Wide [.int .i64 x, .int .i64 (n : Nat)] H K := by
  apply W_s_l05Wide
  unfold F_s_l05Wide
  simp [bsl_nil]
  intro o ho
  rw [i64_in (by omega) (by omega)]
  refine ⟨InvW H [] x n, ⟨n, Shr.of ⟨n, .slice o 0 0 (some 0), by omega, rfl, rfl, by simpa using Held.new ho⟩⟩, ?_⟩
  rintro j ys Hc ⟨_, u, hj, rfl, rfl, hu⟩
  simp
  refine ⟨fun hlt => ?_, fun hge => ?_⟩
  · obtain ⟨k, rfl⟩ : ∃ k, j = k + 1 := ⟨j - 1, by omega⟩
    have ek : ((k + 1 : Nat) : Int) - 1 = (k : Nat) := by omega
    have ew : IntKind.u64.wrap (8 * (k : Int)) = 8 * k := by
      show IntKind.wrap .u64 _ = _
      unfold IntKind.wrap
      simp [IntKind.bits, IntKind.signed]
      omega
    simp only [ek]
    rw [i64_in (by omega) (by omega)]
    simp only [aCv_int, bnd_some, ew]
    rw [shr_int (by omega)]
    simp only [bnd_some, and_255, aCv_int, low_byte]
    have e8 : (8 * (k : Int)).toNat = 8 * k := by omega
    rw [e8]
    rw [show IntKind.i64.bits = 64 from rfl, shr_byte (by omega)]
    simp [bsl_one]
    intro o2 ho2
    refine hu.append (sub_fresh ho2) (by simp) (by simp; omega) fun v' H' H'' ho' hs' => ?_
    rw [i64_in (by omega) (by omega)]
    refine ⟨k, by omega, H'', hs', k, v', by omega, rfl, rfl, ?_⟩
    rw [wide_take (by omega)]
    simpa using ho'
  · have : j = 0 := by omega
    subst this
    simp at hu
    rw [List.take_of_length_le (by simp)] at hu
    exact Ret.of (h _ _ (by simpa using hu))
theorem C_i_big {x : Int} {bs : List Int} {v : V} {n : Nat} {H0 Hv H : Heap} {K : V → Heap → Prop} (hv : Held H0 1 (bs.map enB) v Hv) (hs : Abs.sub Hv H) (hl : bs.length ≤ 1048576) (hn : n ≤ 8)
    (h : ∀ u H' H'', Held H0 1 ((bs ++ wideL x n).map enB) u H'' → Abs.sub H'' H' → K u H') : ACalls P n_i_big [v, .int .i64 x, .int .i64 (n : Nat)] H K := by
  apply W_i_big
  unfold F_i_big
  simp
  rw [i64_in (by omega) (by omega)]
  refine ⟨InvW H0 bs x n, ⟨n, Hv, hs, ⟨n, v, by omega, rfl, rfl, by simpa using hv⟩⟩, ?_⟩
  rintro j ys Hc ⟨_, u, hj, rfl, rfl, hu⟩
  simp
  refine ⟨fun hlt => ?_, fun hge => ?_⟩
  · obtain ⟨k, rfl⟩ : ∃ k, j = k + 1 := ⟨j - 1, by omega⟩
    have ek : ((k + 1 : Nat) : Int) - 1 = (k : Nat) := by omega
    simp only [ek]
    rw [i64_in (by omega) (by omega)]
    rw [shr_int (by omega)]
    simp only [bnd_some, aCv_int, u8w]
    have e8 : (8 * (k : Int)).toNat = 8 * k := by omega
    rw [e8]
    rw [show IntKind.i64.bits = 64 from rfl, shr_byte (by omega)]
    simp [bsl_one]
    intro o2 ho2
    refine hu.append (sub_fresh ho2) (by simp) (by simp; omega) fun v' H' H'' ho' hs' => ?_
    rw [i64_in (by omega) (by omega)]
    refine ⟨k, by omega, H'', hs', k, v', by omega, rfl, rfl, ?_⟩
    rw [wide_take (by omega)]
    simpa using ho'
  · have : j = 0 := by omega
    subst this
    simp at hu
    rw [List.take_of_length_le (by simp)] at hu
    exact Ret.of (h _ _ _ (by simpa using hu) (Abs.sub_refl _))

def InvJ (H : Heap) (bs cs : List Int) (m : Nat) (ys : List V) (Hc : Heap) : Prop :=
  ∃ (i : Nat) (u : V), i ≤ cs.length ∧ ys = [u, .int .i64 (i : Nat)] ∧ m = cs.length - i ∧ Held H 1 ((bs ++ cs.take i).map enB) u Hc
theorem C_s_l01Bytes {b : Bool} {cs : List Int} {v : V} {H : Heap} {K : V → Heap → Prop} (hv : Rb b H 1 v (cs.map enB)) (hl : cs.length ≤ 1048576) (h : ∀ u H', Held H 1 (cs.map enB) u H' → K u H') : ACalls P n_s_l01Bytes [v] H K := by
  apply W_s_l01Bytes
  unfold F_s_l01Bytes
  simp [bsl_nil, hv.1.len]
  intro o ho
  refine ⟨InvJ H [] cs, ⟨cs.length, Shr.of ⟨0, .slice o 0 0 (some 0), by omega, rfl, by omega, by simpa using Held.new ho⟩⟩, ?_⟩
  rintro m ys Hc ⟨i, u, hi, rfl, rfl, hu⟩
  simp
  refine ⟨fun hlt => ?_, fun hge => ?_⟩
  · refine (hv.1.mono hu.sub).idx (by omega) (by simpa using hlt) fun p hp => ?_
    rw [hp.ld]
    simp [hlt, bsl_one]
    intro o2 ho2
    refine hu.append (sub_fresh ho2) (by simp) (by simp; omega) fun v' H' H'' ho' hs' => ?_
    rw [i64_in (by omega) (by omega)]
    refine ⟨cs.length - (i + 1), by omega, H'', hs', i + 1, v', by omega, by simp, rfl, ?_⟩
    rw [List.take_succ_eq_append_getElem hlt, ← List.append_assoc, List.map_append]
    exact ho'
  · have : i = cs.length := by omega
    subst this
    rw [List.take_length] at hu
    exact Ret.of (h _ _ (by simpa using hu))
theorem C_s_l01Join {b b' : Bool} {bs cs : List Int} {v w : V} {H : Heap} {K : V → Heap → Prop} (hv : Rb b H 1 v (bs.map enB)) (hw : Rb b' H 1 w (cs.map enB)) (hl : bs.length ≤ 1048576 ∧ cs.length ≤ 1048576) (h : ∀ u H', Held H 1 ((bs ++ cs).map enB) u H' → K u H') : ACalls P n_s_l01Join [v, w] H K := by
  apply W_s_l01Join
  unfold F_s_l01Join
  refine C_s_l01Bytes hv hl.1 fun u0 H1 hu0 => ?_
  refine ⟨InvJ H bs cs, cs.length, Shr.of ⟨0, u0, by omega, rfl, by omega, by simpa using hu0⟩, ?_⟩
  rintro m ys Hc ⟨i, u, hi, rfl, rfl, hu⟩
  simp [hw.1.len]
  refine ⟨fun hlt => ?_, fun hge => ?_⟩
  · refine (hw.1.mono hu.sub).idx (by omega) (by simpa using hlt) fun p hp => ?_
    rw [hp.ld]
    simp [hlt, bsl_one]
    intro o2 ho2
    refine hu.append (sub_fresh ho2) (by simp) (by simp; omega) fun v' H' H'' ho' hs' => ?_
    rw [i64_in (by omega) (by omega)]
    refine ⟨cs.length - (i + 1), by omega, H'', hs', i + 1, v', by omega, by simp, rfl, ?_⟩
    rw [List.take_succ_eq_append_getElem hlt, ← List.append_assoc, List.map_append]
    exact ho'
  · have : i = cs.length := by omega
    subst this
    rw [List.take_length] at hu
    exact Ret.of (h _ _ hu)
end Go.Proofs.Ytgoljfhjhcjcpaa
