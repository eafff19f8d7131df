/-
Contracts: advertisements as bytes.
-/
import Derived.Test.YtohicpepcjgnaaaGreatLsM
import Derived.Test.YtohicpepcjgnaaaGreatAbs3
set_option linter.all false
namespace Go.Proofs.YtohicpepcjgnaaaGreat
open Go Go.Abs Go.Proofs

abbrev enB (x : Int) : List V := [.int .u8 x]
theorem enB_len {xs : List Int} : ∀ r ∈ xs.map enB, r.length = 1 := by
  intro r hr
  obtain ⟨x, _, rfl⟩ := List.mem_map.1 hr
  rfl
def byteAt (x : Int) (i : Nat) : Int := (x / 2 ^ (8 * i)) % 256
def wideL (x : Int) : Nat → List Int
  | 0 => []
  | n + 1 => byteAt x n :: wideL x n
@[simp] theorem wide_len (x : Int) : ∀ n, (wideL x n).length = n
  | 0 => rfl
  | n + 1 => by simp [wideL, wide_len x n]
theorem wide_get (x : Int) : ∀ {n k : Nat}, k < n → (wideL x n)[n - (k + 1)]? = some (byteAt x k)
  | n + 1, k, h => by
    by_cases e : k = n
    · subst e; simp [wideL]
    · have := wide_get x (n := n) (k := k) (by omega)
      have e1 : n + 1 - (k + 1) = (n - (k + 1)) + 1 := by omega
      rw [e1, wideL, List.getElem?_cons_succ]
      exact this
theorem wide_take {x : Int} {n k : Nat} (h : k < n) : (wideL x n).take (n - k) = (wideL x n).take (n - (k + 1)) ++ [byteAt x k] := by
  obtain ⟨hi, he⟩ := List.getElem?_eq_some_iff.1 (wide_get x h)
  have e1 : n - k = n - (k + 1) + 1 := by omega
  rw [e1, List.take_succ_eq_append_getElem hi, he]
theorem u8w (x : Int) : IntKind.u8.wrap x = x % 256 := by
  show IntKind.wrap .u8 x = _
  unfold IntKind.wrap
  simp [IntKind.bits, IntKind.signed]
theorem aCv_int (k k' : IntKind) (x : Int) : aCv k (.int k' x) = some (.int k (k.wrap x)) := rfl
theorem shr_int {k k' : IntKind} {a b : Int} (h : 0 ≤ b) : aBinN .shr (.int k a) (.int k' b) = some (.int k (a.fdiv (2 ^ (min b.toNat k.bits)))) := by
  show (if b < 0 then none else some (V.int k (a.fdiv (2 ^ (min b.toNat k.bits))))) = _
  rw [if_neg (by omega)]
theorem and_255 {a : Int} : aBinN .and (.int .i64 a) (.int .i64 255) = some (.int .i64 (IntKind.i64.wrap ((BitVec.ofInt 64 a &&& BitVec.ofInt 64 255).toNat))) := rfl
theorem low_byte (y : Int) : IntKind.u8.wrap (IntKind.i64.wrap ((BitVec.ofInt 64 y &&& BitVec.ofInt 64 255).toNat : Int)) = y % 256 := by
  have h1 : (BitVec.ofInt 64 y &&& BitVec.ofInt 64 255).toNat = (y % 256).toNat := by
    rw [BitVec.toNat_and, BitVec.toNat_ofInt, BitVec.toNat_ofInt]
    have e : ((255 : Int) % ((2 ^ 64 : Nat) : Int)).toNat = 2 ^ 8 - 1 := by decide
    rw [e, Nat.and_two_pow_sub_one_eq_mod]
    omega
  rw [h1, i64_in (by omega) (by omega), u8w]
  omega
theorem shr_byte {x : Int} {k : Nat} (hk : k < 8) : x.fdiv (2 ^ (min (8 * k) 64)) % 256 = byteAt x k := by
  have e : min (8 * k) 64 = 8 * k := by omega
  rw [e, Int.fdiv_eq_ediv_of_nonneg _ (by exact Int.le_of_lt (Int.pow_pos (by omega)))]
  rfl

def InvW (H : Heap) (bs : List Int) (x : Int) (n : Nat) (m : Nat) (ys : List V) (Hc : Heap) : Prop :=
  ∃ (j : Nat) (u : V), j ≤ n ∧ ys = [u, .int .i64 ((j : Int) - 1)] ∧ m = j ∧ Held H 1 ((bs ++ (wideL x n).take (n - j)).map enB) u Hc
theorem C_s_l05Wide {x : Int} {n : Nat} {H : Heap} {K : V → Heap → Prop} (hn : n ≤ 8) (h : ∀ u H', Held H 1 ((wideL x n).map enB) u H' → K u H') : ACalls P n_s_l05Wide [.int .i64 x, .int .i64 (n : Nat)] H K := by
  apply W_s_l05Wide
  unfold F_s_l05Wide
  simp [bsl_nil]
  intro o ho
  rw [i64_in (by omega) (by omega)]
  refine ⟨InvW H [] x n, ⟨n, Shr.of ⟨n, .slice o 0 0 (some 0), by omega, rfl, rfl, by simpa using Held.new ho⟩⟩, ?_⟩
  rintro j ys Hc ⟨_, u, hj, rfl, rfl, hu⟩
  simp
  refine ⟨fun hlt => ?_, fun hge => ?_⟩
  · obtain ⟨k, rfl⟩ : ∃ k, j = k + 1 := ⟨j - 1, by omega⟩
    have ek : ((k + 1 : Nat) : Int) - 1 = (k : Nat) := by omega
    have ew : IntKind.u64.wrap (8 * (k : Int)) = 8 * k := by
      show IntKind.wrap .u64 _ = _
      unfold IntKind.wrap
      simp [IntKind.bits, IntKind.signed]
      omega
    simp only [ek]
    rw [i64_in (by omega) (by omega)]
    simp only [aCv_int, bnd_some, ew]
    rw [shr_int (by omega)]
    simp only [bnd_some, and_255, aCv_int, low_byte]
    have e8 : (8 * (k : Int)).toNat = 8 * k := by omega
    rw [e8]
    rw [show IntKind.i64.bits = 64 from rfl, shr_byte (by omega)]
    simp [bsl_one]
    intro o2 ho2
    refine hu.append (sub_fresh ho2) (by simp) (by simp; omega) fun v' H' H'' ho' hs' => ?_
    rw [i64_in (by omega) (by omega)]
    refine ⟨k, by omega, H'', hs', k, v', by omega, rfl, rfl, ?_⟩
    rw [wide_take (by omega)]
    simpa using ho'
  · have : j = 0 := by omega
    subst this
    simp at hu
    rw [List.take_of_length_le (by simp)] at hu
    exact Ret.of (h _ _ (by simpa using hu))
theorem C_i_big {x : Int} {bs : List Int} {v : V} {n : Nat} {H0 Hv H : Heap} {K : V → Heap → Prop} (hv : Held H0 1 (bs.map enB) v Hv) (hs : Abs.sub Hv H) (hl : bs.length ≤ 1048576) (hn : n ≤ 8)
    (h : ∀ u H' H'', Held H0 1 ((bs ++ wideL x n).map enB) u H'' → Abs.sub H'' H' → K u H') : ACalls P n_i_big [v, .int .i64 x, .int .i64 (n : Nat)] H K := by
  apply W_i_big
  unfold F_i_big
  simp
  rw [i64_in (by omega) (by omega)]
  refine ⟨InvW H0 bs x n, ⟨n, Hv, hs, ⟨n, v, by omega, rfl, rfl, by simpa using hv⟩⟩, ?_⟩
  rintro j ys Hc ⟨_, u, hj, rfl, rfl, hu⟩
  simp
  refine ⟨fun hlt => ?_, fun hge => ?_⟩
  · obtain ⟨k, rfl⟩ : ∃ k, j = k + 1 := ⟨j - 1, by omega⟩
    have ek : ((k + 1 : Nat) : Int) - 1 = (k : Nat) := by omega
    simp only [ek]
    rw [i64_in (by omega) (by omega)]
    rw [shr_int (by omega)]
    simp only [bnd_some, aCv_int, u8w]
    have e8 : (8 * (k : Int)).toNat = 8 * k := by omega
    rw [e8]
    rw [show IntKind.i64.bits = 64 from rfl, shr_byte (by omega)]
    simp [bsl_one]
    intro o2 ho2
    refine hu.append (sub_fresh ho2) (by simp) (by simp; omega) fun v' H' H'' ho' hs' => ?_
    rw [i64_in (by omega) (by omega)]
    refine ⟨k, by omega, H'', hs', k, v', by omega, rfl, rfl, ?_⟩
    rw [wide_take (by omega)]
    simpa using ho'
  · have : j = 0 := by omega
    subst this
    simp at hu
    rw [List.take_of_length_le (by simp)] at hu
    exact Ret.of (h _ _ _ (by simpa using hu) (Abs.sub_refl _))

def InvJ (H : Heap) (bs cs : List Int) (m : Nat) (ys : List V) (Hc : Heap) : Prop :=
  ∃ (i : Nat) (u : V), i ≤ cs.length ∧ ys = [u, .int .i64 (i : Nat)] ∧ m = cs.length - i ∧ Held H 1 ((bs ++ cs.take i).map enB) u Hc
theorem C_s_l01Bytes {b : Bool} {cs : List Int} {v : V} {H : Heap} {K : V → Heap → Prop} (hv : Rb b H 1 v (cs.map enB)) (hl : cs.length ≤ 1048576) (h : ∀ u H', Held H 1 (cs.map enB) u H' → K u H') : ACalls P n_s_l01Bytes [v] H K := by
  apply W_s_l01Bytes
  unfold F_s_l01Bytes
  simp [bsl_nil, hv.1.len]
  intro o ho
  refine ⟨InvJ H [] cs, ⟨cs.length, Shr.of ⟨0, .slice o 0 0 (some 0), by omega, rfl, by omega, by simpa using Held.new ho⟩⟩, ?_⟩
  rintro m ys Hc ⟨i, u, hi, rfl, rfl, hu⟩
  simp
  refine ⟨fun hlt => ?_, fun hge => ?_⟩
  · refine (hv.1.mono hu.sub).idx (by omega) (by simpa using hlt) fun p hp => ?_
    rw [hp.ld]
    simp [hlt, bsl_one]
    intro o2 ho2
    refine hu.append (sub_fresh ho2) (by simp) (by simp; omega) fun v' H' H'' ho' hs' => ?_
    rw [i64_in (by omega) (by omega)]
    refine ⟨cs.length - (i + 1), by omega, H'', hs', i + 1, v', by omega, by simp, rfl, ?_⟩
    rw [List.take_succ_eq_append_getElem hlt, ← List.append_assoc, List.map_append]
    exact ho'
  · have : i = cs.length := by omega
    subst this
    rw [List.take_length] at hu
    exact Ret.of (h _ _ (by simpa using hu))
theorem C_s_l01Join {b b' : Bool} {bs cs : List Int} {v w : V} {H : Heap} {K : V → Heap → Prop} (hv : Rb b H 1 v (bs.map enB)) (hw : Rb b' H 1 w (cs.map enB)) (hl : bs.length ≤ 1048576 ∧ cs.length ≤ 1048576) (h : ∀ u H', Held H 1 ((bs ++ cs).map enB) u H' → K u H') : ACalls P n_s_l01Join [v, w] H K := by
  apply W_s_l01Join
  unfold F_s_l01Join
  refine C_s_l01Bytes hv hl.1 fun u0 H1 hu0 => ?_
  refine ⟨InvJ H bs cs, cs.length, Shr.of ⟨0, u0, by omega, rfl, by omega, by simpa using hu0⟩, ?_⟩
  rintro m ys Hc ⟨i, u, hi, rfl, rfl, hu⟩
  simp [hw.1.len]
  refine ⟨fun hlt => ?_, fun hge => ?_⟩
  · refine (hw.1.mono hu.sub).idx (by omega) (by simpa using hlt) fun p hp => ?_
    rw [hp.ld]
    simp [hlt, bsl_one]
    intro o2 ho2
    refine hu.append (sub_fresh ho2) (by simp) (by simp; omega) fun v' H' H'' ho' hs' => ?_
    rw [i64_in (by omega) (by omega)]
    refine ⟨cs.length - (i + 1), by omega, H'', hs', i + 1, v', by omega, by simp, rfl, ?_⟩
    rw [List.take_succ_eq_append_getElem hlt, ← List.append_assoc, List.map_append]
    exact ho'
  · have : i = cs.length := by omega
    subst this
    rw [List.take_length] at hu
    exact Ret.of (h _ _ hu)
end Go.Proofs.YtohicpepcjgnaaaGreat
/-
Contracts: the encoding of an advertisement, both sides.
-/
namespace Go.Proofs.YtohicpepcjgnaaaGreat
open Go Go.Abs Go.Proofs

def lkB (k : TLink) : List Int := (k.1 % 256) :: wideL k.2 2
def stB (s : TStub) : List Int := (wideL s.1 2 ++ [s.2.1 % 256]) ++ wideL s.2.2 2
def headB (a : TLsa) : List Int := ([a.origin % 256] ++ wideL a.seq 3) ++ [(a.links.length : Int) % 256]
def midB (a : TLsa) : List Int := (headB a ++ a.links.flatMap lkB) ++ [(a.stubs.length : Int) % 256]
def lsaB (a : TLsa) : List Int := midB a ++ a.stubs.flatMap stB
theorem fm_succ {α : Type} {f : α → List Int} {xs : List α} {i : Nat} (h : i < xs.length) : (xs.take (i + 1)).flatMap f = (xs.take i).flatMap f ++ f xs[i] := by
  rw [List.take_succ_eq_append_getElem h, List.flatMap_append]
  simp
theorem fm_len {α : Type} {f : α → List Int} {c : Nat} (hf : ∀ x, (f x).length = c) : ∀ xs : List α, (xs.flatMap f).length = c * xs.length
  | [] => by simp
  | a :: xs => by
    rw [List.flatMap_cons, List.length_append, hf, fm_len hf xs, List.length_cons, Nat.mul_add]
    omega
theorem lkB_len (k : TLink) : (lkB k).length = 3 := by simp [lkB]
theorem stB_len (s : TStub) : (stB s).length = 5 := by simp [stB]
def InvB {α : Type} (H : Heap) (pre : List V) (B : List Int) (f : α → List Int) (xs : List α) (m : Nat) (ys : List V) (Hc : Heap) : Prop :=
  ∃ (i : Nat) (u : V), i ≤ xs.length ∧ ys = pre ++ [u, .int .i64 (i : Nat)] ∧ m = xs.length - i ∧ Held H 1 ((B ++ (xs.take i).flatMap f).map enB) u Hc
theorem headB_len (a : TLsa) : (headB a).length = 5 := by simp [headB]
theorem midB_len (a : TLsa) : (midB a).length = 6 + 3 * a.links.length := by
  rw [midB, List.length_append, List.length_append, headB_len, fm_len lkB_len]
  simp; omega
theorem one_rb {H : Heap} {o : Nat} {x : Int} (ho : H o = none) : Held H 1 ([x].map enB) (.slice o 0 1 (some 1)) (upd H o ⟨1, [[.int .u8 x]]⟩) := Held.full ho rfl
/-- What is held over a greater heap, taken back. -/
theorem held_back {H Ha H' : Heap} {sz : Nat} {rows : List (List V)} {u : V} (h : Held Ha sz rows u H') (hs : Abs.sub H Ha) : ∃ H'', Held H sz rows u H'' ∧ Abs.sub H'' H' := h.shrink hs

set_option maxHeartbeats 2000000 in
theorem C_s_LsaBytes {b : Bool} {a : TLsa} {vs : List V} {H : Heap} {K : V → Heap → Prop} (hv : (lsaT b).rd H a vs) (hok : lsaOk a) (h : ∀ u H', Held H 1 ((lsaB a).map enB) u H' → K u H') : ACalls P n_s_LsaBytes [.agg vs] H K := by
  have hv' := hv
  obtain ⟨l, s, rfl, g1, g2⟩ := hv
  have hcc := lsa_cell g1 g2
  have hll := hok.2.2.2.1
  have hsl := hok.2.2.2.2.1
  apply W_s_LsaBytes
  unfold F_s_LsaBytes
  simp [hcc]
  refine C_s_LsaOk hv' ?_
  simp [hok]
  refine ⟨H, Abs.sub_refl _, ?_⟩
  simp [aCv_int, u8w]
  refine C_s_l05Wide (n := 3) (by omega) fun u1 H1 hu1 => ⟨hu1.sub, ?_⟩
  simp [bsl_one]
  intro o ho
  refine ⟨sub_trans hu1.sub (sub_fresh ho), ?_⟩
  refine C_s_l01Join (b := false) (b' := false) ((one_rb (x := a.origin % 256) ho).rb enB_len) ((hu1.rb enB_len).mono (sub_fresh ho)) (by simp) fun u2 H2 hu2 => ?_
  obtain ⟨H2', hu2, hs2⟩ := held_back hu2 (sub_trans hu1.sub (sub_fresh ho))
  refine ⟨sub_trans hu2.sub hs2, ?_⟩
  simp [hcc, g1.1.len, bsl_one, aCv_int, u8w]
  intro o2 ho2
  refine hu2.append (sub_trans hs2 (sub_fresh ho2)) (by simp) (by simp) fun v3 H3' H3 hu3 hs3 => ?_
  refine ⟨InvB H [] (headB a) lkB a.links, ⟨a.links.length, H3, hs3, ⟨0, v3, by omega, rfl, by omega, by simpa [headB] using hu3⟩⟩, ?_⟩
  rintro m ys Hc ⟨i, u, hi, rfl, rfl, hu⟩
  simp [hcc, g1.1.len]
  have hlen : ((a.links.take i).flatMap lkB).length = 3 * i := by rw [fm_len lkB_len]; simp; omega
  refine ⟨fun hlt => ?_, fun hge => ?_⟩
  · have hfm := fm_succ (f := lkB) hlt
    have hrow : (a.links.map enLink).getD i [] = enLink a.links[i] := by simp [hlt]
    refine ⟨H, hu.sub, ?_⟩
    refine g1.1.idx (by omega) (by simpa using hlt) fun p hp => ?_
    simp only [Int.toNat_natCast, hrow] at hp
    refine hp.fld fun q hq => ?_
    rw [hq.ld]
    simp [aCv_int, u8w]
    refine g1.1.idx (by omega) (by simpa using hlt) fun p hp => ?_
    simp only [Int.toNat_natCast, hrow] at hp
    refine hp.fld fun q hq => ?_
    rw [hq.ld]
    simp [bsl_one]
    intro o3 ho3
    refine ⟨sub_trans hu.sub (sub_fresh ho3), ?_⟩
    refine hu.append (sub_fresh ho3) (by simp) (by rw [List.length_map, List.length_append, headB_len, hlen]; simp; omega) fun v4 H4' H4 hu4 hs4 => ?_
    refine ⟨sub_trans hu4.sub hs4, ?_⟩
    refine C_s_l05Wide (n := 2) (by omega) fun u5 H5 hu5 => ⟨sub_trans (sub_trans hu4.sub hs4) hu5.sub, ?_⟩
    have e4 : (headB a ++ (a.links.take i).flatMap lkB).map enB ++ [[V.int .u8 (a.links[i].1 % 256)]] = ((headB a ++ (a.links.take i).flatMap lkB) ++ [a.links[i].1 % 256]).map enB := by simp
    rw [e4] at hu4
    refine C_s_l01Join (b := false) (b' := false) ((hu4.rb enB_len).mono (sub_trans hs4 hu5.sub)) (hu5.rb enB_len) (by rw [List.length_append, List.length_append, headB_len, hlen]; simp; omega) fun u6 H6 hu6 => ?_
    obtain ⟨H6', hu6, hs6⟩ := held_back hu6 (sub_trans (sub_trans hu4.sub hs4) hu5.sub)
    refine ⟨sub_trans hu6.sub hs6, ?_⟩
    rw [i64_in (by omega) (by omega)]
    refine ⟨a.links.length - (i + 1), by omega, H6', hs6, i + 1, u6, by omega, rfl, rfl, ?_⟩
    rw [hfm]
    have e6 : headB a ++ ((a.links.take i).flatMap lkB ++ lkB a.links[i]) = headB a ++ (a.links.take i).flatMap lkB ++ [a.links[i].1 % 256] ++ wideL a.links[i].2 2 := by simp [lkB]
    rw [e6]
    exact hu6
  · have : i = a.links.length := by omega
    subst this
    rw [List.take_length] at hu hlen
    simp [hcc, g2.1.len, bsl_one, aCv_int, u8w]
    intro o3 ho3
    refine hu.append (sub_fresh ho3) (by simp) (by rw [List.length_map, List.length_append, headB_len, hlen]; simp; omega) fun v4 H4' H4 hu4 hs4 => ?_
    have e4 : (headB a ++ a.links.flatMap lkB).map enB ++ [[V.int .u8 ((a.stubs.length : Int) % 256)]] = (midB a).map enB := by simp [midB]
    rw [e4] at hu4
    refine ⟨InvB H [.box (lsaRow a l s)] (midB a) stB a.stubs, ⟨a.stubs.length, H4, hs4, ⟨0, v4, by omega, rfl, by omega, by simpa using hu4⟩⟩, ?_⟩
    rintro m ys Hd ⟨i, u, hi, rfl, rfl, hu⟩
    simp [hcc, g2.1.len]
    have hlen2 : ((a.stubs.take i).flatMap stB).length = 5 * i := by rw [fm_len stB_len]; simp; omega
    refine ⟨fun hlt => ?_, fun hge => ?_⟩
    · have hfm := fm_succ (f := stB) hlt
      have hrow : (a.stubs.map enStub).getD i [] = enStub a.stubs[i] := by simp [hlt]
      refine (g2.1.mono hu.sub).idx (by omega) (by simpa using hlt) fun p hp => ?_
      simp only [Int.toNat_natCast, hrow] at hp
      rw [hp.ld]
      simp [stz_eq, putCells]
      refine ⟨H, hu.sub, ?_⟩
      simp [aCv_int, u8w]
      refine C_s_l05Wide (n := 2) (by omega) fun u5 H5 hu5 => ⟨sub_trans hu.sub hu5.sub, ?_⟩
      refine C_s_l01Join (b := false) (b' := false) ((hu.rb enB_len).mono hu5.sub) (hu5.rb enB_len) (by rw [List.length_append, midB_len, hlen2]; simp; omega) fun u6 H6 hu6 => ?_
      obtain ⟨H6', hu6, hs6⟩ := held_back hu6 (sub_trans hu.sub hu5.sub)
      refine ⟨sub_trans hu6.sub hs6, ?_⟩
      simp [bsl_one]
      intro o7 ho7
      refine ⟨sub_trans (sub_trans hu6.sub hs6) (sub_fresh ho7), ?_⟩
      refine hu6.append (sub_trans hs6 (sub_fresh ho7)) (by simp) (by rw [List.length_map, List.length_append, List.length_append, midB_len, hlen2]; simp; omega) fun v8 H8' H8 hu8 hs8 => ?_
      refine ⟨sub_trans hu8.sub hs8, ?_⟩
      refine C_s_l05Wide (n := 2) (by omega) fun u9 H9 hu9 => ⟨sub_trans (sub_trans hu8.sub hs8) hu9.sub, ?_⟩
      have e8 : (midB a ++ (a.stubs.take i).flatMap stB ++ wideL a.stubs[i].1 2).map enB ++ [[V.int .u8 (a.stubs[i].2.1 % 256)]] = ((midB a ++ (a.stubs.take i).flatMap stB ++ wideL a.stubs[i].1 2) ++ [a.stubs[i].2.1 % 256]).map enB := by simp
      rw [e8] at hu8
      refine C_s_l01Join (b := false) (b' := false) ((hu8.rb enB_len).mono (sub_trans hs8 hu9.sub)) (hu9.rb enB_len) (by rw [List.length_append, List.length_append, List.length_append, midB_len, hlen2]; simp; omega) fun u10 H10 hu10 => ?_
      obtain ⟨H10', hu10, hs10⟩ := held_back hu10 (sub_trans (sub_trans hu8.sub hs8) hu9.sub)
      refine ⟨sub_trans hu10.sub hs10, ?_⟩
      rw [i64_in (by omega) (by omega)]
      refine ⟨a.stubs.length - (i + 1), by omega, H10', hs10, i + 1, u10, by omega, rfl, rfl, ?_⟩
      rw [hfm]
      have e6 : midB a ++ ((a.stubs.take i).flatMap stB ++ stB a.stubs[i]) = midB a ++ (a.stubs.take i).flatMap stB ++ wideL a.stubs[i].1 2 ++ [a.stubs[i].2.1 % 256] ++ wideL a.stubs[i].2.2 2 := by simp [stB]
      rw [e6]
      exact hu10
    · have : i = a.stubs.length := by omega
      subst this
      rw [List.take_length] at hu
      exact Ret.of (h _ _ hu)
set_option maxHeartbeats 2000000 in
theorem C_i_Lsa_bytes {b : Bool} {a : TLsa} {vs : List V} {H : Heap} {K : V → Heap → Prop} (hv : (lsaT b).rd H a vs) (hok : lsaOk a) (h : ∀ u H', Held H 1 ((lsaB a).map enB) u H' → K u H') : ACalls P n_i_Lsa_bytes [.agg vs] H K := by
  obtain ⟨l, s, rfl, g1, g2⟩ := hv
  have hcc := lsa_cell g1 g2
  have hll := hok.2.2.2.1
  have hsl := hok.2.2.2.2.1
  apply W_i_Lsa_bytes
  unfold F_i_Lsa_bytes
  simp [hcc, aCv_int, u8w, bsl_one]
  intro o ho
  refine C_i_big (n := 3) (one_rb (x := a.origin % 256) ho) (Abs.sub_refl _) (by simp) (by omega) fun u2 H2 H2' hu2 hs2 => ?_
  simp [hcc, g1.1.len, bsl_one, aCv_int, u8w]
  intro o2 ho2
  refine hu2.append (sub_trans hs2 (sub_fresh ho2)) (by simp) (by simp) fun v3 H3' H3 hu3 hs3 => ?_
  refine ⟨InvB H [.box (lsaRow a l s)] (headB a) lkB a.links, ⟨a.links.length, H3, hs3, ⟨0, v3, by omega, rfl, by omega, by simpa [headB] using hu3⟩⟩, ?_⟩
  rintro m ys Hc ⟨i, u, hi, rfl, rfl, hu⟩
  simp
  have hlen : ((a.links.take i).flatMap lkB).length = 3 * i := by rw [fm_len lkB_len]; simp; omega
  refine ⟨fun hlt => ?_, fun hge => ?_⟩
  · have hfm := fm_succ (f := lkB) hlt
    have hrow : (a.links.map enLink).getD i [] = enLink a.links[i] := by simp [hlt]
    refine (g1.1.mono hu.sub).idx (by omega) (by simpa using hlt) fun p hp => ?_
    simp only [Int.toNat_natCast, hrow] at hp
    rw [hp.ld]
    simp [stz_eq, putCells, aCv_int, u8w, bsl_one]
    intro o3 ho3
    refine hu.append (sub_fresh ho3) (by simp) (by rw [List.length_map, List.length_append, headB_len, hlen]; simp; omega) fun v4 H4' H4 hu4 hs4 => ?_
    have e4 : (headB a ++ (a.links.take i).flatMap lkB).map enB ++ [[V.int .u8 (a.links[i].1 % 256)]] = ((headB a ++ (a.links.take i).flatMap lkB) ++ [a.links[i].1 % 256]).map enB := by simp
    rw [e4] at hu4
    refine C_i_big (n := 2) hu4 hs4 (by rw [List.length_append, List.length_append, headB_len, hlen]; simp; omega) (by omega) fun u6 H6 H6' hu6 hs6 => ?_
    rw [i64_in (by omega) (by omega)]
    refine ⟨a.links.length - (i + 1), by omega, H6', hs6, i + 1, u6, by omega, rfl, rfl, ?_⟩
    rw [hfm]
    have e6 : headB a ++ ((a.links.take i).flatMap lkB ++ lkB a.links[i]) = headB a ++ (a.links.take i).flatMap lkB ++ [a.links[i].1 % 256] ++ wideL a.links[i].2 2 := by simp [lkB]
    rw [e6]
    exact hu6
  · have : i = a.links.length := by omega
    subst this
    rw [List.take_length] at hu hlen
    simp [hcc, g2.1.len, bsl_one, aCv_int, u8w]
    intro o3 ho3
    refine hu.append (sub_fresh ho3) (by simp) (by rw [List.length_map, List.length_append, headB_len, hlen]; simp; omega) fun v4 H4' H4 hu4 hs4 => ?_
    have e4 : (headB a ++ a.links.flatMap lkB).map enB ++ [[V.int .u8 ((a.stubs.length : Int) % 256)]] = (midB a).map enB := by simp [midB]
    rw [e4] at hu4
    refine ⟨InvB H [] (midB a) stB a.stubs, ⟨a.stubs.length, H4, hs4, ⟨0, v4, by omega, rfl, by omega, by simpa using hu4⟩⟩, ?_⟩
    rintro m ys Hd ⟨i, u, hi, rfl, rfl, hu⟩
    simp
    have hlen2 : ((a.stubs.take i).flatMap stB).length = 5 * i := by rw [fm_len stB_len]; simp; omega
    refine ⟨fun hlt => ?_, fun hge => ?_⟩
    · have hfm := fm_succ (f := stB) hlt
      have hrow : (a.stubs.map enStub).getD i [] = enStub a.stubs[i] := by simp [hlt]
      refine (g2.1.mono hu.sub).idx (by omega) (by simpa using hlt) fun p hp => ?_
      simp only [Int.toNat_natCast, hrow] at hp
      rw [hp.ld]
      simp [stz_eq, putCells]
      refine C_i_big (n := 2) hu (Abs.sub_refl _) (by rw [List.length_append, midB_len, hlen2]; omega) (by omega) fun u6 H6 H6' hu6 hs6 => ?_
      simp [aCv_int, u8w, bsl_one]
      intro o7 ho7
      refine hu6.append (sub_trans hs6 (sub_fresh ho7)) (by simp) (by rw [List.length_map, List.length_append, List.length_append, midB_len, hlen2]; simp; omega) fun v8 H8' H8 hu8 hs8 => ?_
      have e8 : (midB a ++ (a.stubs.take i).flatMap stB ++ wideL a.stubs[i].1 2).map enB ++ [[V.int .u8 (a.stubs[i].2.1 % 256)]] = ((midB a ++ (a.stubs.take i).flatMap stB ++ wideL a.stubs[i].1 2) ++ [a.stubs[i].2.1 % 256]).map enB := by simp
      rw [e8] at hu8
      refine C_i_big (n := 2) hu8 hs8 (by rw [List.length_append, List.length_append, List.length_append, midB_len, hlen2]; simp; omega) (by omega) fun u10 H10 H10' hu10 hs10 => ?_
      rw [i64_in (by omega) (by omega)]
      refine ⟨a.stubs.length - (i + 1), by omega, H10', hs10, i + 1, u10, by omega, rfl, rfl, ?_⟩
      rw [hfm]
      have e6 : midB a ++ ((a.stubs.take i).flatMap stB ++ stB a.stubs[i]) = midB a ++ (a.stubs.take i).flatMap stB ++ wideL a.stubs[i].1 2 ++ [a.stubs[i].2.1 % 256] ++ wideL a.stubs[i].2.2 2 := by simp [stB]
      rw [e6]
      exact hu10
    · have : i = a.stubs.length := by omega
      subst this
      rw [List.take_length] at hu
      exact Ret.of (h _ _ hu)
end Go.Proofs.YtohicpepcjgnaaaGreat
/-
Contracts: checksums; which advertisement is newer; offers.
-/
namespace Go.Proofs.YtohicpepcjgnaaaGreat
open Go Go.Abs Go.Proofs

def stepS (h c : Int) : Int := (257 * h + c + 1) % 1000003
def sumR (bs : List Int) : Int := bs.foldl stepS 1
def lsaSum (a : TLsa) : Int := sumR (lsaB a)
theorem sumR_in (bs : List Int) : 0 ≤ sumR bs ∧ sumR bs < 1000003 := by
  have : ∀ (bs : List Int) (h : Int), 0 ≤ h ∧ h < 1000003 → 0 ≤ bs.foldl stepS h ∧ bs.foldl stepS h < 1000003 := by
    intro bs
    induction bs with
    | nil => exact fun h hh => hh
    | cons c bs ih => exact fun h _ => ih _ (by unfold stepS; omega)
  exact this bs 1 (by omega)
theorem sumR_succ {bs : List Int} {i : Nat} (h : i < bs.length) : sumR (bs.take (i + 1)) = stepS (sumR (bs.take i)) bs[i] := by
  unfold sumR
  rw [List.take_succ_eq_append_getElem h, List.foldl_append]
  rfl
def isB (c : Int) : Prop := 0 ≤ c ∧ c < 256
theorem wide_in {x : Int} : ∀ {n : Nat}, ∀ c ∈ wideL x n, isB c
  | n + 1, c, h => by
    rcases List.mem_cons.1 h with rfl | h
    · unfold byteAt isB; omega
    · exact wide_in c h
theorem mod_in (x : Int) : isB (x % 256) := by unfold isB; omega
theorem lkB_in {k : TLink} : ∀ c ∈ lkB k, isB c := by
  intro c h
  rcases List.mem_cons.1 h with rfl | h
  · exact mod_in _
  · exact wide_in c h
theorem stB_in {k : TStub} : ∀ c ∈ stB k, isB c := by
  intro c h
  rcases List.mem_append.1 h with h | h
  · rcases List.mem_append.1 h with h | h
    · exact wide_in c h
    · simp at h; subst h; exact mod_in _
  · exact wide_in c h
theorem lsaB_in {a : TLsa} : ∀ c ∈ lsaB a, isB c := by
  intro c h
  rcases List.mem_append.1 h with h | h
  · rcases List.mem_append.1 h with h | h
    · rcases List.mem_append.1 h with h | h
      · rcases List.mem_append.1 h with h | h
        · rcases List.mem_append.1 h with h | h
          · simp at h; subst h; exact mod_in _
          · exact wide_in c h
        · simp at h; subst h; exact mod_in _
      · obtain ⟨k, _, hk⟩ := List.mem_flatMap.1 h
        exact lkB_in c hk
    · simp at h; subst h; exact mod_in _
  · obtain ⟨k, _, hk⟩ := List.mem_flatMap.1 h
    exact stB_in c hk
theorem lsaB_len {a : TLsa} : (lsaB a).length = 6 + 3 * a.links.length + 5 * a.stubs.length := by
  rw [lsaB, List.length_append, midB_len, fm_len stB_len]
theorem rem_int {a b : Int} (ha : 0 ≤ a) (hb : b ≠ 0) : aBinN .rem (.int .i64 a) (.int .i64 b) = some (.int .i64 (a % b)) := by
  show (if IntKind.i64 = IntKind.i64 then (if b = 0 then none else some (V.int .i64 (a.tmod b))) else none) = _
  rw [if_pos rfl, if_neg hb, Int.tmod_eq_emod_of_nonneg ha]
def InvSum (H : Heap) (bs : List Int) (m : Nat) (ys : List V) (Hc : Heap) : Prop :=
  ∃ i : Nat, i ≤ bs.length ∧ ys = [.int .i64 (sumR (bs.take i)), .int .i64 (i : Nat)] ∧ m = bs.length - i ∧ Hc = H
theorem C_s_LsaSum {b : Bool} {a : TLsa} {vs : List V} {H : Heap} {K : V → Heap → Prop} (hv : (lsaT b).rd H a vs) (hok : lsaOk a) (h : K (.int .i64 (lsaSum a)) H) : ACalls P n_s_LsaSum [.agg vs] H K := by
  have hv' := hv
  obtain ⟨l, s, rfl, g1, g2⟩ := hv
  have hcc := lsa_cell g1 g2
  apply W_s_LsaSum
  unfold F_s_LsaSum
  simp [hcc]
  refine C_s_LsaOk hv' ?_
  simp [hok]
  refine C_s_LsaBytes hv' hok fun u H1 hu => ?_
  have hrd := hu.rb enB_len
  have hbs := lsaB_in (a := a)
  have hbl := lsaB_len (a := a)
  have hll := hok.2.2.2.1
  have hsl := hok.2.2.2.2.1
  have hh : K (.int .i64 (sumR (lsaB a))) H := h
  generalize lsaB a = bs at *
  refine ⟨InvSum H1 bs, ⟨bs.length, Shr.of ⟨0, by omega, by simp [sumR], by omega, rfl⟩⟩, ?_⟩
  rintro m ys Hc ⟨i, hi, rfl, rfl, rfl⟩
  simp [hrd.1.len]
  refine ⟨fun hlt => ?_, fun hge => ?_⟩
  · have hs := sumR_in (bs.take i)
    have hc := hbs bs[i] (List.getElem_mem hlt)
    unfold isB at hc
    have hsucc := sumR_succ hlt
    generalize sumR (bs.take i) = q at *
    rw [i64_in (n := 257 * q) (by omega) (by omega)]
    refine hrd.1.idx (by omega) (by simpa using hlt) fun p hp => ?_
    rw [hp.ld]
    simp [hlt, aCv_int]
    rw [i64_in (n := bs[i]) (by omega) (by omega), i64_in (n := 257 * q + bs[i]) (by omega) (by omega), i64_in (n := 257 * q + bs[i] + 1) (by omega) (by omega), Int.tmod_eq_emod_of_nonneg (by omega), i64_in (n := (i : Int) + 1) (by omega) (by omega)]
    exact ⟨bs.length - (i + 1), by omega, Shr.of ⟨i + 1, by omega, by rw [hsucc]; rfl, rfl, rfl⟩⟩
  · have : i = bs.length := by omega
    subst this
    rw [List.take_length]
    exact Ret.shr hh rfl hu.sub
theorem C_i_Lsa_sum {b : Bool} {a : TLsa} {vs : List V} {H : Heap} {K : V → Heap → Prop} (hv : (lsaT b).rd H a vs) (hok : lsaOk a) (h : K (.int .i64 (lsaSum a)) H) : ACalls P n_i_Lsa_sum [.agg vs] H K := by
  have hv' := hv
  obtain ⟨l, s, rfl, g1, g2⟩ := hv
  have hcc := lsa_cell g1 g2
  apply W_i_Lsa_sum
  unfold F_i_Lsa_sum
  simp [hcc]
  refine C_i_Lsa_bytes hv' hok fun u H1 hu => ?_
  have hrd := hu.rb enB_len
  have hbs := lsaB_in (a := a)
  have hbl := lsaB_len (a := a)
  have hll := hok.2.2.2.1
  have hsl := hok.2.2.2.2.1
  have hh : K (.int .i64 (sumR (lsaB a))) H := h
  generalize lsaB a = bs at *
  simp [hrd.1.len]
  refine ⟨InvSum H1 bs, ⟨bs.length, Shr.of ⟨0, by omega, by simp [sumR], by omega, rfl⟩⟩, ?_⟩
  rintro m ys Hc ⟨i, hi, rfl, rfl, rfl⟩
  simp
  refine ⟨fun hlt => ?_, fun hge => ?_⟩
  · have hs := sumR_in (bs.take i)
    have hc := hbs bs[i] (List.getElem_mem hlt)
    unfold isB at hc
    have hsucc := sumR_succ hlt
    generalize sumR (bs.take i) = q at *
    refine hrd.1.idx (by omega) (by simpa using hlt) fun p hp => ?_
    rw [hp.ld]
    simp [hlt, aCv_int]
    rw [i64_in (n := 257 * q) (by omega) (by omega)]
    rw [i64_in (n := bs[i]) (by omega) (by omega), i64_in (n := 257 * q + bs[i]) (by omega) (by omega), i64_in (n := 257 * q + bs[i] + 1) (by omega) (by omega), Int.tmod_eq_emod_of_nonneg (by omega), i64_in (n := (i : Int) + 1) (by omega) (by omega)]
    exact ⟨bs.length - (i + 1), by omega, Shr.of ⟨i + 1, by omega, by rw [hsucc]; rfl, rfl, rfl⟩⟩
  · have : i = bs.length := by omega
    subst this
    rw [List.take_length]
    exact Ret.shr hh rfl hu.sub

def signI (x : Int) : Int := if 0 < x then 1 else if x < 0 then -1 else 0
theorem C_s_l05Sign {x : Int} {H : Heap} {K : V → Heap → Prop} (h : K (.int .i64 (signI x)) H) : ACalls P n_s_l05Sign [.int .i64 x] H K := by
  apply W_s_l05Sign
  unfold F_s_l05Sign
  simp
  unfold signI at h
  refine ⟨fun q => ?_, fun q => ⟨fun q2 => ?_, fun q2 => ?_⟩⟩
  · rw [if_pos q] at h; exact Ret.of h
  · rw [if_neg (by omega), if_pos q2] at h; exact Ret.of h
  · rw [if_neg (by omega), if_neg (by omega)] at h; exact Ret.of h
def newerR (a b : TLsa) : Int :=
  if a.seq ≠ b.seq then signI (a.seq - b.seq)
  else if lsaSum a ≠ lsaSum b then signI (lsaSum a - lsaSum b)
  else if a.age = b.age then 0
  else if a.age = 60 ∨ b.age = 60 then signI (a.age - b.age)
  else if a.age - b.age > 10 ∨ b.age - a.age > 10 then signI (b.age - a.age)
  else 0
theorem C_s_Newer {b b' : Bool} {x y : TLsa} {us vs : List V} {H : Heap} {K : V → Heap → Prop} (hu : (lsaT b).rd H x us) (hv : (lsaT b').rd H y vs) (hx : lsaOk x) (hy : lsaOk y) (ho : x.origin = y.origin) (h : K (.int .i64 (newerR x y)) H) : ACalls P n_s_Newer [.agg us, .agg vs] H K := by
  have hu' := hu
  have hv' := hv
  obtain ⟨l, s, rfl, g1, g2⟩ := hu
  have hcu := lsa_cell g1 g2
  obtain ⟨l', s', rfl, g1', g2'⟩ := hv
  have hcv := lsa_cell g1' g2'
  apply W_s_Newer
  unfold F_s_Newer
  simp [hcu, hcv]
  refine C_s_LsaOk hu' ?_
  simp [hx]
  refine C_s_LsaOk hv' ?_
  simp [hy]
  refine ⟨fun q => absurd ho q, fun _ => ?_⟩
  have s1 := hx.2.1
  have s2 := hy.2.1
  have a1 := hx.2.2.1
  have a2 := hy.2.2.1
  unfold newerR at h
  refine ⟨fun q => ?_, fun q => ?_⟩
  · rw [if_pos q] at h
    rw [i64_in (by omega) (by omega)]
    exact C_s_l05Sign (Ret.of h)
  rw [if_neg (by simpa using q)] at h
  refine ⟨H, Abs.sub_refl _, ?_⟩
  refine C_s_LsaSum hu' hx ⟨Abs.sub_refl _, ?_⟩
  refine C_s_LsaSum hv' hy ⟨Abs.sub_refl _, ?_⟩
  have m1 := sumR_in (lsaB x)
  have m2 := sumR_in (lsaB y)
  have m1 : 0 ≤ lsaSum x ∧ lsaSum x < 1000003 := m1
  have m2 : 0 ≤ lsaSum y ∧ lsaSum y < 1000003 := m2
  simp
  refine ⟨fun q2 => ?_, fun q2 => ?_⟩
  · rw [if_pos q2] at h
    refine ⟨H, Abs.sub_refl _, ?_⟩
    refine C_s_LsaSum hu' hx ⟨Abs.sub_refl _, ?_⟩
    refine C_s_LsaSum hv' hy ⟨Abs.sub_refl _, ?_⟩
    simp
    rw [i64_in (by omega) (by omega)]
    exact C_s_l05Sign ⟨Abs.sub_refl _, Ret.of h⟩
  rw [if_neg (by simpa using q2)] at h
  refine ⟨fun q3 => ?_, fun q3 => ?_⟩
  · rw [if_pos q3] at h; exact Ret.of h
  rw [if_neg q3] at h
  rw [i64_in (n := x.age - y.age) (by omega) (by omega), i64_in (n := y.age - x.age) (by omega) (by omega)]
  refine ⟨fun q4 => ?_, fun q4 => ⟨fun q5 => ?_, fun q5 => ⟨fun q6 => ?_, fun q6 => ⟨fun q7 => ?_, fun q7 => ?_⟩⟩⟩⟩
  · rw [if_pos (.inl q4)] at h; exact C_s_l05Sign (Ret.of h)
  · rw [if_pos (.inr q5)] at h; exact C_s_l05Sign (Ret.of h)
  · rw [if_neg (by omega), if_pos (by omega)] at h; exact C_s_l05Sign (Ret.of h)
  · rw [if_neg (by omega), if_pos (by omega)] at h; exact C_s_l05Sign (Ret.of h)
  · rw [if_neg (by omega), if_neg (by omega)] at h; exact Ret.of h
theorem C_i_newer_1 {b : Bool} {x : TLsa} {us : List V} {H : Heap} {K : V → Heap → Prop} (hu : (lsaT b).rd H x us) (h : K (.bool (decide (x.age = 60))) H) : ACalls P n_i_newer_1 [.agg us] H K := by
  obtain ⟨l, s, rfl, g1, g2⟩ := hu
  have hcu := lsa_cell g1 g2
  apply W_i_newer_1
  unfold F_i_newer_1
  simp [hcu]
  exact Ret.eq h (by by_cases q : x.age = 60 <;> simp [q])
def InvOr (x y : Int) (H : Heap) (m : Nat) (ys : List V) (Hc : Heap) : Prop := ∃ i : Nat, i ≤ 2 ∧ ys = [.int .i64 (i : Nat)] ∧ m = 2 - i ∧ Hc = H ∧ (0 < i → x = 0) ∧ (1 < i → y = 0)
theorem C_cmp_Or {x y : Int} {o : Nat} {H : Heap} {K : V → Heap → Prop} (ho : H o = some ⟨1, [[.int .i64 x], [.int .i64 y]]⟩) (h : K (.int .i64 (if x ≠ 0 then x else y)) H) : ACalls P n_cmp_Or_int [.slice o 0 2 (some 2)] H K := by
  have rd : Rd H 1 (.slice o 0 2 (some 2)) [[.int .i64 x], [.int .i64 y]] := by
    refine ⟨by simp, .inr (.inr ⟨o, 0, some 2, _, rfl, ho, rfl, by simp, fun i hi => ?_⟩)⟩
    simp at hi
    simp
  apply W_cmp_Or_int
  unfold F_cmp_Or_int
  simp
  refine ⟨InvOr x y H, ⟨2, Shr.of ⟨0, by omega, rfl, by omega, rfl, by omega, by omega⟩⟩, ?_⟩
  rintro m ys Hc ⟨i, hi, rfl, rfl, rfl, h1, h2⟩
  simp
  refine ⟨fun hlt => ?_, fun hge => ?_⟩
  · refine rd.idx (by omega) (by simp; omega) fun p hp => ?_
    rw [hp.ld]
    have e0 : i = 0 ∨ i = 1 := by omega
    rcases e0 with rfl | rfl
    · simp
      refine ⟨fun q => ?_, fun q => ?_⟩
      · rw [if_pos q] at h; exact Ret.of h
      · exact ⟨1, by omega, Shr.of ⟨1, by omega, by rw [i64_in (by omega) (by omega)]; rfl, rfl, rfl, fun _ => q, by omega⟩⟩
    · have hx := h1 (by omega)
      rw [if_neg (by simpa using hx)] at h
      simp
      refine ⟨fun q => Ret.of h, fun q => ?_⟩
      exact Shr.of ⟨2, by omega, by rw [i64_in (by omega) (by omega)]; rfl, rfl, rfl, fun _ => hx, fun _ => q⟩
  · have hx := h1 (by omega)
    have hy := h2 (by omega)
    rw [if_neg (by simpa using hx), hy] at h
    exact Ret.of h
theorem sign_cmp (a b : Int) : signI (a - b) = cmpI a b := by
  unfold signI cmpI
  repeat' split
  all_goals omega
theorem cmp_ne (a b : Int) : cmpI a b ≠ 0 ↔ a ≠ b := by
  unfold cmpI
  split
  · simp; omega
  · split
    · simp; omega
    · simp; omega
theorem newer_alt {x y : TLsa} (hx : lsaOk x) (hy : lsaOk y) : newerR x y = if (if cmpI x.seq y.seq ≠ 0 then cmpI x.seq y.seq else cmpI (lsaSum x) (lsaSum y)) ≠ 0 then (if cmpI x.seq y.seq ≠ 0 then cmpI x.seq y.seq else cmpI (lsaSum x) (lsaSum y))
    else if ¬ (x.age = 60 ↔ y.age = 60) then (if x.age = 60 then 1 else -1) else if 10 < x.age - y.age then -1 else if 10 < y.age - x.age then 1 else 0 := by
  have a1 := hx.2.2.1
  have a2 := hy.2.2.1
  have hsg := sign_cmp
  have hne := cmp_ne
  unfold newerR
  rw [hsg, hsg]
  by_cases q1 : x.seq = y.seq
  · have e1 : cmpI x.seq y.seq = 0 := by rw [q1]; unfold cmpI; simp
    rw [if_neg (by simpa using q1), e1]
    simp only [ne_eq, not_true_eq_false, if_false]
    by_cases q2 : lsaSum x = lsaSum y
    · have e2 : cmpI (lsaSum x) (lsaSum y) = 0 := by rw [q2]; unfold cmpI; simp
      rw [e2]
      simp only [q2, ne_eq, not_true_eq_false, if_false]
      unfold signI
      repeat' split
      all_goals omega
    · have := (hne (lsaSum x) (lsaSum y)).2 q2
      simp [q2, this]
  · have := (hne x.seq y.seq).2 q1
    simp [q1, this]
theorem C_i_newer {b b' : Bool} {x y : TLsa} {us vs : List V} {H : Heap} {K : V → Heap → Prop} (hu : (lsaT b).rd H x us) (hv : (lsaT b').rd H y vs) (hx : lsaOk x) (hy : lsaOk y) (h : K (.int .i64 (newerR x y)) H) : ACalls P n_i_newer [.agg us, .agg vs] H K := by
  have hu' := hu
  have hv' := hv
  obtain ⟨l, s, rfl, g1, g2⟩ := hu
  have hcu := lsa_cell g1 g2
  obtain ⟨l', s', rfl, g1', g2'⟩ := hv
  have hcv := lsa_cell g1' g2'
  have a1 := hx.2.2.1
  have a2 := hy.2.2.1
  apply W_i_newer
  unfold F_i_newer
  simp [hcu, hcv]
  refine ⟨H, Abs.sub_refl _, ?_⟩
  refine C_cmp_Compare_int ⟨Abs.sub_refl _, ?_⟩
  refine C_i_Lsa_sum hu' hx ⟨Abs.sub_refl _, ?_⟩
  refine C_i_Lsa_sum hv' hy ⟨Abs.sub_refl _, ?_⟩
  refine C_cmp_Compare_int ⟨Abs.sub_refl _, ?_⟩
  rw [newer_alt hx hy] at h
  generalize cmpI x.seq y.seq = c1 at *
  generalize cmpI (lsaSum x) (lsaSum y) = c2 at *
  have hb : bsl 1 2 [V.int .i64 0] [(0, .int .i64 c1), (1, .int .i64 c2)] = some [[.int .i64 c1], [.int .i64 c2]] := rfl
  rw [hb]
  simp only [bnd_some]
  intro o ho
  have hs := sub_fresh (x := ⟨1, [[V.int .i64 c1], [.int .i64 c2]]⟩) ho
  refine ⟨hs, ?_⟩
  refine C_cmp_Or (upd_eq _ _ _) ⟨hs, ?_⟩
  generalize (if c1 ≠ 0 then c1 else c2) = c at *
  simp
  refine ⟨fun q => ?_, fun q => ?_⟩
  · rw [if_pos q] at h; exact Ret.shr h rfl hs
  rw [if_neg (by simpa using q)] at h
  refine ⟨H, hs, ?_⟩
  refine C_i_newer_1 ((lsaT b).mono hu' hs) ⟨hs, ?_⟩
  refine C_i_newer_1 ((lsaT b').mono hv' hs) ⟨hs, ?_⟩
  rw [i64_in (n := x.age - y.age) (by omega) (by omega), i64_in (n := y.age - x.age) (by omega) (by omega)]
  have e : aBinB .neq (.bool (decide (x.age = 60))) (.bool (decide (y.age = 60))) = some (.bool (decide (x.age = 60) != decide (y.age = 60))) := rfl
  rw [e]
  simp only [bnd_some]
  by_cases q1 : x.age = 60
  · have d1 : decide (x.age = 60) = true := decide_eq_true q1
    by_cases q2 : y.age = 60
    · have d2 : decide (y.age = 60) = true := decide_eq_true q2
      rw [if_neg (by simp [q1, q2]), if_neg (by omega), if_neg (by omega)] at h
      simp only [d1, d2]
      simp
      exact ⟨fun q3 => absurd q3 (by omega), fun _ => ⟨fun q3 => absurd q3 (by omega), fun _ => Ret.shr h rfl hs⟩⟩
    · have d2 : decide (y.age = 60) = false := decide_eq_false q2
      rw [if_pos (by simp [q1, q2]), if_pos q1] at h
      simp only [d1, d2]
      simp
      refine C_i_newer_1 ((lsaT b).mono hu' hs) ?_
      simp only [d1]
      simp
      exact Ret.shr h rfl hs
  · have d1 : decide (x.age = 60) = false := decide_eq_false q1
    by_cases q2 : y.age = 60
    · have d2 : decide (y.age = 60) = true := decide_eq_true q2
      rw [if_pos (by simp [q1, q2]), if_neg q1] at h
      simp only [d1, d2]
      simp
      refine C_i_newer_1 ((lsaT b).mono hu' hs) ?_
      simp only [d1]
      simp
      exact Ret.shr h rfl hs
    · have d2 : decide (y.age = 60) = false := decide_eq_false q2
      rw [if_neg (by simp [q1, q2])] at h
      simp only [d1, d2]
      simp
      refine ⟨fun q3 => ?_, fun q3 => ⟨fun q4 => ?_, fun q4 => ?_⟩⟩
      · rw [if_pos q3] at h; exact Ret.shr h rfl hs
      · rw [if_neg (by omega), if_pos q4] at h; exact Ret.shr h rfl hs
      · rw [if_neg (by omega), if_neg (by omega)] at h; exact Ret.shr h rfl hs
end Go.Proofs.YtohicpepcjgnaaaGreat
/-
A form with its repeated part folded; printed by a program.
-/
namespace Go.Proofs.YtohicpepcjgnaaaGreat
open Go Go.Abs Go.Proofs

def restsInstall_0 (R : V → Heap → Prop) (xs30 : List V) (H31 : Heap) : Prop :=
  bnd (fillZ [.nils] []) fun c48 =>
  bnd (stz 1 [.nils] 0 (.agg c48)) fun c49 =>
  ∃ (I50 : Nat → List V → Heap → Prop) (n51 : Nat), Shr (I50 n51 [(.box (bc (xs30.headD .any))), (.box (bc (xs30.tail.headD .any))), (.box (bc (xs30.tail.tail.headD .any))), (.box c49), (.bool false), (.int .i64 0)]) H31 ∧
  ∀ n52 xs54 H55, I50 n52 xs54 H55 →
  bnd (partOf false 1 (bc (xs54.headD .any)) 0) fun t56 =>
  bnd (lenOf t56) fun n57 =>
  bnd (aBinN .lss (xs54.tail.tail.tail.tail.tail.headD .any) (.int .i64 (n57 : Nat))) fun t58 =>
  cnd t58
  (∃ J59 : List V → Heap → Prop,
  (∃ S62, Abs.sub S62 H55 ∧
  bnd (aNot (xs54.tail.tail.tail.tail.headD .any)) fun t63 =>
  gd t63 true
  (bnd (partOf false 1 (bc (xs54.tail.headD .any)) 0) fun t64 =>
  bnd (partOf false 1 (bc (xs54.headD .any)) 0) fun t65 =>
  bnd (aIndex S62 5 t65 (xs54.tail.tail.tail.tail.tail.headD .any)) fun t66 =>
  bnd (aField 0 t66) fun t67 =>
  bnd (aLd false 1 S62 t67) fun t68 =>
  bnd (aBinN .leq t64 t68) fun t69 =>
  cnd t69
  (bnd (partOf false 1 (bc (xs54.tail.tail.tail.headD .any)) 0) fun t70 =>
  bnd (partOf true 5 (bc (xs54.tail.headD .any)) 0) fun t71 =>
  ACalls P n_s_l05Copy [t71] H55 fun v72 H73 =>
  bnd (bsl 5 1 [(.int .i64 0), (.int .i64 0), (.int .i64 0), .nils, .nils] [(0, v72)]) fun r74 =>
  ∀ o75, H73 o75 = none →
  bnd (rowsOf (upd H73 o75 ⟨5, r74⟩) 5 (.slice o75 0 1 (some 1))) fun r78 =>
  appendK (upd H73 o75 ⟨5, r74⟩) 5 72 t70 r78 fun v76 H77 =>
  bnd (stz 1 (bc (xs54.tail.tail.tail.headD .any)) 0 v76) fun c79 =>
  Shr (J59 [(.box (bc (xs54.headD .any))), (.box (bc (xs54.tail.headD .any))), (.box (bc (xs54.tail.tail.headD .any))), (.box c79), (.bool true)]) H77)
  (Shr (J59 [(.box (bc (xs54.headD .any))), (.box (bc (xs54.tail.headD .any))), (.box (bc (xs54.tail.tail.headD .any))), (.box (bc (xs54.tail.tail.tail.headD .any))), (xs54.tail.tail.tail.tail.headD .any)]) H55))
  (Shr (J59 [(.box (bc (xs54.headD .any))), (.box (bc (xs54.tail.headD .any))), (.box (bc (xs54.tail.tail.headD .any))), (.box (bc (xs54.tail.tail.tail.headD .any))), (xs54.tail.tail.tail.tail.headD .any)]) H55)) ∧
  ∀ xs60 H61, J59 xs60 H61 →
  ∃ S80, Abs.sub S80 H61 ∧
  bnd (partOf false 1 (bc (xs60.headD .any)) 0) fun t81 =>
  bnd (aIndex S80 5 t81 (xs54.tail.tail.tail.tail.tail.headD .any)) fun t82 =>
  bnd (aField 0 t82) fun t83 =>
  bnd (aLd false 1 S80 t83) fun t84 =>
  bnd (partOf false 1 (bc (xs60.tail.headD .any)) 0) fun t85 =>
  bnd (aBinN .neq t84 t85) fun t86 =>
  cnd t86
  (bnd (partOf false 1 (bc (xs60.tail.tail.tail.headD .any)) 0) fun t87 =>
  bnd (partOf false 1 (bc (xs60.headD .any)) 0) fun t88 =>
  bnd (aIndex H61 5 t88 (xs54.tail.tail.tail.tail.tail.headD .any)) fun t89 =>
  bnd (aLd true 5 H61 t89) fun t90 =>
  ACalls P n_s_l05Copy [t90] H61 fun v91 H92 =>
  bnd (bsl 5 1 [(.int .i64 0), (.int .i64 0), (.int .i64 0), .nils, .nils] [(0, v91)]) fun r93 =>
  ∀ o94, H92 o94 = none →
  bnd (rowsOf (upd H92 o94 ⟨5, r93⟩) 5 (.slice o94 0 1 (some 1))) fun r97 =>
  appendK (upd H92 o94 ⟨5, r93⟩) 5 72 t87 r97 fun v95 H96 =>
  bnd (stz 1 (bc (xs60.tail.tail.tail.headD .any)) 0 v95) fun c98 =>
  bnd (aBinN .add (xs54.tail.tail.tail.tail.tail.headD .any) (.int .i64 1)) fun t99 =>
  ∃ n53, n53 < n52 ∧ Shr (I50 n53 [(.box (bc (xs60.headD .any))), (.box (bc (xs60.tail.headD .any))), (.box (bc (xs60.tail.tail.headD .any))), (.box c98), (xs60.tail.tail.tail.tail.headD .any), t99]) H96)
  (bnd (aBinN .add (xs54.tail.tail.tail.tail.tail.headD .any) (.int .i64 1)) fun t100 =>
  ∃ n53, n53 < n52 ∧ Shr (I50 n53 [(.box (bc (xs60.headD .any))), (.box (bc (xs60.tail.headD .any))), (.box (bc (xs60.tail.tail.headD .any))), (.box (bc (xs60.tail.tail.tail.headD .any))), (xs60.tail.tail.tail.tail.headD .any), t100]) H61))
  (bnd (aNot (xs54.tail.tail.tail.tail.headD .any)) fun t101 =>
  cnd t101
  (bnd (partOf false 1 (bc (xs54.tail.tail.tail.headD .any)) 0) fun t102 =>
  bnd (partOf true 5 (bc (xs54.tail.headD .any)) 0) fun t103 =>
  ACalls P n_s_l05Copy [t103] H55 fun v104 H105 =>
  bnd (bsl 5 1 [(.int .i64 0), (.int .i64 0), (.int .i64 0), .nils, .nils] [(0, v104)]) fun r106 =>
  ∀ o107, H105 o107 = none →
  bnd (rowsOf (upd H105 o107 ⟨5, r106⟩) 5 (.slice o107 0 1 (some 1))) fun r110 =>
  appendK (upd H105 o107 ⟨5, r106⟩) 5 72 t102 r110 fun v108 H109 =>
  bnd (stz 1 (bc (xs54.tail.tail.tail.headD .any)) 0 v108) fun c111 =>
  bnd (partOf true 1 c111 0) fun t112 =>
  bnd (stz 1 (bc (xs54.tail.tail.headD .any)) 0 t112) fun c113 =>
  bnd (partOf true 1 c113 0) fun t114 =>
  Ret R (.tup [t114, (.int .i64 0)]) H109)
  (bnd (partOf true 1 (bc (xs54.tail.tail.tail.headD .any)) 0) fun t115 =>
  bnd (stz 1 (bc (xs54.tail.tail.headD .any)) 0 t115) fun c116 =>
  bnd (partOf true 1 c116 0) fun t117 =>
  Ret R (.tup [t117, (.int .i64 0)]) H55))
def F'_s_Install (R : V → Heap → Prop) (a0 a1 : V) (H : Heap) : Prop :=
  boxK a0 (boxK a1 (bnd (partOf true 1 (cellsOf a0) 0) fun t1 =>
  ACalls P n_s_DbOk [t1] H fun v2 H3 =>
  bnd (aNot v2) fun t4 =>
  gd t4 false
  (bnd (partOf true 5 (cellsOf a1) 0) fun t5 =>
  ACalls P n_s_LsaOk [t5] H3 fun v6 H7 =>
  bnd (aNot v6) fun t8 =>
  cnd t8
  (bnd (partOf true 1 (cellsOf a0) 0) fun t9 =>
  ACalls P n_s_l06Copy [t9] H7 fun v10 H11 =>
  bnd (stz 1 [.nils] 0 v10) fun c12 =>
  bnd (partOf true 1 c12 0) fun t13 =>
  Ret R (.tup [t13, (.int .i64 3)]) H11)
  (bnd (partOf true 1 (cellsOf a0) 0) fun t14 =>
  bnd (partOf false 1 (cellsOf a1) 0) fun t15 =>
  ACalls P n_s_FindLsa [t14, t15] H7 fun v16 H17 =>
  bnd (aExtract 0 v16) fun t18 =>
  bnd (aExtract 1 v16) fun t19 =>
  bnd (stz 5 [(.int .i64 0), (.int .i64 0), (.int .i64 0), .nils, .nils] 0 t18) fun c20 =>
  bnd (aNot t19) fun t21 =>
  gd t21 true
  (bnd (partOf false 1 (cellsOf a1) 2) fun t22 =>
  bnd (aBinN .eql t22 (.int .i64 60)) fun t23 =>
  cnd t23
  (bnd (partOf true 1 (cellsOf a0) 0) fun t24 =>
  ACalls P n_s_l06Copy [t24] H17 fun v25 H26 =>
  bnd (stz 1 [.nils] 0 v25) fun c27 =>
  bnd (partOf true 1 c27 0) fun t28 =>
  Ret R (.tup [t28, (.int .i64 1)]) H26)
  (∃ J29 : List V → Heap → Prop,
  (cnd t19
  (bnd (partOf true 5 (cellsOf a1) 0) fun t32 =>
  bnd (partOf true 5 c20 0) fun t33 =>
  ACalls P n_s_Newer [t32, t33] H17 fun v34 H35 =>
  bnd (aBinN .eql v34 (.int .i64 0)) fun t36 =>
  cnd t36
  (bnd (partOf true 1 (cellsOf a0) 0) fun t37 =>
  ACalls P n_s_l06Copy [t37] H35 fun v38 H39 =>
  bnd (stz 1 [.nils] 0 v38) fun c40 =>
  bnd (partOf true 1 c40 0) fun t41 =>
  Ret R (.tup [t41, (.int .i64 1)]) H39)
  (bnd (aBinN .eql v34 (.int .i64 (-1))) fun t42 =>
  cnd t42
  (bnd (partOf true 1 (cellsOf a0) 0) fun t43 =>
  ACalls P n_s_l06Copy [t43] H35 fun v44 H45 =>
  bnd (stz 1 [.nils] 0 v44) fun c46 =>
  bnd (partOf true 1 c46 0) fun t47 =>
  Ret R (.tup [t47, (.int .i64 2)]) H45)
  (Shr (J29 [(.box (cellsOf a0)), (.box (cellsOf a1)), (.box [.nils])]) H35)))
  (Shr (J29 [(.box (cellsOf a0)), (.box (cellsOf a1)), (.box [.nils])]) H17)) ∧
  ∀ xs30 H31, J29 xs30 H31 →
  restsInstall_0 R xs30 H31))
  (∃ J118 : List V → Heap → Prop,
  (cnd t19
  (bnd (partOf true 5 (cellsOf a1) 0) fun t121 =>
  bnd (partOf true 5 c20 0) fun t122 =>
  ACalls P n_s_Newer [t121, t122] H17 fun v123 H124 =>
  bnd (aBinN .eql v123 (.int .i64 0)) fun t125 =>
  cnd t125
  (bnd (partOf true 1 (cellsOf a0) 0) fun t126 =>
  ACalls P n_s_l06Copy [t126] H124 fun v127 H128 =>
  bnd (stz 1 [.nils] 0 v127) fun c129 =>
  bnd (partOf true 1 c129 0) fun t130 =>
  Ret R (.tup [t130, (.int .i64 1)]) H128)
  (bnd (aBinN .eql v123 (.int .i64 (-1))) fun t131 =>
  cnd t131
  (bnd (partOf true 1 (cellsOf a0) 0) fun t132 =>
  ACalls P n_s_l06Copy [t132] H124 fun v133 H134 =>
  bnd (stz 1 [.nils] 0 v133) fun c135 =>
  bnd (partOf true 1 c135 0) fun t136 =>
  Ret R (.tup [t136, (.int .i64 2)]) H134)
  (Shr (J118 [(.box (cellsOf a0)), (.box (cellsOf a1)), (.box [.nils])]) H124)))
  (Shr (J118 [(.box (cellsOf a0)), (.box (cellsOf a1)), (.box [.nils])]) H17)) ∧
  ∀ xs119 H120, J118 xs119 H120 →
  restsInstall_0 R xs119 H120)))
  (bnd (partOf true 1 (cellsOf a0) 0) fun t207 =>
  ACalls P n_s_l06Copy [t207] H3 fun v208 H209 =>
  bnd (stz 1 [.nils] 0 v208) fun c210 =>
  bnd (partOf true 1 c210 0) fun t211 =>
  Ret R (.tup [t211, (.int .i64 3)]) H209)))
theorem fold_s_Install {R : V → Heap → Prop} {a0 a1 : V} {H : Heap} (h : F'_s_Install R a0 a1 H) : F_s_Install R a0 a1 H := h
end Go.Proofs.YtohicpepcjgnaaaGreat
/-
Contracts: an advertisement is installed (the reference's way); offers.
-/
namespace Go.Proofs.YtohicpepcjgnaaaGreat
open Go Go.Abs Go.Proofs

def offerR (xs : List TLsa) (l : TLsa) : Int :=
  if (findR xs l.origin).2 then (if newerR l (findR xs l.origin).1 = 1 then 0 else if newerR l (findR xs l.origin).1 = 0 then 1 else 2) else if l.age = 60 then 1 else 0
def stepP (l : TLsa) (o : List TLsa × Bool) (x : TLsa) : List TLsa × Bool :=
  let o1 := if o.2 = false ∧ l.origin ≤ x.origin then (o.1 ++ [l], true) else o
  if x.origin ≠ l.origin then (o1.1 ++ [x], o1.2) else o1
def foldP (l : TLsa) (xs : List TLsa) : List TLsa × Bool := xs.foldl (stepP l) ([], false)
def putL (l : TLsa) (xs : List TLsa) : List TLsa := if (foldP l xs).2 then (foldP l xs).1 else (foldP l xs).1 ++ [l]
def installR (xs : List TLsa) (l : TLsa) : List TLsa × Int := if dbOk xs ∧ lsaOk l then (if offerR xs l = 0 then (putL l xs, 0) else (xs, offerR xs l)) else (xs, 3)
theorem foldP_succ {l : TLsa} {xs : List TLsa} {i : Nat} (h : i < xs.length) : foldP l (xs.take (i + 1)) = stepP l (foldP l (xs.take i)) xs[i] := by
  unfold foldP
  rw [List.take_succ_eq_append_getElem h, List.foldl_append]
  rfl
theorem foldP_len (l : TLsa) : ∀ (xs : List TLsa), (foldP l xs).1.length ≤ 2 * xs.length := by
  have : ∀ (xs : List TLsa) (o : List TLsa × Bool), (xs.foldl (stepP l) o).1.length ≤ o.1.length + 2 * xs.length := by
    intro xs
    induction xs with
    | nil => intro o; simp
    | cons x xs ih =>
      intro o
      have h1 := ih (stepP l o x)
      have h2 : (stepP l o x).1.length ≤ o.1.length + 2 := by
        unfold stepP
        simp only
        split <;> split <;> simp
      simp only [List.foldl_cons, List.length_cons]
      omega
  intro xs
  have := this xs ([], false)
  unfold foldP
  simpa using this
theorem sign_in (z : Int) : signI z = -1 ∨ signI z = 0 ∨ signI z = 1 := by
  unfold signI
  repeat' split
  all_goals simp
theorem newer_in (x y : TLsa) : newerR x y = -1 ∨ newerR x y = 0 ∨ newerR x y = 1 := by
  unfold newerR
  repeat' split
  all_goals first | exact sign_in _ | simp

def InvI (c : Bool) (H : Heap) (xs : List TLsa) (w : V) (l : TLsa) (r : List V) (m : Nat) (ys : List V) (Hc : Heap) : Prop :=
  ∃ (i : Nat) (u : V), i ≤ xs.length ∧ ys = [.box [w], .box r, .box [.nils], .box [u], .bool (foldP l (xs.take i)).2, .int .i64 (i : Nat)] ∧ m = xs.length - i ∧ Dp (dbT c) H (foldP l (xs.take i)).1 [u] Hc
def mid1 (l : TLsa) (o : List TLsa × Bool) (x : TLsa) : List TLsa × Bool := if o.2 = false ∧ l.origin ≤ x.origin then (o.1 ++ [l], true) else o
theorem step_mid (l : TLsa) (o : List TLsa × Bool) (x : TLsa) : stepP l o x = if x.origin ≠ l.origin then ((mid1 l o x).1 ++ [x], (mid1 l o x).2) else mid1 l o x := rfl
def JI (c : Bool) (H : Heap) (w : V) (r : List V) (o : List TLsa × Bool) (ys : List V) (Hc : Heap) : Prop :=
  ∃ u, ys = [.box [w], .box r, .box [.nils], .box [u], .bool o.2] ∧ Dp (dbT c) H o.1 [u] Hc
set_option maxHeartbeats 2000000 in
theorem inst_rest {b b' c : Bool} {xs : List TLsa} {w : V} {l : TLsa} {r : List V} {H : Heap} {K : V → Heap → Prop} (hv : (dbT b).rd H xs [w]) (hr : (lsaT b').rd H l r) (hd : dbOk xs) (hl : lsaOk l)
    (h : ∀ u H', Dp (dbT c) H (putL l xs) [u] H' → K (.tup [.agg [u], .int .i64 0]) H') : restsInstall_0 K [.box [w], .box r, .box [.nils]] H := by
  have hxl := db_len hd
  have cw := rdS_cell hv
  have hr' := hr
  obtain ⟨lv, sv, rfl, g1, g2⟩ := hr
  have hcc := lsa_cell g1 g2
  have hl4 := hl.2.2.2.1
  have hl5 := hl.2.2.2.2.1
  unfold restsInstall_0
  simp [fillZ, stz_eq, putCells]
  refine ⟨InvI c H xs w l (lsaRow l lv sv), ⟨xs.length, Shr.of ⟨0, .nils, by omega, rfl, by omega, dpS_nil⟩⟩, ?_⟩
  rintro m ys Hc ⟨i, u, hi, rfl, rfl, hu⟩
  have cu := dpS_cell hu
  have hlen := foldP_len l (xs.take i)
  have hlen : (foldP l (xs.take i)).1.length ≤ 20 := by simp at hlen; omega
  simp [cw, rdS_len hv]
  refine ⟨fun hlt => ?_, fun hge => ?_⟩
  · have hsucc := foldP_succ (l := l) hlt
    rw [step_mid] at hsucc
    have hx := hd.1 i hlt
    have hxl4 := hx.2.2.2.1
    have hxl5 := hx.2.2.2.2.1
    generalize hfo : foldP l (xs.take i) = o at *
    obtain ⟨ob, op⟩ := o
    simp only at hu hlen ⊢
    refine ⟨JI c H w (lsaRow l lv sv) (mid1 l (ob, op) xs[i]), ?_, ?_⟩
    · refine ⟨H, hu.sub, ?_⟩
      have stay : ¬ (op = false ∧ l.origin ≤ xs[i].origin) → Shr (JI c H w (lsaRow l lv sv) (mid1 l (ob, op) xs[i]) [.box [w], .box (lsaRow l lv sv), .box [.nils], .box [u], .bool op]) Hc := fun hn => by
        refine Shr.of ⟨u, ?_, ?_⟩
        · rw [mid1, if_neg hn]
        · rw [mid1, if_neg hn]; exact hu
      cases op with
      | true =>
        simp
        exact stay (by simp)
      | false =>
        simp
        refine rdS_idx hv (by omega) (by simpa using hlt) fun p row hp hrw => hp.fld fun q hq => ?_
        simp only [Int.toNat_natCast] at hrw
        obtain ⟨l1, s1, rfl, _, _⟩ := hrw
        rw [hq.ld]
        simp
        refine ⟨fun hle => ?_, fun hgt => ?_⟩
        · have _ := hle
          refine C_s_l05Copy (b := b') (c := c) ((lsaT b').mono hr' hu.sub) (by omega) fun us H2 hus => ?_
          have hus' := hus
          obtain ⟨l', s', Hm, rfl, w1, w2⟩ := lsa_dp hus
          have c1 := w1.cell
          have c2 := w2.cell
          simp [bsl_one, c1, c2]
          intro o2 ho2
          refine dpS_app (T := lsaT c) hu hus' (sub_fresh ho2) (by omega) fun v' H' H'' ho' hs' => ?_
          have cv := dpS_cell ho'
          simp [stz_eq, putCells, cv]
          refine ⟨H'', hs', v', ?_, ?_⟩
          · rw [mid1, if_pos ⟨rfl, hle⟩]
          · rw [mid1, if_pos ⟨rfl, hle⟩]; exact ho'
        · exact stay (by simp; omega)
    · rintro ys Hd ⟨u, rfl, hu⟩
      have cu := dpS_cell hu
      have hml : (mid1 l (ob, op) xs[i]).1.length ≤ 21 := by
        unfold mid1
        split
        · simp; omega
        · simp; omega
      generalize mid1 l (ob, op) xs[i] = o1 at *
      refine ⟨H, hu.sub, ?_⟩
      simp [cw]
      refine rdS_idx hv (by omega) (by simpa using hlt) fun p row hp hrw => hp.fld fun q hq => ?_
      simp only [Int.toNat_natCast] at hrw
      obtain ⟨l1, s1, rfl, _, _⟩ := hrw
      rw [hq.ld]
      simp
      rw [i64_in (n := (i : Int) + 1) (by omega) (by omega)]
      refine ⟨fun hne => ?_, fun heq => ?_⟩
      · rw [if_pos hne] at hsucc
        refine rdS_idx ((dbT b).mono hv hu.sub) (by omega) (by simpa using hlt) fun p row hp hrw => ?_
        simp only [Int.toNat_natCast] at hrw
        rw [hp.ld]
        have hrw' := hrw
        obtain ⟨l2, s2, rfl, _, _⟩ := hrw
        simp
        refine C_s_l05Copy (b := b) (c := c) hrw' (by omega) fun us H2 hus => ?_
        have hus' := hus
        obtain ⟨l', s', Hm, rfl, w1, w2⟩ := lsa_dp hus
        have c1 := w1.cell
        have c2 := w2.cell
        simp [bsl_one, c1, c2]
        intro o2 ho2
        refine dpS_app (T := lsaT c) hu hus' (sub_fresh ho2) (by omega) fun v' H' H'' ho' hs' => ?_
        have cv := dpS_cell ho'
        simp [stz_eq, putCells, cv]
        refine ⟨xs.length - (i + 1), by omega, H'', hs', i + 1, v', by omega, ?_, rfl, ?_⟩
        · rw [hsucc]; simp
        · rw [hsucc]; exact ho'
      · rw [if_neg (by simpa using heq)] at hsucc
        refine ⟨xs.length - (i + 1), by omega, Shr.of ⟨i + 1, u, by omega, ?_, rfl, ?_⟩⟩
        · rw [hsucc]; simp
        · rw [hsucc]; exact hu
  · have : i = xs.length := by omega
    subst this
    rw [List.take_length] at hu hlen ⊢
    unfold putL at h
    refine ⟨fun hf => ?_, fun ht => ?_⟩
    · rw [if_neg (by simp [hf])] at h
      refine C_s_l05Copy (b := b') (c := c) ((lsaT b').mono hr' hu.sub) (by omega) fun us H2 hus => ?_
      have hus' := hus
      obtain ⟨l', s', Hm, rfl, w1, w2⟩ := lsa_dp hus
      have c1 := w1.cell
      have c2 := w2.cell
      simp [bsl_one, c1, c2]
      intro o2 ho2
      refine dpS_app (T := lsaT c) hu hus' (sub_fresh ho2) (by omega) fun v' H' H'' ho' hs' => ?_
      have cv := dpS_cell ho'
      simp [stz_eq, putCells, cv]
      exact Ret.shr (h _ _ ho') rfl hs'
    · rw [if_pos (by simpa using ht)] at h
      simp [stz_eq, putCells, cu]
      exact Ret.of (h _ _ hu)
end Go.Proofs.YtohicpepcjgnaaaGreat
/-
Contracts: offers; an advertisement is installed (the reference's way); what is lacking.
-/
namespace Go.Proofs.YtohicpepcjgnaaaGreat
open Go Go.Abs Go.Proofs

theorem find_case {xs : List TLsa} {o : Int} {i : Nat} (hd : dbOk xs) (h2 : ∀ j, j < i → og xs j < o) (h3 : ∀ j, i ≤ j → j < xs.length → o ≤ og xs j) :
    (∃ h : i < xs.length, og xs i = o ∧ findR xs o = (xs[i], true)) ∨ ((¬ (i < xs.length ∧ og xs i = o)) ∧ findR xs o = (zeroL, false)) := by
  by_cases hf : i < xs.length ∧ og xs i = o
  · exact .inl ⟨hf.1, hf.2, findR_at hd hf.1 hf.2⟩
  · refine .inr ⟨hf, findR_no fun j hj => ?_⟩
    by_cases e : j < i
    · have := h2 j e; omega
    · by_cases e2 : j = i
      · subst e2; exact fun hh => hf ⟨hj, hh⟩
      · have := og_lt hd (i := i) (j := j) (by omega) hj
        have := h3 i (by omega) (by omega)
        omega
theorem findR_ok {xs : List TLsa} {o : Int} (hd : dbOk xs) (h : (findR xs o).2 = true) : lsaOk (findR xs o).1 ∧ (findR xs o).1.origin = o := by
  unfold findR at *
  rw [if_pos hd] at *
  cases hf : xs.find? (fun a => a.origin == o) with
  | none => rw [hf] at h; simp at h
  | some a =>
    have h1 := List.mem_of_find?_eq_some hf
    have h2 := List.find?_some hf
    obtain ⟨i, hi, rfl⟩ := List.mem_iff_getElem.1 h1
    exact ⟨hd.1 i hi, by simpa using h2⟩
theorem C_i_Db_offer {b b' : Bool} {xs : List TLsa} {w : V} {l : TLsa} {r : List V} {H : Heap} {K : V → Heap → Prop} (hv : (dbT b).rd H xs [w]) (hr : (lsaT b').rd H l r) (hd : dbOk xs) (hl : lsaOk l) (h : K (.int .i64 (offerR xs l)) H) : ACalls P n_i_Db_offer [.agg [w], .agg r] H K := by
  have cw := rdS_cell hv
  have hr' := hr
  obtain ⟨lv, sv, rfl, g1, g2⟩ := hr
  have hcc := lsa_cell g1 g2
  apply W_i_Db_offer
  unfold F_i_Db_offer
  simp [cw, hcc]
  refine C_i_Db_find hv hd fun i h1 h2 h3 => ?_
  simp
  unfold offerR at h
  rcases find_case hd h2 h3 with ⟨hi, ho, hf⟩ | ⟨hf, hn⟩
  · rw [hf] at h
    simp only [if_true] at h
    have hq : ¬ (xs.length ≤ i ∨ ¬ og xs i = l.origin) := fun q => q.elim (fun q => by omega) (fun q => q ho)
    refine ⟨fun q => absurd q hq, fun _ _ => ?_⟩
    refine ⟨H, Abs.sub_refl _, ?_⟩
    refine rdS_idx hv (by omega) (by simpa using hi) fun p row hp hrw => ?_
    simp only [Int.toNat_natCast] at hrw
    rw [hp.ld]
    have hrw' := hrw
    obtain ⟨l1, s1, rfl, _, _⟩ := hrw
    simp
    refine C_i_newer hr' hrw' hl (hd.1 i hi) ⟨Abs.sub_refl _, ?_⟩
    simp
    refine ⟨fun q => ?_, fun q => ⟨fun q2 => ?_, fun q2 => ?_⟩⟩
    · rw [if_pos q] at h; exact Ret.of h
    · rw [if_neg q, if_pos q2] at h; exact Ret.of h
    · rw [if_neg q, if_neg q2] at h; exact Ret.of h
  · rw [hn] at h
    simp only [Bool.false_eq_true, if_false] at h
    refine ⟨fun _ => ?_, fun q1 q2 => absurd ⟨q1, q2⟩ hf⟩
    refine ⟨fun q => ?_, fun q => ?_⟩
    · rw [if_pos q] at h; exact Ret.of h
    · rw [if_neg q] at h; exact Ret.of h

def JF (H : Heap) (w : V) (r : List V) (ys : List V) (Hc : Heap) : Prop := ys = [.box [w], .box r, .box [.nils]] ∧ Hc = H
set_option maxHeartbeats 2000000 in
theorem C_s_Install {b b' c : Bool} {xs : List TLsa} {w : V} {l : TLsa} {r : List V} {H : Heap} {K : V → Heap → Prop} (hv : (dbT b).rd H xs [w]) (hr : (lsaT b').rd H l r) (hb : xs.length + sumF szl xs ≤ 1048576)
    (h : ∀ u H', Dp (dbT c) H (installR xs l).1 [u] H' → K (.tup [.agg [u], .int .i64 (installR xs l).2]) H') : ACalls P n_s_Install [.agg [w], .agg r] H K := by
  have cw := rdS_cell hv
  have hr' := hr
  obtain ⟨lv, sv, rfl, g1, g2⟩ := hr
  have hcc := lsa_cell g1 g2
  apply W_s_Install
  apply fold_s_Install
  unfold F'_s_Install
  simp [cw, hcc]
  have copy : ∀ (k : Int) (Hc : Heap), Abs.sub H Hc → (installR xs l) = (xs, k) → ACalls P n_s_l06Copy [.agg [w]] Hc fun v2 H3 =>
      bnd (stz 1 [.nils] 0 v2) fun c4 => bnd (if 1 ≤ c4.length then some (V.agg (c4.take 1)) else none) fun t5 => Ret K (.tup [t5, .int .i64 k]) H3 := fun k Hc hs e => by
    rw [e] at h
    refine C_s_l06Copy (c := c) ((dbT b).mono hv hs) hb fun u H1 hu => ?_
    have cu := dpS_cell hu
    simp [stz_eq, putCells, cu]
    exact Ret.dp (f := fun us => V.tup [.agg us, .int .i64 k]) hu hs (fun us H'' hd => by
      obtain ⟨u', rfl⟩ : ∃ u', us = [u'] := by
        obtain ⟨es, ⟨w', rows, ess, e, _⟩, _⟩ := hd
        exact ⟨w', e⟩
      exact h u' H'' hd)
  refine C_s_DbOk hv ?_
  simp
  refine ⟨fun q => ?_, fun hd => ?_⟩
  · exact copy 3 H (Abs.sub_refl _) (by unfold installR; rw [if_neg fun hh => q hh.1])
  refine C_s_LsaOk hr' ?_
  simp
  refine ⟨fun q => ?_, fun hl => ?_⟩
  · exact copy 3 H (Abs.sub_refl _) (by unfold installR; rw [if_neg fun hh => q hh.2])
  have hin : installR xs l = if offerR xs l = 0 then (putL l xs, 0) else (xs, offerR xs l) := by unfold installR; rw [if_pos ⟨hd, hl⟩]
  have rest : offerR xs l = 0 → ∀ ys Hc, JF H w (lsaRow l lv sv) ys Hc → restsInstall_0 K ys Hc := by
    rintro h0 ys Hc ⟨rfl, rfl⟩
    rw [hin, if_pos h0] at h
    exact inst_rest hv hr' hd hl h
  refine C_s_FindLsa (c := c) hv hb fun us H2 hus => ?_
  have hus' := hus
  obtain ⟨l', s', Hm, rfl, w1, w2⟩ := lsa_dp hus
  have c1 := w1.cell
  have c2 := w2.cell
  simp [aExtract, stz_eq, putCells, c1, c2]
  have hnw := newer_in l (findR xs l.origin).1
  cases hf : (findR xs l.origin).2 with
  | false =>
    have hof : offerR xs l = if l.age = 60 then 1 else 0 := by unfold offerR; rw [hf]; simp
    simp
    refine ⟨fun q => ?_, fun q => ?_⟩
    · rw [if_pos q] at hof
      exact copy 1 H2 hus'.sub (by rw [hin, hof]; simp)
    · rw [if_neg q] at hof
      exact ⟨JF H w (lsaRow l lv sv), ⟨H, hus'.sub, rfl, rfl⟩, rest hof⟩
  | true =>
    obtain ⟨hok, hor⟩ := findR_ok hd hf
    have hof : offerR xs l = if newerR l (findR xs l.origin).1 = 1 then 0 else if newerR l (findR xs l.origin).1 = 0 then 1 else 2 := by unfold offerR; rw [hf]; simp
    simp
    refine ⟨fun ys Hc => offerR xs l = 0 ∧ JF H w (lsaRow l lv sv) ys Hc, ?_, fun ys Hc hj => rest hj.1 ys Hc hj.2⟩
    · refine C_s_Newer ((lsaT b').mono hr' hus'.sub) hus'.rd hl hok hor.symm ?_
      simp
      refine ⟨fun q => ?_, fun q => ⟨fun q2 => ?_, fun q2 => ?_⟩⟩
      · exact copy 1 H2 hus'.sub (by rw [hin, hof, q]; simp)
      · exact copy 2 H2 hus'.sub (by rw [hin, hof, q2]; simp)
      · exact ⟨H, hus'.sub, by rw [hof, if_pos (by omega)], rfl, rfl⟩
end Go.Proofs.YtohicpepcjgnaaaGreat
