/-
Contracts: numbers are taken from bytes one by one.
-/
import Derived.Test.YtgoljfhjhcjcpaaTakeS
set_option linter.all false
namespace Go.Proofs.Ytgoljfhjhcjcpaa
open Go Go.Abs Go.Proofs

theorem shl_8 {x : Int} (h : 0 ≤ x ∧ x < 16777216) : aBinN .shl (.int .i64 x) (.int .u64 8) = some (.int .i64 (x * 256)) := by
  show (if (8 : Int) < 0 then none else some (V.int .i64 (IntKind.i64.wrap (x * 2 ^ (min (8 : Int).toNat IntKind.i64.bits))))) = _
  have e : (2 : Int) ^ (min (8 : Int).toNat IntKind.i64.bits) = 256 := by decide
  rw [e, if_neg (by omega), i64_in (by omega) (by omega)]
theorem or_low {x c : Int} (h : 0 ≤ x ∧ x < 16777216) (hc : isB c) : aBinN .or (.int .i64 (x * 256)) (.int .i64 c) = some (.int .i64 (256 * x + c)) := by
  unfold isB at hc
  show some (V.int .i64 (IntKind.i64.wrap ((BitVec.ofInt 64 (x * 256) ||| BitVec.ofInt 64 c).toNat : Int))) = _
  obtain ⟨a, rfl⟩ := Int.eq_ofNat_of_zero_le h.1
  obtain ⟨d, rfl⟩ := Int.eq_ofNat_of_zero_le hc.1
  have h1 : (BitVec.ofInt 64 ((a : Int) * 256) ||| BitVec.ofInt 64 (d : Int)).toNat = 256 * a + d := by
    rw [BitVec.toNat_or, BitVec.toNat_ofInt, BitVec.toNat_ofInt]
    have e1 : (((a : Int) * 256) % ((2 ^ 64 : Nat) : Int)).toNat = 2 ^ 8 * a := by omega
    have e2 : ((d : Int) % ((2 ^ 64 : Nat) : Int)).toNat = d := by omega
    rw [e1, e2, ← Nat.two_pow_add_eq_or_of_lt (by omega : d < 2 ^ 8)]
  rw [h1, i64_in (by omega) (by omega)]
  congr 2
/-- What is left to take, in its box. -/
def Tk (B : Heap) (b : List Int) (p : Nat) (bad : Bool) (row : List V) : Prop := ∃ sl, row = [sl, .bool bad] ∧ (cellsOf sl = [sl] ∧ cellOk sl = true ∧ notAny sl = true) ∧ (bad = false → p ≤ b.length ∧ Sl B 1 sl ((b.drop p).map enB))
theorem rdB_one {b : List Int} {p : Nat} (h : p < b.length) : rdB b p 1 = nth b p := by
  unfold rdB nth
  have e : (b.drop p).take 1 = [b[p]] := by rw [List.drop_eq_getElem_cons h]; rfl
  rw [List.drop_take, Nat.add_sub_cancel_left, e]
  simp [readB, h]
theorem rdB_drop (b : List Int) (p c : Nat) : rdB b p c = readB ((b.drop p).take c) := by
  unfold rdB
  rw [List.drop_take, Nat.add_sub_cancel_left]
def InvTk (H : Heap) (bs : List Int) (m : Nat) (ys : List V) (Hc : Heap) : Prop :=
  ∃ i : Nat, i ≤ bs.length ∧ ys = [.int .i64 (readB (bs.take i)), .int .i64 (i : Nat)] ∧ m = bs.length - i ∧ Hc = H
set_option maxHeartbeats 1000000 in
theorem C_take {B H : Heap} {o p c : Nat} {b : List Int} {bad : Bool} {row : List V} {K : V → Heap → Prop} (ho : H o = some ⟨2, [row]⟩) (hB : Abs.sub B H) (ht : Tk B b p bad row) (hin : ∀ c ∈ b, isB c) (hl : b.length ≤ 1048576) (hc : c ≤ 3)
    (h : ∀ v row' bad', Tk B b (p + c) bad' row' → (0 ≤ v ∧ v < 16777216 ∧ (c = 1 → v < 256)) → (bad' = false ↔ bad = false ∧ p + c ≤ b.length) → (bad' = false → v = rdB b p c) → K (.int .i64 v) (upd H o ⟨2, [row']⟩)) :
    ACalls P n_p_i_taker_take [.ptr o 0 0, .int .i64 (c : Nat)] H K := by
  obtain ⟨sl, rfl, cs, hs⟩ := ht
  apply W_p_i_taker_take
  unfold F_p_i_taker_take
  simp [aNil, show ∀ off, aField off (.ptr o 0 0) = some (.ptr o 0 (0 + off)) from fun _ => rfl, aLd_at ho, cs]
  have htb : Tk B b (p + c) true [sl, .bool true] := ⟨sl, rfl, cs, fun hh => by cases hh⟩
  have badK : (bad = false → b.length < p + c) → bnd (aSt 1 H (.ptr o 0 1) (.bool true)) fun H11 => Ret K (.int .i64 0) H11 := fun hh => by
    rw [aSt_at ho]
    simp [stz_eq, putCells]
    refine Ret.of (h 0 _ true htb ⟨by omega, by omega, by omega⟩ ?_ fun hf => by cases hf)
    constructor
    · intro hf; cases hf
    · rintro ⟨h1, h2⟩
      have := hh h1
      omega
  refine ⟨fun hb => badK fun hf => (by rw [hb] at hf; cases hf), fun hb => ?_⟩
  obtain ⟨hp, hsl⟩ := hs hb
  have hslH := hsl.mono hB
  have hlen : lenOf sl = some (b.length - p) := by have := hsl.1.len; simpa using this
  rw [hlen]
  refine ⟨fun q => badK fun _ => by omega, fun q => ?_⟩
  obtain ⟨w, w1, w2⟩ := Sl.upto (k := .i64) (i := c) hslH (by simp; omega)
  have hbs : ∀ x ∈ (b.drop p).take c, isB x := fun x hx => hin x (List.mem_of_mem_drop (List.mem_of_mem_take hx))
  rw [← List.map_take] at w2
  have hrd := rdB_drop b p c
  have hbl : ((b.drop p).take c).length = c := by simp; omega
  rw [w1]
  generalize (b.drop p).take c = bs at *
  have hwl : lenOf w = some bs.length := by have := w2.1.len; simpa using this
  simp [hwl]
  refine ⟨InvTk H bs, ⟨bs.length, Shr.of ⟨0, by omega, by simp [readB], by omega, rfl⟩⟩, ?_⟩
  rintro m ys Hc ⟨i, hi, rfl, rfl, rfl⟩
  simp
  refine ⟨fun hlt => ?_, fun hge => ?_⟩
  · have hgd : (bs.map enB).getD i [] = enB bs[i] := by simp [hlt]
    have b1 := read_small hbs (by omega) i
    have b2 := hbs _ (List.getElem_mem hlt)
    refine w2.1.idx (by omega) (by simpa using hlt) fun p2 hp2 => ?_
    simp only [Int.toNat_natCast, hgd] at hp2
    rw [hp2.ld]
    simp only [shl_8 b1, bnd_some]
    simp [aCv_int]
    rw [u8_i64 b2, or_low b1 b2]
    simp
    rw [i64_in (n := (i : Int) + 1) (by omega) (by omega)]
    exact ⟨bs.length - (i + 1), by omega, Shr.of ⟨i + 1, by omega, by simp [readB_succ hlt], rfl, rfl⟩⟩
  · have hi' : i = bs.length := by omega
    subst hi'
    rw [List.take_length]
    obtain ⟨w', g1, g2⟩ := Sl_from (k := .i64) (i := c) hslH (by simp; omega)
    obtain ⟨w0, g3, g4⟩ := Sl_from (k := .i64) (i := c) hsl (by simp; omega)
    have hww : w' = w0 := by
      have : aSlice B 1 sl (some (.int .i64 (c : Nat))) none none = aSlice Hc 1 sl (some (.int .i64 (c : Nat))) none none := by rw [g3]; exact (aSlice_up g3 hB).symm
      rw [g3, g1] at this
      exact (Option.some.inj this).symm
    have cw := g2.1.cell
    simp [aLd_at ho, cs, g1]
    rw [aSt_at ho]
    simp [stz_eq, putCells, cw]
    have hrl := read_small hbs (by omega) bs.length
    rw [List.take_length] at hrl
    refine Ret.of (h _ [w', .bool bad] false ⟨w', by rw [hb], cw, fun _ => ⟨by omega, ?_⟩⟩ ⟨hrl.1, hrl.2, fun h1 => ?_⟩ ⟨fun _ => ⟨hb, by omega⟩, fun _ => rfl⟩ fun _ => hrd.symm)
    · rw [hww, ← List.drop_drop]
      rw [← List.map_drop] at g4
      exact g4
    · have := readB_in hbs
      rw [hbl, h1] at this
      simpa using this.2
end Go.Proofs.Ytgoljfhjhcjcpaa
