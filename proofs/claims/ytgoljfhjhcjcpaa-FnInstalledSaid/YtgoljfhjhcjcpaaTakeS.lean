/-
Contracts: an advertisement is read from bytes, by the reference.
-/
import Derived.Test.YtgoljfhjhcjcpaaByteK
set_option linter.all false
namespace Go.Proofs.Ytgoljfhjhcjcpaa
open Go Go.Abs Go.Proofs

abbrev zrL : List V := [.int .i64 0, .int .i64 0, .int .i64 0, .nils, .nils]
theorem byte_at {H : Heap} {v : V} {b : List Int} {i : Int} {k : IntKind} {K : V → Prop} (hv : Rd H 1 v (b.map enB)) (h0 : 0 ≤ i) (hi : i.toNat < b.length) (h : K (.int .u8 (nth b i.toNat))) : bnd (aIndex H 1 v (.int k i)) fun t => bnd (aLd false 1 H t) K := by
  have hgd : (b.map enB).getD i.toNat [] = enB (nth b i.toNat) := by simp [hi, nth]
  refine hv.idx h0 (by simp; omega) fun p hp => ?_
  rw [hgd] at hp
  rw [hp.ld]
  exact h
theorem byte_part {H : Heap} {v : V} {b : List Int} {i j : Int} {k k' : IntKind} {K : V → Prop} (hv : Sl H 1 v (b.map enB)) (h0 : 0 ≤ i) (hij : i ≤ j) (hj : j.toNat ≤ b.length) (h : ∀ w, Rd H 1 w (((b.take j.toNat).drop i.toNat).map enB) → K w) : bnd (aSlice H 1 v (some (.int k i)) (some (.int k' j)) none) K := by
  obtain ⟨i, rfl⟩ := Int.eq_ofNat_of_zero_le h0
  obtain ⟨j, rfl⟩ := Int.eq_ofNat_of_zero_le (show 0 ≤ j by omega)
  simp only [Int.toNat_natCast] at *
  obtain ⟨w, h1, h2⟩ := Sl_part (k := k) (k' := k') hv (i := i) (j := j) (by omega) (by simpa using hj)
  rw [h1, bnd_some]
  refine h w ?_
  rw [List.map_drop, List.map_take]
  exact h2
def InvT1 (o s : Int) (b : List Int) (H : Heap) (m : Nat) (ys : List V) (Hc : Heap) : Prop :=
  ∃ (i : Nat) (u : V), i ≤ nL b ∧ 5 + 3 * i ≤ b.length ∧ ys = [.box zrL, .box zrL, .box [.int .i64 o, .int .i64 s, .int .i64 0, u, .nils], .int .i64 ((5 + 3 * i : Nat) : Int), .int .i64 (i : Nat)] ∧ m = nL b - i ∧ Held H 2 ((linksAt b i).map enLink) u Hc
def InvT2 (o s : Int) (b : List Int) (H : Heap) (m : Nat) (ys : List V) (Hc : Heap) : Prop :=
  ∃ (j : Nat) (u w : V) (H1 : Heap), j ≤ nS b ∧ pS b + 1 + 5 * j ≤ b.length ∧ ys = [.box zrL, .box zrL, .box [.int .i64 o, .int .i64 s, .int .i64 0, u, w], .int .i64 ((pS b + 1 + 5 * j : Nat) : Int), .int .i64 (j : Nat)] ∧ m = nS b - j ∧ Held H 2 ((linksAt b (nL b)).map enLink) u H1 ∧ Held H1 3 ((stubsAt b j).map enStub) w Hc
theorem cvB {b : List Int} (hin : ∀ c ∈ b, isB c) (i : Nat) : IntKind.i64.wrap (nth b i) = nth b i := u8_i64 (nth_in hin i)
end Go.Proofs.Ytgoljfhjhcjcpaa
