/-
Contracts: a net that has lived.
-/
import Derived.Test.YtohicpepcjgnaaaGreatFloodR
import Derived.Test.YtohicpepcjgnaaaGreatEdM
import Derived.Test.YtohicpepcjgnaaaGreatDelivD
import Derived.Test.YtohicpepcjgnaaaGreatNtM
import Derived.Test.YtohicpepcjgnaaaGreatDoubleC
import Derived.Test.YtohicpepcjgnaaaGreatNewNetC
import Derived.Test.YtohicpepcjgnaaaGreatCur
import Derived.Test.YtohicpepcjgnaaaGreatLawAid
set_option linter.all false
namespace Go.Proofs.YtohicpepcjgnaaaGreat
open Go Go.Abs Go.Proofs

/-- Bytes. -/
def Bb (bs : List (List V)) : Prop := ∀ r ∈ bs, ∃ x : Int, r = [.int .u8 x] ∧ 0 ≤ x ∧ x < 256
theorem bytes_ofb {e : TypeId} {x : V} (hf : flat P 8 e = some [.int .u8]) (c : CT P 8 (.slice e) x) : ∃ bs : List (List V), x = .ro bs ∧ Bb bs ∧ (∀ r ∈ bs, r.length = 1) ∧ bs.length ≤ 9223372036854775807 := by
  obtain ⟨rows, rfl, hl, h⟩ := CT_slice hf c
  have hb : Bb rows := fun row hr => by
    obtain ⟨y, ys, rfl, k0, c⟩ := CTs_cons (h row hr)
    obtain rfl := CTs_nil c
    obtain ⟨n, rfl, hw⟩ := CT_int k0
    simp [Lit.wf] at hw
    have h0 : IntKind.u8.min = 0 := by decide
    have h1 : IntKind.u8.max = 255 := by decide
    exact ⟨n, rfl, by omega, by omega⟩
  exact ⟨rows, rfl, hb, fun r hr => by obtain ⟨x, rfl, _⟩ := hb r hr; rfl, by simp [maxLen] at hl; omega⟩
theorem C_l_at {v : V} {k : Int} {bs : List (List V)} {H : Heap} {K : V → Heap → Prop} (hv : Rd H 1 v bs) (hb : Bb bs) (hl : bs.length ≤ 1048576) (hk : 0 ≤ k ∧ k ≤ 1000) (h : ∀ x, 0 ≤ x ∧ x < 256 → K (.int .i64 x) H) : ACalls P n_l_at [v, .int .i64 k] H K := by
  apply W_l_at
  unfold F_l_at
  simp [hv.len]
  refine ⟨fun hlt => ?_, fun hge => ?_⟩
  · obtain ⟨x, hx, x0, x1⟩ := hb bs[k.toNat] (List.getElem_mem (by omega))
    have hgd : bs.getD k.toNat [] = [.int .u8 x] := by simp [show k.toNat < bs.length by omega, hx]
    refine hv.idx (by omega) (by omega) fun p hp => ?_
    rw [hgd] at hp
    rw [hp.ld]
    simp
    rw [i64_in (by omega) (by omega)]
    exact Ret.of (h x ⟨x0, x1⟩)
  · rw [i64_in (n := k * 13) (by omega) (by omega), i64_in (n := (bs.length : Int) * 5) (by omega) (by omega), i64_in (by omega) (by omega)]
    exact Ret.of (h _ ⟨Int.tmod_nonneg _ (by omega), Int.tmod_lt_of_pos _ (by omega)⟩)
def Liv (b : Bool) (a : TNet) : Prop := Fl a ∧ (b = false → Cov allS a)
theorem Liv.sz {b : Bool} {a : TNet} (h : Liv b a) : bNet a := small_sz (small_of h.1.ok)
theorem Liv.up {b : Bool} {a a' : TNet} (h : Liv b a) (k : Fl a → Fl a' ∧ (Cov allS a → Cov allS a')) : Liv b a' := ⟨(k h.1).1, fun q => (k h.1).2 (h.2 q)⟩
def InvLv (b : Bool) (H : Heap) (m : Nat) (ys : List V) (Hc : Heap) : Prop :=
  ∃ (i : Nat) (a : TNet) (r : List V), 1 ≤ i ∧ i ≤ 25 ∧ ys = [.box [.int .i64 0, .nils, .nils, .nils, .int .i64 0], .box r, .int .i64 (i : Nat)] ∧ m = 25 - i ∧ Liv b a ∧ Abs.sub H Hc ∧ (netT false).rd Hc a r
def InvLw (b : Bool) (H : Heap) (m : Nat) (ys : List V) (Hc : Heap) : Prop :=
  ∃ (i : Nat) (a : TNet) (r : List V), i ≤ 5 ∧ ys = [.box [.int .i64 0, .nils, .nils, .nils, .int .i64 0], .box r, .int .i64 (i : Nat)] ∧ m = 5 - i ∧ Liv b a ∧ Abs.sub H Hc ∧ (netT false).rd Hc a r
set_option maxHeartbeats 4000000 in
theorem C_l_lived {v : V} {b : Bool} {bs : List (List V)} {H : Heap} {K : V → Heap → Prop} (hv : Rd H 1 v bs) (hb : Bb bs) (hl : bs.length ≤ 1048576)
    (h : ∀ a us H', Abs.sub H H' → Liv b a → (netT false).rd H' a us → K (.agg us) H') : ACalls P n_l_lived [v, .bool b] H K := by
  apply W_l_lived
  unfold F_l_lived
  refine C_l_at hv hb hl (by omega) fun x0 hx0 => ?_
  have t0 : 0 ≤ x0.tmod 4 := Int.tmod_nonneg _ hx0.1
  have t1 : x0.tmod 4 < 4 := Int.tmod_lt_of_pos _ (by omega)
  simp
  rw [i64_in (n := 2 + x0.tmod 4) (by omega) (by omega)]
  generalize hn : 2 + x0.tmod 4 = n
  have hn2 : 2 ≤ n ∧ n ≤ 5 := by omega
  refine C_i_NewNet (c := false) fun us H1 hd => ?_
  obtain ⟨f1, f2⟩ := new_fl (n := n) (by omega)
  have hr := hd.rd
  generalize (newR n).1 = a0 at *
  have hr0 := hr
  obtain ⟨e0, d0, w0, rfl, g1, g2, g3⟩ := hr
  have hc := net_cell g1 g2 g3
  simp [stz_eq, putCells, hc, hv.len]
  refine ⟨fun ys Hc => (∃ lim : Int, ys = [.int .i64 lim] ∧ lim ≤ 24) ∧ Hc = H1, ⟨fun _ => Shr.of ⟨⟨24, rfl, by omega⟩, rfl⟩, fun _ => Shr.of ⟨⟨_, rfl, by omega⟩, rfl⟩⟩, ?_⟩
  rintro ys Hc ⟨⟨lim, rfl, hlim⟩, rfl⟩
  refine ⟨InvLv b H, ⟨24, Shr.of ⟨1, a0, _, by omega, by omega, rfl, by omega, ⟨f1, fun _ => f2⟩, hd.sub, hr0⟩⟩, ?_⟩
  rintro m ys Hd ⟨i, a, r, hi, hi2, rfl, rfl, hL, hs, hra⟩
  have hra' := hra
  obtain ⟨e, d, w, rfl, g1, g2, g3⟩ := hra'
  have hc := net_cell g1 g2 g3
  have nw := rdS_len g3
  simp [stz_eq, putCells, hc, nw]
  rw [i64_in (n := (i : Int) + 1) (by omega) (by omega)]
  refine ⟨fun hlt => ?_, fun hge => Ret.of (h a _ Hd hs hL hra)⟩
  have next : ∀ (a' : TNet) (r' : List V) (H' : Heap), Abs.sub H H' → Liv b a' → (netT false).rd H' a' r' → ∃ n18, n18 < 25 - i ∧ Shr (InvLv b H n18 [.box [.int .i64 0, .nils, .nils, .nils, .int .i64 0], .box r', .int .i64 ((i : Int) + 1)]) H' := fun a' r' H' q1 q2 q3 =>
    ⟨25 - (i + 1), by omega, Shr.of ⟨i + 1, a', r', by omega, by omega, by simp, rfl, q2, q1, q3⟩⟩
  refine C_l_at (hv.mono hs) hb hl (by omega) fun x hx => ?_
  simp
  have hn0 : n ≠ 0 := by omega
  refine ⟨fun ys Hc => (∃ q : Bool, ys = [.bool q]) ∧ Hc = Hd, ⟨fun _ => Shr.of ⟨⟨_, rfl⟩, rfl⟩, fun _ => ⟨fun _ => Shr.of ⟨⟨_, rfl⟩, rfl⟩, fun _ => Shr.of ⟨⟨_, rfl⟩, rfl⟩⟩⟩, ?_⟩
  rintro ys Hc ⟨⟨q, rfl⟩, rfl⟩
  have stay : ∃ n18, n18 < 25 - i ∧ Shr (InvLv b H n18 [.box [.int .i64 0, .nils, .nils, .nils, .int .i64 0], .box (netRow a e d w), .int .i64 ((i : Int) + 1)]) Hc := next a _ Hc hs hL hra
  simp [hn0]
  rw [i64_in (n := n - 1) (by omega) (by omega)]
  have hn1 : n - 1 ≠ 0 := by omega
  simp [hn1, hn0]
  refine ⟨fun _ => ?_, fun _ => ⟨fun _ => ?_, fun _ => ⟨fun _ => ⟨fun hb1 => ⟨fun hp => ?_, fun _ => stay⟩, fun _ => stay⟩, fun _ => ⟨fun _ => ⟨fun hp => ⟨fun _ => ?_, fun _ => stay⟩, fun _ => stay⟩, fun _ => ⟨fun _ => ?_, fun _ => stay⟩⟩⟩⟩⟩
  · refine ⟨Hc, Abs.sub_refl _, ?_⟩
    refine C_i_SetLink (c := false) hra hL.sz (fun us H' hd => ⟨hd.sub, ?_⟩)
    have hr' := hd.rd
    obtain ⟨e', d', w', rfl, q1, q2, q3⟩ := hr'
    have hc' := net_cell q1 q2 q3
    simp [stz_eq, putCells, hc']
    exact next _ _ H' (sub_trans hs hd.sub) (hL.up setR_fl) hd.rd
  · refine ⟨Hc, Abs.sub_refl _, ?_⟩
    refine C_i_Announce (c := false) hra hL.sz (fun us H' hd => ⟨hd.sub, ?_⟩)
    have hr' := hd.rd
    obtain ⟨e', d', w', rfl, q1, q2, q3⟩ := hr'
    have hc' := net_cell q1 q2 q3
    simp [stz_eq, putCells, hc']
    exact next _ _ H' (sub_trans hs hd.sub) (hL.up annR_fl) hd.rd
  · refine ⟨Hc, Abs.sub_refl _, ?_⟩
    have hw0 : a.wires ≠ [] := fun q => by rw [q] at hp; simp at hp
    simp [hw0]
    refine C_i_Lose (c := false) hra hL.sz (fun us H' hd => ⟨hd.sub, ?_⟩)
    have hr' := hd.rd
    obtain ⟨e', d', w', rfl, q1, q2, q3⟩ := hr'
    have hc' := net_cell q1 q2 q3
    simp [stz_eq, putCells, hc']
    exact next _ _ H' (sub_trans hs hd.sub) ⟨loseR_fl hL.1, fun q => by rw [hb1] at q; cases q⟩ hd.rd
  · refine ⟨Hc, Abs.sub_refl _, ?_⟩
    have hw0 : a.wires ≠ [] := fun q => by rw [q] at hp; simp at hp
    simp [hw0]
    refine C_i_Double (c := false) hra hL.sz (fun us H' hd => ⟨hd.sub, ?_⟩)
    have hr' := hd.rd
    obtain ⟨e', d', w', rfl, q1, q2, q3⟩ := hr'
    have hc' := net_cell q1 q2 q3
    simp [stz_eq, putCells, hc']
    exact next _ _ H' (sub_trans hs hd.sub) (hL.up douR_fl) hd.rd
  · refine ⟨InvLw b H, ⟨5, Shr.of ⟨0, a, _, by omega, rfl, by omega, hL, hs, hra⟩⟩, ?_⟩
    rintro m ys He ⟨j, a2, r2, hj, rfl, rfl, hL2, hs2, hr2⟩
    have hr2' := hr2
    obtain ⟨e2, d2, w2, rfl, g1, g2, g3⟩ := hr2'
    have hc2 := net_cell g1 g2 g3
    have nw2 := rdS_len g3
    have go : ∃ n18, n18 < 25 - i ∧ Shr (InvLv b H n18 [.box [.int .i64 0, .nils, .nils, .nils, .int .i64 0], .box (netRow a2 e2 d2 w2), .int .i64 ((i : Int) + 1)]) He := next a2 _ He hs2 hL2 hr2
    simp [nw2]
    refine ⟨fun hj5 => ⟨fun hp => ?_, fun _ => go⟩, fun _ => go⟩
    refine ⟨He, Abs.sub_refl _, ?_⟩
    have hw0 : a2.wires ≠ [] := fun q => by rw [q] at hp; simp at hp
    simp [hw0]
    rw [i64_in (n := (j : Int) + 1) (by omega) (by omega)]
    refine C_i_Deliver (c := false) hr2 hL2.sz fun us H' hd => ⟨hd.sub, ?_⟩
    have hr' := hd.rd
    obtain ⟨e', d', w', rfl, q1, q2, q3⟩ := hr'
    have hc' := net_cell q1 q2 q3
    simp [stz_eq, putCells, hc']
    exact ⟨5 - (j + 1), by omega, Shr.of ⟨j + 1, _, _, by omega, by simp, rfl, hL2.up delR_fl, sub_trans hs2 hd.sub, hd.rd⟩⟩

end Go.Proofs.YtohicpepcjgnaaaGreat
