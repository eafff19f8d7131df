/-
Contracts of the draws' cursor.
-/
import Derived.Test.YtaippfedjjjpeaaGreatW1
import Derived.Test.YtaippfedjjjpeaaGreatAbs3
set_option linter.all false
namespace Go.Proofs.YtaippfedjjjpeaaGreat
open Go Go.Abs Go.Proofs

theorem and_255c (a : Int) : 0 ≤ IntKind.i64.wrap ((BitVec.ofInt 64 a &&& BitVec.ofInt 64 255).toNat : Int) ∧ IntKind.i64.wrap ((BitVec.ofInt 64 a &&& BitVec.ofInt 64 255).toNat : Int) ≤ 255 := by
  have h : (BitVec.ofInt 64 a &&& BitVec.ofInt 64 255).toNat ≤ 255 := by
    rw [BitVec.toNat_and]
    exact Nat.le_trans Nat.and_le_right (by decide)
  rw [i64_in (by omega) (by omega)]
  omega

def Bs (bs : List (List V)) : Prop := ∀ r ∈ bs, ∃ x : Int, r = [.int .u8 x]
def curOb (b : V) (i h : Int) : Ob := ⟨3, [[b, .int .i64 i, .int .i64 h]]⟩
def IsCur (H : Heap) (o : Nat) : Prop := ∃ b i h bs, H o = some (curOb b i h) ∧ Rd (del H o) 1 b bs ∧ Bs bs ∧ bs.length ≤ 9223372036854775807 ∧ 0 ≤ i
theorem del_sub {H : Heap} {o : Nat} : Abs.sub (del H o) H := fun i x h => by
  unfold del at h; split at h
  · cases h
  · exact h
theorem del_sub_upd {H : Heap} {o : Nat} {y : Ob} : Abs.sub (del H o) (upd H o y) := fun i x h => by
  unfold del at h; unfold upd; split at h
  · cases h
  · rename_i hne; rw [if_neg hne]; exact h
theorem del_upd {H : Heap} {o : Nat} {y : Ob} : del (upd H o y) o = del H o := by
  funext i; unfold del upd; split <;> rfl
theorem del_mono {H H' : Heap} {o : Nat} (h : Abs.sub H H') : Abs.sub (del H o) (del H' o) := fun i x hh => by
  unfold del at *; split at hh
  · cases hh
  · rename_i hne; rw [if_neg hne]; exact h _ _ hh
theorem IsCur.mono {H H' : Heap} {o : Nat} (h : IsCur H o) (hs : Abs.sub H H') : IsCur H' o := by
  obtain ⟨b, i, hh, bs, h1, h2, h3, h4, h5⟩ := h
  exact ⟨b, i, hh, bs, hs _ _ h1, h2.mono (del_mono hs), h3, h4, h5⟩

/-- The cursor's next state. -/
def Nx (H : Heap) (o : Nat) (y : Ob) : Prop := ∀ G, Abs.sub G H → IsCur G o → IsCur (upd G o y) o
theorem Nx.cur {H : Heap} {o : Nat} {y : Ob} (h : Nx H o y) (hc : IsCur H o) : IsCur (upd H o y) o := h H (Abs.sub_refl _) hc
theorem Nx.mono {G H : Heap} {o : Nat} {y : Ob} (h : Nx H o y) (hs : Abs.sub G H) : Nx G o y := fun G' hs' => h G' (sub_trans hs' hs)
theorem Nx.trans {H : Heap} {o : Nat} {y y' : Ob} (h : Nx H o y) (h' : Nx (upd H o y) o y') : Nx H o y' := fun G hs hc => by
  have := h' (upd G o y) (sub_upd2 hs) (h G hs hc)
  rwa [upd_twice] at this
theorem IsCur.some {H : Heap} {o : Nat} (h : IsCur H o) : H o ≠ none := by
  obtain ⟨b, i, hh, bs, h1, _⟩ := h
  rw [h1]; simp

/-- The heap goes on from H; the cursor at o has moved. -/
def St (H : Heap) (o : Nat) (Hd : Heap) : Prop := IsCur Hd o ∧ ∃ y, Nx H o y ∧ Abs.sub (upd H o y) Hd
theorem St.of {H : Heap} {o : Nat} {y : Ob} (h : Nx H o y) (hc : IsCur H o) : St H o (upd H o y) := ⟨h.cur hc, y, h, Abs.sub_refl _⟩
theorem Nx.same {H : Heap} {o : Nat} {y : Ob} (h : H o = some y) : Nx H o y := fun G hs hG => by
  have hne := hG.some
  have : G o = some y := by
    cases e : G o with
    | none => exact absurd e hne
    | some z => rw [hs _ _ e] at h; exact h
  have e : upd G o y = G := by
    funext i; unfold upd; split
    · rename_i hi; rw [hi, this]
    · rfl
  rw [e]; exact hG
theorem upd_same {H : Heap} {o : Nat} {y : Ob} (h : H o = some y) : upd H o y = H := by
  funext i; unfold upd; split
  · rename_i hi; rw [hi, h]
  · rfl
theorem St.grow {H H' : Heap} {o : Nat} (hc : IsCur H o) (hs : Abs.sub H H') : St H o H' := by
  have hc' := hc
  obtain ⟨b, i, g, bs, h1, _⟩ := hc
  exact ⟨hc'.mono hs, _, Nx.same h1, by rw [upd_same h1]; exact hs⟩
theorem St.trans {H H' H'' : Heap} {o : Nat} (h : St H o H') (h' : St H' o H'') : St H o H'' := by
  obtain ⟨_, y, h1, h2⟩ := h
  obtain ⟨hc, y', h3, h4⟩ := h'
  refine ⟨hc, y', h1.trans (h3.mono h2), sub_trans ?_ h4⟩
  have := sub_upd2 (o := o) (x := y') h2
  rwa [upd_twice] at this
theorem St.more {H H' H'' : Heap} {o : Nat} (h : St H o H') (hs : Abs.sub H' H'') : St H o H'' := h.trans (St.grow h.1 hs)
/-- One's own slice is still there behind a move of the cursor. -/
theorem St.own {H0 Hc Hd : Heap} {o sz : Nat} {rows : List (List V)} {v : V} (h : St Hc o Hd) (ho : IsCur H0 o) (hw : Own H0 sz rows v Hc) : ∃ Hb Hd', St H0 o Hb ∧ Own Hb sz rows v Hd' ∧ Abs.sub Hd' Hd := by
  obtain ⟨hc, y, h1, h2⟩ := h
  exact ⟨upd H0 o y, upd Hc o y, St.of (h1.mono hw.sub) ho, hw.rebase y ho.some, h2⟩

set_option maxHeartbeats 1000000 in
theorem C_s_l01Byte {o : Nat} {H : Heap} {K : V → Heap → Prop} (hc : IsCur H o) (h : ∀ x Hd, 0 ≤ x → x ≤ 255 → St H o Hd → K (.int .i64 x) Hd) :
    ACalls P n_s_l01Byte [.ptr o 0 0] H K := by
  have hc' := hc
  obtain ⟨b, i, hh, bs, h1, h2, h3, h4, h5⟩ := hc
  apply W_s_l01Byte
  unfold F_s_l01Byte
  simp only [curOb] at h1
  simp [aNil, aField, aLd_at h1, aSt_at h1, stz_eq, putCells]
  refine ⟨_, Abs.sub_refl _, ?_⟩
  simp [aLd_at (upd_eq _ _ _)]
  refine ⟨_, Abs.sub_refl _, ?_⟩
  simp [aLd_at (upd_eq _ _ _)]
  have hr : ∀ y, Rd (upd H o y) 1 b bs := fun y => h2.mono del_sub_upd
  have hl : lenOf b = some bs.length := h2.len
  have hcur : ∀ j g, 0 ≤ j → Nx H o (curOb b j g) := fun j g hj G hs hG => by
    obtain ⟨b', i', g', bs', q1, q2, q3, q4, _⟩ := hG
    have := hs _ _ q1
    rw [h1] at this
    have hb : b' = b := by simp [curOb] at this; exact this.1.symm
    subst hb
    exact ⟨b', j, g, bs', upd_eq _ _ _, by rw [del_upd]; exact q2, q3, q4, hj⟩
  simp [hl]
  generalize IntKind.i64.wrap (IntKind.i64.wrap (hh * 6364136223846793005) + 1442695040888963407) = g
  refine ⟨fun hlt => ⟨_, Abs.sub_refl _, ?_⟩, fun _ => ?_⟩
  · simp [aLd_at (upd_eq _ _ _)]
    refine (hr _).idx (i := i) h5 (by omega) fun p hp => ?_
    simp only [hp.ld]
    have hi : i.toNat < bs.length := by omega
    obtain ⟨x, hx⟩ := h3 bs[i.toNat] (List.getElem_mem hi)
    have hx' : bs.getD i.toNat [] = [.int .u8 x] := by simp [hi, hx]
    simp [hi, hx, aCv, aLd_at (upd_eq _ _ _), aSt_at (upd_eq _ _ _), stz_eq, putCells]
    rw [i64_in (n := i + 1) (by omega) (by omega)]
    exact Ret.of (h _ _ (and_255c _).1 (and_255c _).2 (St.of (hcur (i + 1) g (by omega)) hc'))
  · exact Ret.of (h _ _ (and_255c _).1 (and_255c _).2 (St.of (hcur i g h5) hc'))

theorem C_s_l01Below {o : Nat} {n : Int} {H : Heap} {K : V → Heap → Prop} (hc : IsCur H o) (h : ∀ x Hd, 0 ≤ x → (0 < n → x < n) → (n ≤ 0 → x = 0) → St H o Hd → K (.int .i64 x) Hd) :
    ACalls P n_s_l01Below [.ptr o 0 0, .int .i64 n] H K := by
  apply W_s_l01Below
  unfold F_s_l01Below
  simp
  refine ⟨fun hn => Ret.of (h _ _ (by omega) (by omega) (by omega) (St.grow hc (Abs.sub_refl _))), fun hn => ⟨fun hs => ?_, fun hb => ?_⟩⟩
  · refine C_s_l01Byte hc fun x Hd g1 g2 hy => ?_
    simp
    rw [if_neg (by omega)]
    exact Ret.of (h _ _ (Int.tmod_nonneg _ g1) (fun _ => Int.tmod_lt_of_pos _ (by omega)) (by omega) hy)
  · refine C_s_l01Byte hc fun x H1 g1 g2 hy => ?_
    refine C_s_l01Byte hy.1 fun x2 H2 g3 g4 hy2 => ?_
    refine C_s_l01Byte hy2.1 fun x3 H3 g5 g6 hy3 => ?_
    have hy3 := (hy.trans hy2).trans hy3
    simp
    rw [if_neg (by omega)]
    rw [i64_in (n := x * 65536) (by omega) (by omega), i64_in (n := x2 * 256) (by omega) (by omega), i64_in (n := x * 65536 + x2 * 256) (by omega) (by omega), i64_in (n := x * 65536 + x2 * 256 + x3) (by omega) (by omega)]
    exact Ret.of (h _ _ (Int.tmod_nonneg _ (by omega)) (fun _ => Int.tmod_lt_of_pos _ (by omega)) (by omega) hy3)

theorem C_s_l01Once {o : Nat} {n : Int} {H : Heap} {K : V → Heap → Prop} (hc : IsCur H o) (h : ∀ x Hd, St H o Hd → K (.bool x) Hd) :
    ACalls P n_s_l01Once [.ptr o 0 0, .int .i64 n] H K := by
  apply W_s_l01Once
  unfold F_s_l01Once
  refine C_s_l01Below hc fun x y _ _ _ hy => ?_
  simp
  exact Ret.of (h _ _ hy)

/-- The list stands where the cursor does not. -/
theorem C_s_l01PickInt {o : Nat} {xs : List Int} {v : V} {H : Heap} {K : V → Heap → Prop} (hc : IsCur H o) (hv : Rd (del H o) 1 v (xs.map ri)) (hn : xs ≠ []) (hl : xs.length ≤ 256) (h : ∀ x Hd, x ∈ xs → St H o Hd → K (.int .i64 x) Hd) :
    ACalls P n_s_l01PickInt [.ptr o 0 0, v] H K := by
  have h1 : 0 < xs.length := List.length_pos_iff.2 hn
  apply W_s_l01PickInt
  unfold F_s_l01PickInt
  simp [hv.len]
  refine C_s_l01Below hc fun x Hd g1 g2 _ hy => ?_
  have hv' : Rd Hd 1 v (xs.map ri) := by
    obtain ⟨_, y, _, h3⟩ := hy
    exact hv.mono (sub_trans del_sub_upd h3)
  refine hv'.idx g1 (by simpa using g2 (by omega)) fun q hq => ?_
  simp only [hq.ld]
  have hi : x.toNat < xs.length := by omega
  simp [hi]
  exact Ret.of (h _ _ (List.getElem_mem hi) hy)
/-- A number of a new list. -/
theorem C_pick {o n m : Nat} {z : List V} {ps : List (Nat × V)} {H : Heap} {K : V → Heap → Prop} (xs : List Int) (hb : bsl 1 n z ps = some (xs.map ri)) (hn : n = xs.length) (hm : m = n) (h0 : xs ≠ []) (hl : xs.length ≤ 256) (hc : IsCur H o) (h : ∀ x Hd, x ∈ xs → St H o Hd → K (.int .i64 x) Hd) :
    bnd (bsl 1 n z ps) fun r => ∀ o2, H o2 = none → ACalls P n_s_l01PickInt [.ptr o 0 0, .slice o2 0 n (some m)] (upd H o2 ⟨1, r⟩) K := by
  rw [hb]
  simp only [bnd_some]
  intro o2 ho2
  have hne : o2 ≠ o := by rintro rfl; exact hc.some ho2
  refine C_s_l01PickInt (xs := xs) (hc.mono (sub_fresh ho2)) ?_ h0 hl fun x Hd hx hs => h x Hd hx ((St.grow hc (sub_fresh ho2)).trans hs)
  have e : del (upd H o2 ⟨1, xs.map ri⟩) o o2 = some ⟨1, xs.map ri⟩ := by unfold del; rw [if_neg hne, upd_eq]
  have := Rd.own (cap := some m) (rows := xs.map ri) ri_len e
  simpa [hn] using this

theorem C_s_l01Size {v : V} {bs : List (List V)} {m : Int} {H : Heap} {K : V → Heap → Prop} (hv : Rd H 1 v bs) (hm : 0 ≤ m) (hl : bs.length ≤ 9223372036854775807) (h : ∀ x, 0 ≤ x → x ≤ m → K (.int .i64 x) H) :
    ACalls P n_s_l01Size [v, .int .i64 m] H K := by
  apply W_s_l01Size
  unfold F_s_l01Size
  simp [hv.len]
  have e : ((bs.length : Int).tdiv 16) = (bs.length : Int) / 16 := by rw [Int.tdiv_eq_ediv_of_nonneg (by omega)]
  rw [i64_in (n := (bs.length : Int) / 16) (by omega) (by omega), i64_in (n := 2 + (bs.length : Int) / 16) (by omega) (by omega)]
  exact ⟨fun _ => Ret.of (h _ hm (Int.le_refl _)), fun _ => Ret.of (h _ (by omega) (by omega))⟩

theorem C_s_l01New {v : V} {bs : List (List V)} {H : Heap} {K : V → Heap → Prop} (hv : Rd H 1 v bs) (hb : Bs bs) (hl : bs.length ≤ 9223372036854775807) (hcell : cellsOf v = [v] ∧ cellOk v = true ∧ notAny v = true) (h : ∀ o Hd, H o = none → IsCur Hd o → Abs.sub H Hd → K (.ptr o 0 0) Hd) :
    ACalls P n_s_l01New [v] H K := by
  have hcur : ∀ o g, H o = none → IsCur (upd H o (curOb v 0 g)) o := fun o g ho => ⟨v, 0, g, bs, upd_eq _ _ _, hv.mono (by rw [del_upd]; intro i x hi; unfold del; rw [if_neg (by rintro rfl; rw [ho] at hi; cases hi)]; exact hi), hb, hl, by omega⟩
  apply W_s_l01New
  unfold F_s_l01New
  simp [hv.len]
  refine ⟨fun n ys Hc => ∃ i g, i ≤ bs.length ∧ ys = [.int .i64 g, .int .i64 (i : Nat)] ∧ n = bs.length - i ∧ Hc = H, ⟨bs.length, Shr.of ⟨0, _, by omega, rfl, by omega, rfl⟩⟩, ?_⟩
  rintro n ys Hc ⟨i, g, hi, rfl, rfl, rfl⟩
  have hf : ∀ g : Int, fillZ [.nils, .int .i64 0, .int .i64 0] [(0, 1, v), (2, 1, .int .i64 g)] = some [v, .int .i64 0, .int .i64 g] := fun g => by
    simp [fillZ, putCells, hcell]
  simp [hf]
  have fin : boxK (.agg [v, .int .i64 0, .int .i64 g]) (∀ o, Hc o = none → Ret K (.ptr o 0 0) (upd Hc o ⟨3, [[v, .int .i64 0, .int .i64 g]]⟩)) := by
    refine ⟨by simp [hcell], fun o ho => Ret.of (h o _ ho (hcur o g ho) (sub_fresh ho))⟩
  refine ⟨fun hlt => ⟨fun h4 => ?_, fun _ => by simpa using fin⟩, fun _ => by simpa using fin⟩
  refine hv.idx (by omega) (by simpa using hlt) fun p hp => ?_
  simp only [hp.ld]
  obtain ⟨x, hx⟩ := hb bs[i] (List.getElem_mem hlt)
  simp [hlt, hx, aCv]
  rw [i64_in (n := (i : Int) + 1) (by omega) (by omega)]
  exact ⟨bs.length - (i + 1), by omega, Shr.of ⟨i + 1, by omega, ⟨⟨_, rfl⟩, by omega⟩, rfl, rfl⟩⟩

theorem bytes_of {e : TypeId} {x : V} (hf : flat P 8 e = some [.int .u8]) (c : CT P 8 (.slice e) x) : ∃ bs : List (List V), x = .ro bs ∧ Bs bs ∧ (∀ r ∈ bs, r.length = 1) ∧ bs.length ≤ 9223372036854775807 := by
  obtain ⟨rows, rfl, hl, h⟩ := CT_slice hf c
  have hb : Bs rows := fun row hr => by
    obtain ⟨y, ys, rfl, k0, c⟩ := CTs_cons (h row hr)
    obtain rfl := CTs_nil c
    obtain ⟨n, rfl, _⟩ := CT_int k0
    exact ⟨n, rfl⟩
  exact ⟨rows, rfl, hb, fun r hr => by obtain ⟨x, rfl⟩ := hb r hr; rfl, by simp [maxLen] at hl; omega⟩

end Go.Proofs.YtaippfedjjjpeaaGreat
