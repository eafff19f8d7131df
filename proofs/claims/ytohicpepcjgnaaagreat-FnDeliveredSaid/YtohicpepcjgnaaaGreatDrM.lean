/-
Contracts of the draws' cursor.
-/
import Derived.Test.YtohicpepcjgnaaaGreatW1
import Derived.Test.YtohicpepcjgnaaaGreatAbs3
import Derived.Test.YtohicpepcjgnaaaGreatLkM
import Derived.Test.YtohicpepcjgnaaaGreatLsM
import Derived.Test.YtohicpepcjgnaaaGreatFlM
import Derived.Test.YtohicpepcjgnaaaGreatEdM
import Derived.Test.YtohicpepcjgnaaaGreatDelivD
import Derived.Test.YtohicpepcjgnaaaGreatNtM
import Derived.Test.YtohicpepcjgnaaaGreatNewNetC
set_option linter.all false
namespace Go.Proofs.YtohicpepcjgnaaaGreat
open Go Go.Abs Go.Proofs

theorem and_255c (a : Int) : 0 ≤ IntKind.i64.wrap ((BitVec.ofInt 64 a &&& BitVec.ofInt 64 255).toNat : Int) ∧ IntKind.i64.wrap ((BitVec.ofInt 64 a &&& BitVec.ofInt 64 255).toNat : Int) ≤ 255 := by
  have h : (BitVec.ofInt 64 a &&& BitVec.ofInt 64 255).toNat ≤ 255 := by
    rw [BitVec.toNat_and]
    exact Nat.le_trans Nat.and_le_right (by decide)
  rw [i64_in (by omega) (by omega)]
  omega

def Bs (bs : List (List V)) : Prop := ∀ r ∈ bs, ∃ x : Int, r = [.int .u8 x]
def curOb (b : V) (i h : Int) : Ob := ⟨3, [[b, .int .i64 i, .int .i64 h]]⟩
def IsCur (H : Heap) (o : Nat) : Prop := ∃ b i h bs, H o = some (curOb b i h) ∧ Rd (del H o) 1 b bs ∧ Bs bs ∧ bs.length ≤ 9223372036854775807 ∧ 0 ≤ i
theorem del_sub {H : Heap} {o : Nat} : Abs.sub (del H o) H := fun i x h => by
  unfold del at h; split at h
  · cases h
  · exact h
theorem del_sub_upd {H : Heap} {o : Nat} {y : Ob} : Abs.sub (del H o) (upd H o y) := fun i x h => by
  unfold del at h; unfold upd; split at h
  · cases h
  · rename_i hne; rw [if_neg hne]; exact h
theorem del_upd {H : Heap} {o : Nat} {y : Ob} : del (upd H o y) o = del H o := by
  funext i; unfold del upd; split <;> rfl
theorem del_mono {H H' : Heap} {o : Nat} (h : Abs.sub H H') : Abs.sub (del H o) (del H' o) := fun i x hh => by
  unfold del at *; split at hh
  · cases hh
  · rename_i hne; rw [if_neg hne]; exact h _ _ hh
theorem IsCur.mono {H H' : Heap} {o : Nat} (h : IsCur H o) (hs : Abs.sub H H') : IsCur H' o := by
  obtain ⟨b, i, hh, bs, h1, h2, h3, h4, h5⟩ := h
  exact ⟨b, i, hh, bs, hs _ _ h1, h2.mono (del_mono hs), h3, h4, h5⟩

/-- The cursor's next state. -/
def Nx (H : Heap) (o : Nat) (y : Ob) : Prop := ∀ G, Abs.sub G H → IsCur G o → IsCur (upd G o y) o
theorem Nx.cur {H : Heap} {o : Nat} {y : Ob} (h : Nx H o y) (hc : IsCur H o) : IsCur (upd H o y) o := h H (Abs.sub_refl _) hc
theorem Nx.mono {G H : Heap} {o : Nat} {y : Ob} (h : Nx H o y) (hs : Abs.sub G H) : Nx G o y := fun G' hs' => h G' (sub_trans hs' hs)
theorem Nx.trans {H : Heap} {o : Nat} {y y' : Ob} (h : Nx H o y) (h' : Nx (upd H o y) o y') : Nx H o y' := fun G hs hc => by
  have := h' (upd G o y) (sub_upd2 hs) (h G hs hc)
  rwa [upd_twice] at this
theorem IsCur.some {H : Heap} {o : Nat} (h : IsCur H o) : H o ≠ none := by
  obtain ⟨b, i, hh, bs, h1, _⟩ := h
  rw [h1]; simp

/-- The heap goes on from H; the cursor at o has moved. -/
def St (H : Heap) (o : Nat) (Hd : Heap) : Prop := IsCur Hd o ∧ ∃ y, Nx H o y ∧ Abs.sub (upd H o y) Hd
theorem St.of {H : Heap} {o : Nat} {y : Ob} (h : Nx H o y) (hc : IsCur H o) : St H o (upd H o y) := ⟨h.cur hc, y, h, Abs.sub_refl _⟩
theorem Nx.same {H : Heap} {o : Nat} {y : Ob} (h : H o = some y) : Nx H o y := fun G hs hG => by
  have hne := hG.some
  have : G o = some y := by
    cases e : G o with
    | none => exact absurd e hne
    | some z => rw [hs _ _ e] at h; exact h
  have e : upd G o y = G := by
    funext i; unfold upd; split
    · rename_i hi; rw [hi, this]
    · rfl
  rw [e]; exact hG
theorem upd_same {H : Heap} {o : Nat} {y : Ob} (h : H o = some y) : upd H o y = H := by
  funext i; unfold upd; split
  · rename_i hi; rw [hi, h]
  · rfl
theorem St.grow {H H' : Heap} {o : Nat} (hc : IsCur H o) (hs : Abs.sub H H') : St H o H' := by
  have hc' := hc
  obtain ⟨b, i, g, bs, h1, _⟩ := hc
  exact ⟨hc'.mono hs, _, Nx.same h1, by rw [upd_same h1]; exact hs⟩
theorem St.trans {H H' H'' : Heap} {o : Nat} (h : St H o H') (h' : St H' o H'') : St H o H'' := by
  obtain ⟨_, y, h1, h2⟩ := h
  obtain ⟨hc, y', h3, h4⟩ := h'
  refine ⟨hc, y', h1.trans (h3.mono h2), sub_trans ?_ h4⟩
  have := sub_upd2 (o := o) (x := y') h2
  rwa [upd_twice] at this
theorem St.more {H H' H'' : Heap} {o : Nat} (h : St H o H') (hs : Abs.sub H' H'') : St H o H'' := h.trans (St.grow h.1 hs)
/-- One's own slice is still there behind a move of the cursor. -/
theorem St.own {H0 Hc Hd : Heap} {o sz : Nat} {rows : List (List V)} {v : V} (h : St Hc o Hd) (ho : IsCur H0 o) (hw : Own H0 sz rows v Hc) : ∃ Hb Hd', St H0 o Hb ∧ Own Hb sz rows v Hd' ∧ Abs.sub Hd' Hd := by
  obtain ⟨hc, y, h1, h2⟩ := h
  exact ⟨upd H0 o y, upd Hc o y, St.of (h1.mono hw.sub) ho, hw.rebase y ho.some, h2⟩

set_option maxHeartbeats 1000000 in
theorem C_s_l01Byte {o : Nat} {H : Heap} {K : V → Heap → Prop} (hc : IsCur H o) (h : ∀ x Hd, 0 ≤ x → x ≤ 255 → St H o Hd → K (.int .i64 x) Hd) :
    ACalls P n_s_l01Byte [.ptr o 0 0] H K := by
  have hc' := hc
  obtain ⟨b, i, hh, bs, h1, h2, h3, h4, h5⟩ := hc
  apply W_s_l01Byte
  unfold F_s_l01Byte
  simp only [curOb] at h1
  simp [aNil, aField, aLd_at h1, aSt_at h1, stz_eq, putCells]
  refine ⟨_, Abs.sub_refl _, ?_⟩
  simp [aLd_at (upd_eq _ _ _)]
  refine ⟨_, Abs.sub_refl _, ?_⟩
  simp [aLd_at (upd_eq _ _ _)]
  have hr : ∀ y, Rd (upd H o y) 1 b bs := fun y => h2.mono del_sub_upd
  have hl : lenOf b = some bs.length := h2.len
  have hcur : ∀ j g, 0 ≤ j → Nx H o (curOb b j g) := fun j g hj G hs hG => by
    obtain ⟨b', i', g', bs', q1, q2, q3, q4, _⟩ := hG
    have := hs _ _ q1
    rw [h1] at this
    have hb : b' = b := by simp [curOb] at this; exact this.1.symm
    subst hb
    exact ⟨b', j, g, bs', upd_eq _ _ _, by rw [del_upd]; exact q2, q3, q4, hj⟩
  simp [hl]
  generalize IntKind.i64.wrap (IntKind.i64.wrap (hh * 6364136223846793005) + 1442695040888963407) = g
  refine ⟨fun hlt => ⟨_, Abs.sub_refl _, ?_⟩, fun _ => ?_⟩
  · simp [aLd_at (upd_eq _ _ _)]
    refine (hr _).idx (i := i) h5 (by omega) fun p hp => ?_
    simp only [hp.ld]
    have hi : i.toNat < bs.length := by omega
    obtain ⟨x, hx⟩ := h3 bs[i.toNat] (List.getElem_mem hi)
    have hx' : bs.getD i.toNat [] = [.int .u8 x] := by simp [hi, hx]
    simp [hi, hx, aCv, aLd_at (upd_eq _ _ _), aSt_at (upd_eq _ _ _), stz_eq, putCells]
    rw [i64_in (n := i + 1) (by omega) (by omega)]
    exact Ret.of (h _ _ (and_255c _).1 (and_255c _).2 (St.of (hcur (i + 1) g (by omega)) hc'))
  · exact Ret.of (h _ _ (and_255c _).1 (and_255c _).2 (St.of (hcur i g h5) hc'))

theorem C_s_l01Below {o : Nat} {n : Int} {H : Heap} {K : V → Heap → Prop} (hc : IsCur H o) (h : ∀ x Hd, 0 ≤ x → (0 < n → x < n) → (n ≤ 0 → x = 0) → St H o Hd → K (.int .i64 x) Hd) :
    ACalls P n_s_l01Below [.ptr o 0 0, .int .i64 n] H K := by
  apply W_s_l01Below
  unfold F_s_l01Below
  simp
  refine ⟨fun hn => Ret.of (h _ _ (by omega) (by omega) (by omega) (St.grow hc (Abs.sub_refl _))), fun hn => ⟨fun hs => ?_, fun hb => ?_⟩⟩
  · refine C_s_l01Byte hc fun x Hd g1 g2 hy => ?_
    simp
    rw [if_neg (by omega)]
    exact Ret.of (h _ _ (Int.tmod_nonneg _ g1) (fun _ => Int.tmod_lt_of_pos _ (by omega)) (by omega) hy)
  · refine C_s_l01Byte hc fun x H1 g1 g2 hy => ?_
    refine C_s_l01Byte hy.1 fun x2 H2 g3 g4 hy2 => ?_
    refine C_s_l01Byte hy2.1 fun x3 H3 g5 g6 hy3 => ?_
    have hy3 := (hy.trans hy2).trans hy3
    simp
    rw [if_neg (by omega)]
    rw [i64_in (n := x * 65536) (by omega) (by omega), i64_in (n := x2 * 256) (by omega) (by omega), i64_in (n := x * 65536 + x2 * 256) (by omega) (by omega), i64_in (n := x * 65536 + x2 * 256 + x3) (by omega) (by omega)]
    exact Ret.of (h _ _ (Int.tmod_nonneg _ (by omega)) (fun _ => Int.tmod_lt_of_pos _ (by omega)) (by omega) hy3)

theorem C_s_l01Once {o : Nat} {n : Int} {H : Heap} {K : V → Heap → Prop} (hc : IsCur H o) (h : ∀ x Hd, St H o Hd → K (.bool x) Hd) :
    ACalls P n_s_l01Once [.ptr o 0 0, .int .i64 n] H K := by
  apply W_s_l01Once
  unfold F_s_l01Once
  refine C_s_l01Below hc fun x y _ _ _ hy => ?_
  simp
  exact Ret.of (h _ _ hy)

/-- The list stands where the cursor does not. -/
theorem C_s_l01PickInt {o : Nat} {xs : List Int} {v : V} {H : Heap} {K : V → Heap → Prop} (hc : IsCur H o) (hv : Rd (del H o) 1 v (xs.map ri)) (hn : xs ≠ []) (hl : xs.length ≤ 256) (h : ∀ x Hd, x ∈ xs → St H o Hd → K (.int .i64 x) Hd) :
    ACalls P n_s_l01PickInt [.ptr o 0 0, v] H K := by
  have h1 : 0 < xs.length := List.length_pos_iff.2 hn
  apply W_s_l01PickInt
  unfold F_s_l01PickInt
  simp [hv.len]
  refine C_s_l01Below hc fun x Hd g1 g2 _ hy => ?_
  have hv' : Rd Hd 1 v (xs.map ri) := by
    obtain ⟨_, y, _, h3⟩ := hy
    exact hv.mono (sub_trans del_sub_upd h3)
  refine hv'.idx g1 (by simpa using g2 (by omega)) fun q hq => ?_
  simp only [hq.ld]
  have hi : x.toNat < xs.length := by omega
  simp [hi]
  exact Ret.of (h _ _ (List.getElem_mem hi) hy)
/-- A number of a new list. -/
theorem C_pick {o n m : Nat} {z : List V} {ps : List (Nat × V)} {H : Heap} {K : V → Heap → Prop} (xs : List Int) (hb : bsl 1 n z ps = some (xs.map ri)) (hn : n = xs.length) (hm : m = n) (h0 : xs ≠ []) (hl : xs.length ≤ 256) (hc : IsCur H o) (h : ∀ x Hd, x ∈ xs → St H o Hd → K (.int .i64 x) Hd) :
    bnd (bsl 1 n z ps) fun r => ∀ o2, H o2 = none → ACalls P n_s_l01PickInt [.ptr o 0 0, .slice o2 0 n (some m)] (upd H o2 ⟨1, r⟩) K := by
  rw [hb]
  simp only [bnd_some]
  intro o2 ho2
  have hne : o2 ≠ o := by rintro rfl; exact hc.some ho2
  refine C_s_l01PickInt (xs := xs) (hc.mono (sub_fresh ho2)) ?_ h0 hl fun x Hd hx hs => h x Hd hx ((St.grow hc (sub_fresh ho2)).trans hs)
  have e : del (upd H o2 ⟨1, xs.map ri⟩) o o2 = some ⟨1, xs.map ri⟩ := by unfold del; rw [if_neg hne, upd_eq]
  have := Rd.own (cap := some m) (rows := xs.map ri) ri_len e
  simpa [hn] using this

theorem C_s_l01Size {v : V} {bs : List (List V)} {m : Int} {H : Heap} {K : V → Heap → Prop} (hv : Rd H 1 v bs) (hm : 0 ≤ m) (hl : bs.length ≤ 9223372036854775807) (h : ∀ x, 0 ≤ x → x ≤ m → K (.int .i64 x) H) :
    ACalls P n_s_l01Size [v, .int .i64 m] H K := by
  apply W_s_l01Size
  unfold F_s_l01Size
  simp [hv.len]
  have e : ((bs.length : Int).tdiv 16) = (bs.length : Int) / 16 := by rw [Int.tdiv_eq_ediv_of_nonneg (by omega)]
  rw [i64_in (n := (bs.length : Int) / 16) (by omega) (by omega), i64_in (n := 2 + (bs.length : Int) / 16) (by omega) (by omega)]
  exact ⟨fun _ => Ret.of (h _ hm (Int.le_refl _)), fun _ => Ret.of (h _ (by omega) (by omega))⟩

theorem C_s_l01New {v : V} {bs : List (List V)} {H : Heap} {K : V → Heap → Prop} (hv : Rd H 1 v bs) (hb : Bs bs) (hl : bs.length ≤ 9223372036854775807) (hcell : cellsOf v = [v] ∧ cellOk v = true ∧ notAny v = true) (h : ∀ o Hd, H o = none → IsCur Hd o → Abs.sub H Hd → K (.ptr o 0 0) Hd) :
    ACalls P n_s_l01New [v] H K := by
  have hcur : ∀ o g, H o = none → IsCur (upd H o (curOb v 0 g)) o := fun o g ho => ⟨v, 0, g, bs, upd_eq _ _ _, hv.mono (by rw [del_upd]; intro i x hi; unfold del; rw [if_neg (by rintro rfl; rw [ho] at hi; cases hi)]; exact hi), hb, hl, by omega⟩
  apply W_s_l01New
  unfold F_s_l01New
  simp [hv.len]
  refine ⟨fun n ys Hc => ∃ i g, i ≤ bs.length ∧ ys = [.int .i64 g, .int .i64 (i : Nat)] ∧ n = bs.length - i ∧ Hc = H, ⟨bs.length, Shr.of ⟨0, _, by omega, rfl, by omega, rfl⟩⟩, ?_⟩
  rintro n ys Hc ⟨i, g, hi, rfl, rfl, rfl⟩
  have hf : ∀ g : Int, fillZ [.nils, .int .i64 0, .int .i64 0] [(0, 1, v), (2, 1, .int .i64 g)] = some [v, .int .i64 0, .int .i64 g] := fun g => by
    simp [fillZ, putCells, hcell]
  simp [hf]
  have fin : boxK (.agg [v, .int .i64 0, .int .i64 g]) (∀ o, Hc o = none → Ret K (.ptr o 0 0) (upd Hc o ⟨3, [[v, .int .i64 0, .int .i64 g]]⟩)) := by
    refine ⟨by simp [hcell], fun o ho => Ret.of (h o _ ho (hcur o g ho) (sub_fresh ho))⟩
  refine ⟨fun hlt => ⟨fun h4 => ?_, fun _ => by simpa using fin⟩, fun _ => by simpa using fin⟩
  refine hv.idx (by omega) (by simpa using hlt) fun p hp => ?_
  simp only [hp.ld]
  obtain ⟨x, hx⟩ := hb bs[i] (List.getElem_mem hlt)
  simp [hlt, hx, aCv]
  rw [i64_in (n := (i : Int) + 1) (by omega) (by omega)]
  exact ⟨bs.length - (i + 1), by omega, Shr.of ⟨i + 1, by omega, ⟨⟨_, rfl⟩, by omega⟩, rfl, rfl⟩⟩

theorem bytes_of {e : TypeId} {x : V} (hf : flat P 8 e = some [.int .u8]) (c : CT P 8 (.slice e) x) : ∃ bs : List (List V), x = .ro bs ∧ Bs bs ∧ (∀ r ∈ bs, r.length = 1) ∧ bs.length ≤ 9223372036854775807 := by
  obtain ⟨rows, rfl, hl, h⟩ := CT_slice hf c
  have hb : Bs rows := fun row hr => by
    obtain ⟨y, ys, rfl, k0, c⟩ := CTs_cons (h row hr)
    obtain rfl := CTs_nil c
    obtain ⟨n, rfl, _⟩ := CT_int k0
    exact ⟨n, rfl⟩
  exact ⟨rows, rfl, hb, fun r hr => by obtain ⟨x, rfl⟩ := hb r hr; rfl, by simp [maxLen] at hl; omega⟩

end Go.Proofs.YtohicpepcjgnaaaGreat
/-
Draws: deep values of one's own beside a cursor that moves.
-/
namespace Go.Proofs.YtohicpepcjgnaaaGreat
open Go Go.Abs Go.Proofs

theorem chain_rebaseQ {o : Nat} (y : Ob) : ∀ {es : List Ent} {H0 H : Heap}, Chain H0 es H → H0 o ≠ none → Chain (upd H0 o y) es (upd H o y)
  | [], H0, H, h, _ => by
    have e : H = H0 := h
    subst e; rfl
  | e :: es, H0, H, h, ho => by
    obtain ⟨Hm, h1, h2⟩ := h
    refine ⟨upd Hm o y, h1.rebase y ho, chain_rebaseQ y h2 ?_⟩
    cases hx : H0 o with
    | none => exact absurd hx ho
    | some z => rw [h1.sub _ _ hx]; simp
theorem held_del {o sz : Nat} {rows : List (List V)} {v : V} {H0 H : Heap} (h : Held H0 sz rows v H) (ho : H0 o ≠ none) : Held (del H0 o) sz rows v (del H o) := by
  rcases h with ⟨h1, h2, rfl⟩ | ⟨p, cap, h1, h2, hc, rfl⟩
  · exact .inl ⟨h1, h2, rfl⟩
  · have hne : p ≠ o := by rintro rfl; exact ho h1
    refine .inr ⟨p, cap, by unfold del; rw [if_neg hne]; exact h1, h2, hc, ?_⟩
    funext i
    unfold del upd
    by_cases e : i = o
    · subst e; simp [Ne.symm hne]
    · simp [e]
theorem chain_del {o : Nat} : ∀ {es : List Ent} {H0 H : Heap}, Chain H0 es H → H0 o ≠ none → Chain (del H0 o) es (del H o)
  | [], H0, H, h, _ => by
    have e : H = H0 := h
    subst e; rfl
  | e :: es, H0, H, h, ho => by
    obtain ⟨Hm, h1, h2⟩ := h
    refine ⟨del Hm o, held_del h1 ho, chain_del h2 ?_⟩
    cases hx : H0 o with
    | none => exact absurd hx ho
    | some z => rw [h1.sub _ _ hx]; simp
theorem St.del {H H' : Heap} {o : Nat} (h : St H o H') : Abs.sub (Abs.del H o) (Abs.del H' o) := by
  obtain ⟨_, y, _, h2⟩ := h
  have := del_mono (o := o) h2
  rwa [del_upd] at this
theorem St.low {H H' : Heap} {o : Nat} (h : St H o H') : Abs.sub (Abs.del H o) H' := by
  obtain ⟨_, y, _, h2⟩ := h
  exact sub_trans del_sub_upd h2

section
variable {α : Type} {T : Ty α}
/-- Read where the cursor does not stand. -/
def Rq (T : Ty α) (H : Heap) (o : Nat) (a : α) (vs : List V) : Prop := T.rd (Abs.del H o) a vs
theorem Rq.rd {H : Heap} {o : Nat} {a : α} {vs : List V} (h : Rq T H o a vs) : T.rd H a vs := T.mono h del_sub
theorem Rq.st {H H' : Heap} {o : Nat} {a : α} {vs : List V} (h : Rq T H o a vs) (hs : St H o H') : Rq T H' o a vs := T.mono h (St.del hs)
theorem Rq.mono {H H' : Heap} {o : Nat} {a : α} {vs : List V} (h : Rq T H o a vs) (hs : Abs.sub H H') : Rq T H' o a vs := T.mono h (del_mono hs)
/-- One's own, and the cursor has moved since. -/
def Dq (T : Ty α) (Hs : Heap) (o : Nat) (a : α) (vs : List V) (H : Heap) : Prop := ∃ Hb, St Hs o Hb ∧ Dp T Hb a vs H
theorem Dq.cur {Hs H : Heap} {o : Nat} {a : α} {vs : List V} (h : Dq T Hs o a vs H) : IsCur H o := by
  obtain ⟨Hb, h1, h2⟩ := h; exact h1.1.mono h2.sub
theorem Dq.st {Hs H : Heap} {o : Nat} {a : α} {vs : List V} (h : Dq T Hs o a vs H) : St Hs o H := by
  obtain ⟨Hb, h1, h2⟩ := h; exact h1.more h2.sub
theorem Dq.rq {Hs H : Heap} {o : Nat} {a : α} {vs : List V} (h : Dq T Hs o a vs H) : Rq T H o a vs := by
  obtain ⟨Hb, h1, es, h2, h3⟩ := h
  exact Dp.rd ⟨es, h2, chain_del h3 h1.1.some⟩
theorem Dq.grow {Hs H H' : Heap} {o : Nat} {a : α} {vs : List V} (h : Dq T Hs o a vs H) (hs : Abs.sub H H') : Dq T Hs o a vs H' := by
  obtain ⟨Hb, h1, h2⟩ := h
  obtain ⟨Hb', g1, g2⟩ := h2.rise hs
  exact ⟨Hb', h1.more g1, g2⟩
theorem Dq.step {Hs H H' : Heap} {o : Nat} {a : α} {vs : List V} (h : Dq T Hs o a vs H) (hs : St H o H') : Dq T Hs o a vs H' := by
  obtain ⟨Hb, h1, es, h2, h3⟩ := h
  obtain ⟨hc, y, g1, g2⟩ := hs
  have h4 := chain_rebaseQ (o := o) y h3 h1.1.some
  have h5 : St Hs o (upd Hb o y) := h1.trans (St.of (g1.mono h3.sub) h1.1)
  exact Dq.grow ⟨_, h5, es, h2, h4⟩ g2
theorem Dq.of {Hs H H' : Heap} {o : Nat} {a : α} {vs : List V} (h : St Hs o H) (h' : Dp T H a vs H') : Dq T Hs o a vs H' := ⟨H, h, h'⟩
theorem Dq.from {Hs Hs' H : Heap} {o : Nat} {a : α} {vs : List V} (h : St Hs o Hs') (h' : Dq T Hs' o a vs H) : Dq T Hs o a vs H := by
  obtain ⟨Hb, h1, h2⟩ := h'
  exact ⟨Hb, h.trans h1, h2⟩
end
/-- The same for a flat slice. -/
def Hx (Hs : Heap) (o sz : Nat) (rows : List (List V)) (v : V) (H : Heap) : Prop := ∃ Hb, St Hs o Hb ∧ Held Hb sz rows v H
theorem hx_cur {Hs H : Heap} {o sz : Nat} {rows : List (List V)} {v : V} (h : Hx Hs o sz rows v H) : IsCur H o := by
  obtain ⟨Hb, h1, h2⟩ := h; exact h1.1.mono h2.sub
theorem hx_st {Hs H : Heap} {o sz : Nat} {rows : List (List V)} {v : V} (h : Hx Hs o sz rows v H) : St Hs o H := by
  obtain ⟨Hb, h1, h2⟩ := h; exact h1.more h2.sub
theorem hx_rc {Hs H : Heap} {o sz : Nat} {rows : List (List V)} {v : V} (h : Hx Hs o sz rows v H) (hr : ∀ r ∈ rows, r.length = sz) : Rd (Abs.del H o) sz v rows := by
  obtain ⟨Hb, h1, h2⟩ := h
  exact (held_del h2 h1.1.some).rd hr
theorem hx_grow {Hs H H' : Heap} {o sz : Nat} {rows : List (List V)} {v : V} (h : Hx Hs o sz rows v H) (hs : Abs.sub H H') : Hx Hs o sz rows v H' := by
  obtain ⟨Hb, h1, h2⟩ := h
  obtain ⟨Hb', g1, g2⟩ := h2.rise hs
  exact ⟨Hb', h1.more g1, g2⟩
theorem hx_step {Hs H H' : Heap} {o sz : Nat} {rows : List (List V)} {v : V} (h : Hx Hs o sz rows v H) (hs : St H o H') : Hx Hs o sz rows v H' := by
  obtain ⟨Hb, h1, h2⟩ := h
  obtain ⟨hc, y, g1, g2⟩ := hs
  exact hx_grow ⟨_, h1.trans (St.of (g1.mono h2.sub) h1.1), h2.rebase y (o := o) h1.1.some⟩ g2
/-- Two of one's own. -/
theorem dq_lsa {b : Bool} {a : TLsa} {l s : V} {Hs H1 H2 : Heap} {o : Nat} (h1 : Hx Hs o 2 (a.links.map enLink) l H1) (h2 : Hx H1 o 3 (a.stubs.map enStub) s H2) : Dq (lsaT b) Hs o a (lsaRow a l s) H2 := by
  obtain ⟨Hb, g1, g2⟩ := h2
  obtain ⟨Hc, k1, k2⟩ := hx_step h1 g1
  exact ⟨Hc, k1, Dp.lsa k2 g2⟩
theorem dq_links {b : Bool} {a : TLsa} {l s : V} {Hs H Hb : Heap} {o : Nat} {x : TLink} {K : V → Heap → Prop} (h : Dq (lsaT b) Hs o a (lsaRow a l s) H) (hs : Abs.sub H Hb) (hl : a.links.length ≤ 1000)
    (hk : ∀ l' H', Dq (lsaT b) Hs o { a with links := a.links ++ [x] } (lsaRow a l' s) H' → (cellsOf l' = [l'] ∧ cellOk l' = true ∧ notAny l' = true) → K l' H') : appendK Hb 2 16 l [enLink x] K := by
  obtain ⟨Hc, h1, h2⟩ := h
  obtain ⟨l2, s2, Hm, e, g1, g2⟩ := lsa_dp h2
  simp only [lsaRow, List.cons.injEq, and_true, true_and] at e
  obtain ⟨rfl, rfl⟩ := e
  obtain ⟨Hm', k1, k2⟩ := g1.swap g2
  refine k2.append hs (by simp) (by simp; omega) fun v' H' H'' ho' hs' => ?_
  obtain ⟨Hn, m1, m2⟩ := k1.swap ho'
  have := Dp.lsa (b := b) (a := { a with links := a.links ++ [x] }) (by rw [List.map_append]; exact m1) m2
  exact hk v' H' (Dq.grow ⟨Hc, h1, this⟩ hs') ho'.cell
theorem dq_stubs {b : Bool} {a : TLsa} {l s : V} {Hs H Hb : Heap} {o : Nat} {x : TStub} {K : V → Heap → Prop} (h : Dq (lsaT b) Hs o a (lsaRow a l s) H) (hs : Abs.sub H Hb) (hl : a.stubs.length ≤ 1000)
    (hk : ∀ s' H', Dq (lsaT b) Hs o { a with stubs := a.stubs ++ [x] } (lsaRow a l s') H' → (cellsOf s' = [s'] ∧ cellOk s' = true ∧ notAny s' = true) → K s' H') : appendK Hb 3 24 s [enStub x] K := by
  obtain ⟨Hc, h1, h2⟩ := h
  obtain ⟨l2, s2, Hm, e, g1, g2⟩ := lsa_dp h2
  simp only [lsaRow, List.cons.injEq, and_true, true_and] at e
  obtain ⟨rfl, rfl⟩ := e
  refine g2.append hs (by simp) (by simp; omega) fun v' H' H'' ho' hs' => ?_
  have := Dp.lsa (b := b) (a := { a with stubs := a.stubs ++ [x] }) g1 (by rw [List.map_append]; exact ho')
  exact hk v' H' (Dq.grow ⟨Hc, h1, this⟩ hs') ho'.cell
theorem dq_cell {b : Bool} {a : TLsa} {vs : List V} {Hs H : Heap} {o : Nat} (h : Dq (lsaT b) Hs o a vs H) : ∃ l s, vs = lsaRow a l s ∧ (cellsOf l = [l] ∧ cellOk l = true ∧ notAny l = true) ∧ (cellsOf s = [s] ∧ cellOk s = true ∧ notAny s = true) := by
  obtain ⟨l, s, e, h1, h2⟩ := h.rq
  exact ⟨l, s, e, h1.1.cell, h2.1.cell⟩
/-- The plain numbers of an advertisement do not count. -/
theorem dq_nums {b : Bool} {a : TLsa} {l s : V} {Hs H : Heap} {o : Nat} (h : Dq (lsaT b) Hs o a (lsaRow a l s) H) (x y z : Int) : Dq (lsaT b) Hs o ⟨x, y, z, a.links, a.stubs⟩ (lsaRow ⟨x, y, z, a.links, a.stubs⟩ l s) H := by
  obtain ⟨Hc, h1, h2⟩ := h
  obtain ⟨l2, s2, Hm, e, g1, g2⟩ := lsa_dp h2
  simp only [lsaRow, List.cons.injEq, and_true, true_and] at e
  obtain ⟨rfl, rfl⟩ := e
  exact ⟨Hc, h1, Dp.lsa (a := ⟨x, y, z, a.links, a.stubs⟩) g1 g2⟩

end Go.Proofs.YtohicpepcjgnaaaGreat
/-
Tables of the reference: well-formed ones; a route is put.
-/
namespace Go.Proofs.YtohicpepcjgnaaaGreat
open Go Go.Abs Go.Proofs

def rtOk (t : List TStub) (i : Nat) : Prop := prefOk (rt t i).1 (rt t i).2.1 ∧ (0 ≤ (rt t i).2.2 ∧ (rt t i).2.2 ≤ 999) ∧ (0 < i → ahead (rt t (i - 1)) (rt t i))
instance (t : List TStub) (i : Nat) : Decidable (rtOk t i) := by unfold rtOk; infer_instance
def tabOk (t : List TStub) : Prop := t.length ≤ 120 ∧ ∀ i, i < t.length → rtOk t i
instance (t : List TStub) : Decidable (tabOk t) := by unfold tabOk; infer_instance
theorem rt_getT {t : List TStub} {i : Nat} (h : i < t.length) : rt t i = t[i] := by simp [rt, h]
theorem tabOk_no {t : List TStub} {i : Nat} (hi : i < t.length) (h : ¬ rtOk t i) : ¬ tabOk t := fun hh => h (hh.2 i hi)

def InvTo (t : List TStub) (H : Heap) (m : Nat) (ys : List V) (Hc : Heap) : Prop :=
  ∃ i, i ≤ t.length ∧ ys = [.int .i64 (i : Nat)] ∧ m = t.length - i ∧ Hc = H ∧ ∀ j, j < i → rtOk t j
set_option maxHeartbeats 1000000 in
theorem C_s_TableOk {t : List TStub} {w : V} {H : Heap} {K : V → Heap → Prop} (hv : Rd H 3 w (t.map enStub)) (h : K (.bool (decide (tabOk t))) H) : ACalls P n_s_TableOk [.agg [w]] H K := by
  have hc := hv.cell
  apply W_s_TableOk
  unfold F_s_TableOk
  simp [hc, hv.len]
  refine ⟨fun q => Ret.no h fun hh => by have := hh.1; omega, fun q => ?_⟩
  refine ⟨InvTo t H, ⟨t.length, Shr.of ⟨0, by omega, by simp, by omega, rfl, fun j hj => absurd hj (by omega)⟩⟩, ?_⟩
  rintro m ys Hc ⟨i, hi, rfl, rfl, rfl, hok⟩
  simp
  refine ⟨fun hlt => ⟨_, Abs.sub_refl _, ?_⟩, fun hge => ?_⟩
  · have he := rt_getT hlt
    rw [i64_in (n := (i : Int) + 1) (by omega) (by omega)]
    refine hv.idx (by omega) (by simpa using hlt) fun p hp => ?_
    refine hp.fld fun p1 hp1 => ?_
    simp only [hp1.ld]
    simp [hlt]
    apply C_s_PrefixOk
    simp
    refine ⟨fun q => Ret.no h (tabOk_no hlt fun ho => q (by have := ho.1; rw [he] at this; exact this)), fun q1 => ?_⟩
    refine hv.idx (by omega) (by simpa using hlt) fun p hp => ?_
    refine hp.fld fun p1 hp1 => ?_
    simp only [hp1.ld]
    simp [hlt]
    apply C_s_l01In
    simp
    refine ⟨fun q => Ret.no h (tabOk_no hlt fun ho => by have := ho.2.1; rw [he] at this; omega), fun q2 q3 => ?_⟩
    have next : (0 < i → ahead (rt t (i - 1)) (rt t i)) → ∃ n7, n7 < t.length - i ∧ Shr (InvTo t Hc n7 [.int .i64 ((i : Int) + 1)]) Hc := fun hl =>
      ⟨t.length - (i + 1), by omega, Shr.of ⟨i + 1, by omega, by simp, rfl, rfl, fun j hj => by
        by_cases e : j = i
        · subst e
          refine ⟨?_, ?_, hl⟩ <;> rw [he]
          · exact q1
          · omega
        · exact hok j (by omega)⟩⟩
    refine ⟨fun q4 => ?_, fun q4 => next fun hh => absurd hh (by omega)⟩
    have hlt' : i - 1 < t.length := by omega
    have he' := rt_getT hlt'
    have e1 : ((i : Int) - 1).toNat = i - 1 := by omega
    rw [i64_in (n := (i : Int) - 1) (by omega) (by omega)]
    refine hv.idx (by omega) (by simp; omega) fun p' hp' => ?_
    refine hp'.fld fun p1 hp1 => ?_
    simp only [hp1.ld, e1]
    simp [hlt']
    refine hv.idx (by omega) (by simpa using hlt) fun p hp => ?_
    refine hp.fld fun p1 hp1 => ?_
    simp only [hp1.ld]
    simp [hlt]
    apply C_s_l02Ahead
    simp
    refine ⟨fun q => Ret.no h (tabOk_no hlt fun ho => q (by have := ho.2.2 (by omega); rw [he, he'] at this; exact this)), fun q5 => next fun _ => by rw [he, he']; exact q5⟩
  · have : i = t.length := by omega
    subst this
    exact Ret.yes h ⟨by omega, hok⟩

end Go.Proofs.YtohicpepcjgnaaaGreat
/-
Contracts: a route is put into a table, by the reference.
-/
namespace Go.Proofs.YtohicpepcjgnaaaGreat
open Go Go.Abs Go.Proofs

def sameP (r x : TStub) : Bool := decide (x.1 = r.1 ∧ x.2.1 = r.2.1)
def lessR (r : TStub) (t : List TStub) : List TStub := t.filter fun x => !sameP r x
def insR (r : TStub) : List TStub → List TStub
  | [] => [r]
  | x :: xs => if ahead r x then r :: x :: xs else x :: insR r xs
theorem insR_len (r : TStub) : ∀ t, (insR r t).length = t.length + 1
  | [] => rfl
  | x :: xs => by
    rw [insR]
    split
    · simp
    · rw [List.length_cons, insR_len r xs, List.length_cons]
def putT (t : List TStub) (r : TStub) : List TStub × Bool := if tabOk t then (if tabOk (insR r (lessR r t)) then (insR r (lessR r t), true) else (t, false)) else (t, false)
theorem lessR_len (r : TStub) (t : List TStub) : (lessR r t).length ≤ t.length := List.length_filter_le _ _
theorem putT_len (t : List TStub) (r : TStub) : (putT t r).1.length ≤ t.length + 1 := by
  unfold putT
  split
  · split
    · have := lessR_len r t
      rw [insR_len]; omega
    · simp
  · simp

def InvCt (r : List V) (t : List TStub) (H : Heap) (m : Nat) (ys : List V) (Hc : Heap) : Prop :=
  ∃ (i : Nat) (u : V), i ≤ t.length ∧ ys = [.box r, .box [.nils], .box [u], .int .i64 (i : Nat)] ∧ m = t.length - i ∧ Held H 3 ((t.take i).map enStub) u Hc
set_option maxHeartbeats 1000000 in
theorem C_s_l02Copy {t : List TStub} {v : V} {H : Heap} {K : V → Heap → Prop} (hv : Rd H 3 v (t.map enStub)) (hl : t.length ≤ 1048576) (h : ∀ u H', Held H 3 (t.map enStub) u H' → K (.agg [u]) H') : ACalls P n_s_l02Copy [.agg [v]] H K := by
  have hc := hv.cell
  apply W_s_l02Copy
  unfold F_s_l02Copy
  simp [hc, stz_eq, putCells, fillZ]
  refine ⟨InvCt [v] t H, ⟨t.length, Shr.of ⟨0, .nils, by omega, rfl, by omega, by simpa using Held.nil⟩⟩, ?_⟩
  rintro m ys Hc ⟨i, u, hi, rfl, rfl, hu⟩
  have cu := hu.cell
  simp [hc, hv.len]
  refine ⟨fun hlt => ?_, fun hge => ?_⟩
  · have hgd : (t.map enStub).getD i [] = enStub t[i] := by simp [hlt]
    refine (hv.mono hu.sub).idx (by omega) (by simpa using hlt) fun p hpp => ?_
    simp only [Int.toNat_natCast, hgd] at hpp
    rw [hpp.ld]
    simp [bsl_one]
    intro o7 ho7
    refine hu.append (sub_fresh ho7) (by simp) (by simp; omega) fun v' H' H'' ho' hs' => ?_
    have cv := ho'.cell
    simp [stz_eq, putCells, cv]
    rw [i64_in (n := (i : Int) + 1) (by omega) (by omega)]
    refine ⟨t.length - (i + 1), by omega, H'', hs', i + 1, v', by omega, by simp, rfl, ?_⟩
    rw [List.take_succ_eq_append_getElem hlt, List.map_append]
    exact ho'
  · have : i = t.length := by omega
    subst this
    rw [List.take_length] at hu
    simp [cu, stz_eq, putCells]
    exact Ret.of (h _ _ hu)

def InvLe (r p : List V) (k : TStub) (t : List TStub) (H : Heap) (m : Nat) (ys : List V) (Hc : Heap) : Prop :=
  ∃ (i : Nat) (u : V), i ≤ t.length ∧ ys = [.box r, .box p, .box [.nils], .box [u], .int .i64 (i : Nat)] ∧ m = t.length - i ∧ Held H 3 ((lessR k (t.take i)).map enStub) u Hc
theorem less_yes {k : TStub} {t : List TStub} {i : Nat} (hi : i < t.length) (h : sameP k t[i] = false) : lessR k (t.take (i + 1)) = lessR k (t.take i) ++ [t[i]] := by
  unfold lessR; rw [List.take_succ_eq_append_getElem hi, List.filter_append]; simp [h]
theorem less_no {k : TStub} {t : List TStub} {i : Nat} (hi : i < t.length) (h : sameP k t[i] = true) : lessR k (t.take (i + 1)) = lessR k (t.take i) := by
  unfold lessR; rw [List.take_succ_eq_append_getElem hi, List.filter_append]; simp [h]
set_option maxHeartbeats 1000000 in
theorem C_s_l02Less {t : List TStub} {k : TStub} {v : V} {H : Heap} {K : V → Heap → Prop} (hv : Rd H 3 v (t.map enStub)) (hl : t.length ≤ 1048576) (h : ∀ u H', Held H 3 ((lessR k t).map enStub) u H' → K (.agg [u]) H') : ACalls P n_s_l02Less [.agg [v], .agg [.int .i64 k.1, .int .i64 k.2.1]] H K := by
  have hc := hv.cell
  apply W_s_l02Less
  unfold F_s_l02Less
  simp [hc, stz_eq, putCells, fillZ]
  refine ⟨InvLe [v] [.int .i64 k.1, .int .i64 k.2.1] k t H, ⟨t.length, Shr.of ⟨0, .nils, by omega, rfl, by omega, by simpa [lessR] using Held.nil⟩⟩, ?_⟩
  rintro m ys Hc ⟨i, u, hi, rfl, rfl, hu⟩
  have cu := hu.cell
  simp [hc, hv.len]
  rw [i64_in (n := (i : Int) + 1) (by omega) (by omega)]
  refine ⟨fun hlt => ⟨Hc, Abs.sub_refl _, ?_⟩, fun hge => ?_⟩
  · have hgd : (t.map enStub).getD i [] = enStub t[i] := by simp [hlt]
    have hll := lessR_len k (t.take i)
    have htl : (t.take i).length ≤ i := by simp; omega
    refine (hv.mono hu.sub).idx (by omega) (by simpa using hlt) fun p hpp => ?_
    simp only [Int.toNat_natCast, hgd] at hpp
    refine hpp.fld fun p1 hp1 => ?_
    rw [hp1.ld]
    simp [Q_neq_Prefix]
    have key : ∀ b : Bool, sameP k t[i] = b → (b = true ↔ (t[i].1 = k.1 ∧ t[i].2.1 = k.2.1)) := fun b hb => by rw [← hb]; unfold sameP; simp
    refine ⟨fun q => ?_, fun q1 q2 => ?_⟩
    · refine (hv.mono hu.sub).idx (by omega) (by simpa using hlt) fun p hpp => ?_
      simp only [Int.toNat_natCast, hgd] at hpp
      rw [hpp.ld]
      simp [bsl_one]
      intro o7 ho7
      refine hu.append (sub_fresh ho7) (by simp) (by rw [List.length_map]; simp only [List.length_cons, List.length_nil]; omega) fun v' H' H'' ho' hs' => ?_
      have cv := ho'.cell
      simp [stz_eq, putCells, cv]
      refine ⟨t.length - (i + 1), by omega, H'', hs', i + 1, v', by omega, by simp, rfl, ?_⟩
      have : sameP k t[i] = false := by
        cases hb : sameP k t[i] with
        | false => rfl
        | true => have := (key _ hb).1 rfl; exact (q.elim (fun q => absurd this.1 q) (fun q => absurd this.2 q))
      rw [less_yes hlt this, List.map_append]
      exact ho'
    · refine ⟨t.length - (i + 1), by omega, Shr.of ⟨i + 1, u, by omega, by simp, rfl, ?_⟩⟩
      have : sameP k t[i] = true := (key _ rfl).2 ⟨q1, q2⟩
      rw [less_no hlt this]
      exact hu
  · have : i = t.length := by omega
    subst this
    rw [List.take_length] at hu
    simp [cu, stz_eq, putCells]
    exact Ret.of (h _ _ hu)

def InvPr (v : V) (k : TStub) (w : V) (old : List TStub) (H : Heap) (m : Nat) (ys : List V) (Hc : Heap) : Prop :=
  ∃ (i : Nat) (u : V) (out : List TStub) (b : Bool), i ≤ old.length ∧ ys = [.box [v], .box (enStub k), .box [.nils], .box [w], .box [u], .bool b, .int .i64 (i : Nat)] ∧ m = old.length - i ∧ out.length ≤ i + 1 ∧
    out ++ (if b = true then old.drop i else insR k (old.drop i)) = insR k old ∧ Held H 3 (out.map enStub) u Hc
theorem ins_step {k x : TStub} {out rest all : List TStub} (h : out ++ insR k (x :: rest) = all) : (ahead k x → out ++ [k] ++ [x] ++ rest = all) ∧ (¬ ahead k x → out ++ [x] ++ insR k rest = all) := by
  rw [insR] at h
  constructor
  · intro ha; rw [if_pos ha] at h; simpa using h
  · intro ha; rw [if_neg ha] at h; simpa using h
set_option maxHeartbeats 4000000 in
theorem C_s_PutRoute {t : List TStub} {k : TStub} {v : V} {H : Heap} {K : V → Heap → Prop} (hv : Rd H 3 v (t.map enStub)) (hl : t.length ≤ 1048576)
    (h : ∀ u H', Held H 3 ((putT t k).1.map enStub) u H' → K (.tup [.agg [u], .bool (putT t k).2]) H') : ACalls P n_s_PutRoute [.agg [v], .agg (enStub k)] H K := by
  have hc := hv.cell
  have stay : ∀ Hx, Abs.sub H Hx → putT t k = (t, false) → ACalls P n_s_l02Copy [.agg [v]] Hx fun v6 H7 => bnd (stz 1 [.nils] 0 v6) fun c8 => bnd (partOf true 1 c8 0) fun t9 => Ret K (.tup [t9, (.bool false)]) H7 := fun Hx hs he => by
    refine C_s_l02Copy (hv.mono hs) hl fun u H1 h1 => ?_
    have c1 := h1.cell
    simp [stz_eq, putCells, c1]
    rw [he] at h
    obtain ⟨Hz, z1, z2⟩ := h1.shrink hs
    exact Ret.shr (h u Hz z1) rfl z2
  apply W_s_PutRoute
  unfold F_s_PutRoute
  simp [hc, stz_eq, putCells, fillZ] at stay ⊢
  refine C_s_TableOk hv ?_
  simp
  refine ⟨fun q => stay H (Abs.sub_refl _) (by unfold putT; rw [if_neg q]), fun hok => ?_⟩
  refine C_s_l02Less hv hl fun w H1 h1 => ?_
  have c1 := h1.cell
  have hll := lessR_len k t
  simp [stz_eq, putCells, c1]
  have hrd1 := h1.rd enStub_len
  generalize hold : lessR k t = old at *
  refine ⟨InvPr v k w old H1, ⟨old.length, Shr.of ⟨0, .nils, [], false, by omega, rfl, by omega, by simp, by simp, Held.nil⟩⟩, ?_⟩
  rintro m ys Hc ⟨i, u, out, b, hi, rfl, rfl, hlen, hinv, hu⟩
  have cu := hu.cell
  have rdo := hrd1.mono hu.sub
  simp [rdo.len]
  rw [i64_in (n := (i : Int) + 1) (by omega) (by omega)]
  refine ⟨fun hlt => ⟨Hc, Abs.sub_refl _, ?_⟩, fun hge => ?_⟩
  · have hgd : (old.map enStub).getD i [] = enStub old[i] := by simp [hlt]
    have hdr : old.drop i = old[i] :: old.drop (i + 1) := List.drop_eq_getElem_cons hlt
    have put1 : ∀ (Hd : Heap) (u' : V) (out' : List TStub) (b' : Bool), Held H1 3 (out'.map enStub) u' Hd → out'.length ≤ i + 1 → (out' ++ [old[i]] ++ (if b' = true then old.drop (i + 1) else insR k (old.drop (i + 1))) = insR k old) → 
        bnd (aIndex Hd 3 w (.int .i64 (i : Nat))) fun t45 => bnd (aLd true 3 Hd t45) fun t46 => bnd (bsl 3 1 [(.int .i64 0), (.int .i64 0), (.int .i64 0)] [(0, t46)]) fun r47 => ∀ o48, Hd o48 = none →
          bnd (rowsOf (upd Hd o48 ⟨3, r47⟩) 3 (.slice o48 0 1 (some 1))) fun r51 => appendK (upd Hd o48 ⟨3, r47⟩) 3 24 u' r51 fun v49 H50 => bnd (stz 1 [u'] 0 v49) fun c52 =>
            ∃ n20, n20 < old.length - i ∧ Shr (InvPr v k w old H1 n20 [.box [v], .box (enStub k), .box [.nils], .box [w], .box c52, .bool b', .int .i64 ((i : Int) + 1)]) H50 := fun Hd u' out' b' hu' hl' hi' => by
      refine (hrd1.mono hu'.sub).idx (by omega) (by simpa using hlt) fun p hpp => ?_
      simp only [Int.toNat_natCast, hgd] at hpp
      rw [hpp.ld]
      simp [bsl_one]
      intro o7 ho7
      refine hu'.append (sub_fresh ho7) (by simp) (by rw [List.length_map]; simp only [List.length_cons, List.length_nil]; omega) fun v' H' H'' ho' hs' => ?_
      have cv := ho'.cell
      simp [stz_eq, putCells, cv]
      exact ⟨old.length - (i + 1), by omega, H'', hs', i + 1, v', out' ++ [old[i]], b', by omega, by simp, rfl, by simp; omega, hi', by rw [List.map_append]; exact ho'⟩
    refine ⟨fun hb => ?_, fun hb => ?_⟩
    · subst hb
      rw [if_neg (by simp), hdr] at hinv
      obtain ⟨s1, s2⟩ := ins_step hinv
      refine rdo.idx (by omega) (by simpa using hlt) fun p hpp => ?_
      simp only [Int.toNat_natCast, hgd] at hpp
      refine hpp.fld fun p1 hp1 => ?_
      rw [hp1.ld]
      simp
      refine C_s_l02Ahead (a := k) (b := old[i]) ⟨Abs.sub_refl _, ?_⟩
      simp [bsl_one]
      refine ⟨fun ha => ?_, fun ha => ?_⟩
      · intro o7 ho7
        have hlen' : out.length ≤ i := by
          have e1 := congrArg List.length hinv
          simp [insR_len] at e1
          omega
        refine hu.append (sub_fresh ho7) (by simp) (by rw [List.length_map]; simp only [List.length_cons, List.length_nil]; omega) fun v' H' H'' ho' hs' => ?_
        have cv := ho'.cell
        simp [stz_eq, putCells, cv]
        obtain ⟨Hx, x1, x2⟩ := ho'.rise hs'
        have := put1 H'' v' (out ++ [k]) true (by rw [List.map_append]; exact ho') (by simp; omega) (by simpa using s1 ha)
        simp [bsl_one] at this
        refine (hrd1.mono (sub_trans ho'.sub hs')).idx (by omega) (by simpa using hlt) fun p hpp => ?_
        simp only [Int.toNat_natCast, hgd] at hpp
        rw [hpp.ld]
        simp [bsl_one]
        intro o8 ho8
        refine ho'.append (sub_trans hs' (sub_fresh ho8)) (by simp) (by simp; omega) fun v2 H2' H2'' ho2 hs2 => ?_
        have cv2 := ho2.cell
        simp [stz_eq, putCells, cv2]
        refine ⟨old.length - (i + 1), by omega, H2'', hs2, i + 1, v2, out ++ [k] ++ [old[i]], true, by omega, by simp, rfl, by simp; omega, by simpa using s1 ha, by simpa using ho2⟩
      · have := put1 Hc u out false hu hlen (by simpa using s2 ha)
        simpa [bsl_one, cu] using this
    · subst hb
      rw [if_pos rfl, hdr] at hinv
      have := put1 Hc u out true hu hlen (by simpa using hinv)
      simpa [bsl_one, cu] using this
  · have e : i = old.length := by omega
    subst e
    rw [List.drop_length] at hinv
    have done : ∀ (Hy Hd : Heap) (u' : V) (out' : List TStub), Abs.sub H1 Hy → Held Hy 3 (out'.map enStub) u' Hd → out' = insR k old → ACalls P n_s_TableOk [.agg [u']] Hd fun v86 H87 =>
        bnd (aNot v86) fun t88 => cnd t88
        (ACalls P n_s_l02Copy [.agg [v]] H87 fun v90 H91 => bnd (stz 1 [.nils] 0 v90) fun c92 => bnd (partOf true 1 c92 0) fun t93 => Ret K (.tup [t93, (.bool false)]) H91)
        (bnd (stz 1 [.nils] 0 (.agg [u'])) fun c95 => bnd (partOf true 1 c95 0) fun t96 => Ret K (.tup [t96, (.bool true)]) H87) := fun Hy Hd u' out' hy hu' he => by
      subst he
      have cu' := hu'.cell
      refine C_s_TableOk (hu'.rd enStub_len) ?_
      simp [stz_eq, putCells, cu']
      refine ⟨fun q => stay Hd (sub_trans h1.sub (sub_trans hy hu'.sub)) (by unfold putT; rw [if_pos hok, hold, if_neg q]), fun q => ?_⟩
      have hp : putT t k = (insR k old, true) := by unfold putT; rw [if_pos hok, hold, if_pos q]
      rw [hp] at h
      obtain ⟨Hz, z1, z2⟩ := hu'.shrink (sub_trans h1.sub hy)
      exact Ret.shr (h u' Hz z1) rfl z2
    simp [bsl_one, cu]
    refine ⟨fun hb => ?_, fun hb => ?_⟩
    · subst hb
      rw [if_neg (by simp)] at hinv
      intro o7 ho7
      refine hu.append (sub_fresh ho7) (by simp) (by rw [List.length_map]; simp only [List.length_cons, List.length_nil]; omega) fun v' H' H'' ho' hs' => ?_
      have cv := ho'.cell
      simp [stz_eq, putCells, cv]
      obtain ⟨Hx, x1, x2⟩ := ho'.rise hs'
      have := done Hx H' v' (out ++ [k]) x1 (by rw [List.map_append]; exact x2) (by simpa [insR] using hinv)
      simpa [stz_eq, putCells, cv] using this
    · subst hb
      rw [if_pos rfl, List.append_nil] at hinv
      have := done H1 Hc u out (Abs.sub_refl _) hu hinv
      simpa [stz_eq, putCells, cu] using this

end Go.Proofs.YtohicpepcjgnaaaGreat
/-
Contracts of the draws of advertisements.
-/
namespace Go.Proofs.YtohicpepcjgnaaaGreat
open Go Go.Abs Go.Proofs

theorem psz_pos (len : Int) : psz len ≠ 0 := by
  unfold psz
  have : (0 : Int) < 2 ^ (16 - len).toNat := Int.pow_pos (by omega)
  omega
set_option maxHeartbeats 2000000 in
theorem C_w_l01DrawPrefix {o : Nat} {H : Heap} {K : V → Heap → Prop} (hc : IsCur H o) (h : ∀ net len Hd, St H o Hd → K (.agg [.int .i64 net, .int .i64 len]) Hd) : ACalls P n_s_l01DrawPrefix [.ptr o 0 0] H K := by
  apply W_s_l01DrawPrefix
  unfold F_s_l01DrawPrefix
  refine C_s_l01Below hc fun a H1 a0 a1 _ s1 => ?_
  refine C_s_l01Below s1.1 fun b H2 b0 b1 _ s2 => ?_
  have s2 := s1.trans s2
  simp
  refine C_s_l01Below s2.1 fun c H3 c0 c1 _ s3 => ?_
  have s3 := s2.trans s3
  simp
  rw [i64_in (n := 8 + b) (by omega) (by omega), i64_in (n := 8 + c) (by omega) (by omega)]
  refine C_pick [0, 1, 4, 8, 12, 15, 16, a, 8 + b, 8 + c] rfl rfl rfl (by simp) (by simp) s3.1 fun n H4 hn s4 => ?_
  have s4 := s3.trans s4
  have hn' : 0 ≤ n ∧ n ≤ 16 := by
    simp only [List.mem_cons, List.not_mem_nil, or_false] at hn
    omega
  refine C_s_l01Below s4.1 fun d H5 _ _ _ s5 => ?_
  have s5 := s4.trans s5
  refine C_s_l01Below s5.1 fun e H6 _ _ _ s6 => ?_
  have s6 := s5.trans s6
  refine C_pick [0, 2560, d, e] rfl rfl rfl (by simp) (by simp) s6.1 fun net H7 _ s7 => ?_
  have s7 := s6.trans s7
  simp [stz_eq, putCells, fillZ]
  refine ⟨noHeap, noHeap_sub _, ?_⟩
  refine C_s_l01Size2 hn' ⟨noHeap_sub _, ?_⟩
  simp [psz_pos]
  refine C_s_l01Once s7.1 fun q H8 s8 => ?_
  have s8 := s7.trans s8
  simp [stz_eq, putCells]
  refine ⟨fun _ => ?_, fun _ => Ret.of (h _ _ _ s8)⟩
  refine C_s_l01Below s8.1 fun k H9 _ _ _ s9 => ?_
  have s9 := s8.trans s9
  simp [stz_eq, putCells]
  refine ⟨fun _ => ?_, fun _ => ⟨fun _ => ?_, fun _ => ⟨fun _ => Ret.of (h _ _ _ s9), fun _ => Ret.of (h _ _ _ s9)⟩⟩⟩
  · refine C_pick [-1, 17, 3] rfl rfl rfl (by simp) (by simp) s9.1 fun y H10 _ s10 => ?_
    simp [stz_eq, putCells]
    exact Ret.of (h _ _ _ (s9.trans s10))
  · refine C_pick [-1, 65536, 1, 65535] rfl rfl rfl (by simp) (by simp) s9.1 fun y H10 _ s10 => ?_
    simp [stz_eq, putCells]
    exact Ret.of (h _ _ _ (s9.trans s10))

def InvDl (H : Heap) (o : Nat) (n : Int) (m : Nat) (ys : List V) (Hc : Heap) : Prop :=
  ∃ (i : Nat) (u : V) (ls : List TLink), (i : Int) ≤ max n 0 ∧ ys = [u, .int .i64 (i : Nat)] ∧ m = n.toNat - i ∧ ls.length ≤ i ∧ Hx H o 2 (ls.map enLink) u Hc
set_option maxHeartbeats 1000000 in
theorem C_w_l05DrawLinks {o : Nat} {og n : Int} {H : Heap} {K : V → Heap → Prop} (hc : IsCur H o) (hn : n ≤ 10) (h : ∀ (ls : List TLink) u Hd, ls.length ≤ 10 → Hx H o 2 (ls.map enLink) u Hd → K u Hd) : ACalls P n_s_l05DrawLinks [.ptr o 0 0, .int .i64 og, .int .i64 n] H K := by
  apply W_s_l05DrawLinks
  unfold F_s_l05DrawLinks
  simp [bsl_nil]
  intro o2 ho2
  refine ⟨InvDl H o n, ⟨n.toNat, Shr.of ⟨0, _, [], by omega, rfl, by omega, by simp, ⟨H, St.grow hc (Abs.sub_refl _), Held.new ho2⟩⟩⟩, ?_⟩
  rintro m ys Hc ⟨i, u, ls, hi, rfl, rfl, hlen, hu⟩
  simp
  refine ⟨fun hlt => ?_, fun hge => Ret.of (h ls u Hc (by omega) hu)⟩
  rw [i64_in (n := (i : Int) + 1) (by omega) (by omega)]
  have next : ∀ (ls' : List TLink) (u' : V) (H' : Heap), ls'.length ≤ i + 1 → Hx H o 2 (ls'.map enLink) u' H' → ∃ n6, n6 < n.toNat - i ∧ Shr (InvDl H o n n6 [u', .int .i64 ((i : Int) + 1)]) H' := fun ls' u' H' h1 h2 =>
    ⟨n.toNat - (i + 1), by omega, Shr.of ⟨i + 1, u', ls', by omega, by simp, rfl, h1, h2⟩⟩
  refine ⟨fun _ => ?_, fun _ => next ls u Hc (by omega) hu⟩
  refine C_s_l01Below (hx_cur hu) fun x H1 _ _ _ s1 => ?_
  have hu1 := hx_step hu s1
  simp
  refine ⟨fun _ => ?_, fun _ => next ls u H1 (by omega) hu1⟩
  refine C_s_l01Below s1.1 fun y H2 y0 y1 _ s2 => ?_
  have hu2 := hx_step hu1 s2
  simp
  rw [i64_in (n := 1 + y) (by omega) (by omega)]
  refine C_pick [1, 2, 3, 1 + y, 1000] rfl rfl rfl (by simp) (by simp) s2.1 fun z H3 _ s3 => ?_
  have hu3 := hx_step hu2 s3
  have hb1 : bsl 2 1 [V.int .i64 0, .int .i64 0] [(0, .agg [.int .i64 (i : Int), .int .i64 z])] = some [enLink ((i : Int), z)] := rfl
  simp [fillZ, putCells, hb1]
  intro o7 ho7
  obtain ⟨Hb, g1, g2⟩ := hu3
  refine g2.append (sub_fresh ho7) (by simp) (by simp; omega) fun v' H' H'' ho' hs' => ?_
  exact next (ls ++ [((i : Int), z)]) v' H' (by simp; omega) (hx_grow ⟨Hb, g1, by rw [List.map_append]; exact ho'⟩ hs')

def InvDs1 (H : Heap) (o : Nat) (n : Int) (m : Nat) (ys : List V) (Hc : Heap) : Prop :=
  ∃ (i : Nat) (u : V) (t : List TStub), (i : Int) ≤ max n 0 ∧ ys = [.box [u], .int .i64 (i : Nat)] ∧ m = n.toNat - i ∧ t.length ≤ i ∧ St H o Hc ∧ Rd (Abs.del Hc o) 3 u (t.map enStub)
def InvDs2 (H : Heap) (t : List TStub) (m : Nat) (ys : List V) (Hc : Heap) : Prop :=
  ∃ (i : Nat) (u : V), i ≤ t.length ∧ ys = [u, .int .i64 (i : Nat)] ∧ m = t.length - i ∧ Held H 3 ((t.take i).map enStub) u Hc
set_option maxHeartbeats 2000000 in
theorem C_w_l05DrawStubs {o : Nat} {n : Int} {H : Heap} {K : V → Heap → Prop} (hc : IsCur H o) (hn : n ≤ 10) (h : ∀ (ss : List TStub) u Hd, ss.length ≤ 10 → Hx H o 3 (ss.map enStub) u Hd → K u Hd) : ACalls P n_s_l05DrawStubs [.ptr o 0 0, .int .i64 n] H K := by
  apply W_s_l05DrawStubs
  unfold F_s_l05DrawStubs
  simp [stz_eq, putCells, fillZ, bsl_nil]
  refine ⟨InvDs1 H o n, ⟨n.toNat, Shr.of ⟨0, .nils, [], by omega, rfl, by omega, by simp, St.grow hc (Abs.sub_refl _), Rd.nils⟩⟩, ?_⟩
  rintro m ys Hc ⟨i, u, t, hi, rfl, rfl, hlen, st, hu⟩
  have cu := hu.cell
  simp
  refine ⟨fun hlt => ?_, fun hge => ?_⟩
  · rw [i64_in (n := (i : Int) + 1) (by omega) (by omega)]
    refine C_w_l01DrawPrefix st.1 fun net len H1 s1 => ?_
    have st1 := st.trans s1
    simp [stz_eq, putCells]
    have put : ∀ (net len : Int) (H2 : Heap), St Hc o H2 → ∃ S, Abs.sub S H2 ∧ ACalls P n_s_l01Below [.ptr o 0 0, .int .i64 9] H2 fun v23 H24 => Abs.sub S H24 ∧ bnd (aBinN .add (.int .i64 1) v23) fun t25 =>
        bnd (fillZ [(.int .i64 0), (.int .i64 0), (.int .i64 0)] [(0, 2, .agg [.int .i64 net, .int .i64 len]), (2, 1, t25)]) fun c26 => ACalls P n_s_PutRoute [.agg [u], (.agg c26)] H24 fun v27 H28 => Abs.sub S H28 ∧
        bnd (aExtract 0 v27) fun t29 => bnd (aExtract 1 v27) fun _ => bnd (stz 1 [u] 0 t29) fun c31 => ∃ n6, n6 < n.toNat - i ∧ Shr (InvDs1 H o n n6 [.box c31, .int .i64 ((i : Int) + 1)]) H28 := fun net len H2 s2 => by
      refine ⟨noHeap, noHeap_sub _, ?_⟩
      refine C_s_l01Below s2.1 fun x H3 x0 x1 _ s3 => ⟨noHeap_sub _, ?_⟩
      have s3 := s2.trans s3
      have hu3 := hu.mono (St.del s3)
      simp [fillZ, putCells]
      refine C_s_PutRoute (t := t) (k := (net, len, IntKind.i64.wrap (1 + x))) (hu3.mono del_sub) (by omega) fun w H4 h4 => ⟨noHeap_sub _, ?_⟩
      have c4 := h4.cell
      simp [stz_eq, putCells, c4]
      have hx4 : Hx Hc o 3 ((putT t (net, len, IntKind.i64.wrap (1 + x))).1.map enStub) w H4 := ⟨H3, s3, h4⟩
      have hl4 := putT_len t (net, len, IntKind.i64.wrap (1 + x))
      exact ⟨n.toNat - (i + 1), by omega, Shr.of ⟨i + 1, w, _, by omega, by simp, rfl, by omega, st.trans (hx_st hx4), hx_rc hx4 enStub_len⟩⟩
    simp [fillZ, putCells, stz_eq, cu] at put
    refine C_s_l01Once st1.1 fun q H2 s2 => ?_
    have s2 := s1.trans s2
    simp
    refine ⟨fun _ => ?_, fun _ => ?_⟩
    · refine C_s_l01Below s2.1 fun x H3 x0 x1 _ s3 => ?_
      simp [fillZ, putCells, stz_eq]
      have := put (IntKind.i64.wrap (256 * x)) 8 H3 (s2.trans s3)
      simpa [fillZ, putCells, stz_eq, cu] using this
    · have := put net len H2 s2
      simpa [fillZ, putCells, stz_eq, cu] using this
  · intro o5 ho5
    refine ⟨InvDs2 Hc t, ⟨t.length, Shr.of ⟨0, _, by omega, rfl, by omega, Held.new ho5⟩⟩, ?_⟩
    rintro m ys Hd ⟨j, w, hj, rfl, rfl, hw⟩
    simp [hu.len]
    refine ⟨fun hlt => ?_, fun hge => ?_⟩
    · have hst2 : Abs.sub (Abs.del Hc o) Hd := sub_trans del_sub hw.sub
      have hgd : (t.map enStub).getD j [] = enStub t[j] := by simp [hlt]
      refine (hu.mono hst2).idx (by omega) (by simpa using hlt) fun p hp => ?_
      simp only [Int.toNat_natCast, hgd] at hp
      refine hp.fld fun p1 hp1 => ?_
      rw [hp1.ld]
      simp
      refine (hu.mono hst2).idx (by omega) (by simpa using hlt) fun p hp => ?_
      simp only [Int.toNat_natCast, hgd] at hp
      refine hp.fld fun p1 hp1 => ?_
      rw [hp1.ld]
      have hb1 : bsl 3 1 [V.int .i64 0, .int .i64 0, .int .i64 0] [(0, .agg [.int .i64 t[j].1, .int .i64 t[j].2.1, .int .i64 t[j].2.2])] = some [enStub t[j]] := rfl
      simp [fillZ, putCells, hb1]
      intro o7 ho7
      refine hw.append (sub_fresh ho7) (by simp) (by simp; omega) fun v' H' H'' ho' hs' => ?_
      rw [i64_in (n := (j : Int) + 1) (by omega) (by omega)]
      refine ⟨t.length - (j + 1), by omega, H'', hs', j + 1, v', by omega, by simp, rfl, ?_⟩
      rw [List.take_succ_eq_append_getElem hlt, List.map_append]
      exact ho'
    · have e : j = t.length := by omega
      subst e
      rw [List.take_length] at hw
      exact Ret.of (h t w Hd (by omega) ⟨Hc, st, hw⟩)

/-! #### advertisements -/
def small (a : TLsa) : Prop := a.links.length ≤ 40 ∧ a.stubs.length ≤ 40
set_option maxHeartbeats 1000000 in
theorem C_w_l05DrawLsa {o : Nat} {og n : Int} {H : Heap} {K : V → Heap → Prop} (hc : IsCur H o) (hn : n ≤ 10) (h : ∀ (a : TLsa) us Hd, a.origin = og → a.links.length ≤ 10 ∧ a.stubs.length ≤ 10 → Dq (lsaT false) H o a us Hd → K (.agg us) Hd) : ACalls P n_s_l05DrawLsa [.ptr o 0 0, .int .i64 og, .int .i64 n] H K := by
  apply W_s_l05DrawLsa
  unfold F_s_l05DrawLsa
  refine C_s_l01Below hc fun a H1 _ _ _ s1 => ?_
  simp
  refine C_s_l01Below s1.1 fun b H2 _ _ _ s2 => ?_
  have s2 := s1.trans s2
  refine C_s_l01Below s2.1 fun c H3 _ _ _ s3 => ?_
  have s3 := s2.trans s3
  refine C_pick [0, 0, b, c, 60] rfl rfl rfl (by simp) (by simp) s3.1 fun d H4 _ s4 => ?_
  have s4 := s3.trans s4
  refine C_w_l05DrawLinks s4.1 hn fun ls l H5 l5 h5 => ?_
  refine C_s_l01Below (hx_cur h5) fun e H6 e0 e1 _ s6 => ?_
  have h6 := hx_step h5 s6
  refine C_w_l05DrawStubs s6.1 (by omega) fun ss s H7 l7 h7 => ?_
  obtain ⟨Hb, g1, g2⟩ := h6
  have cl := g2.cell
  have cs := (hx_rc h7 enStub_len).cell
  simp [stz_eq, putCells, fillZ, cl, cs]
  have hd := dq_lsa (b := false) (a := ⟨og, IntKind.i64.wrap (1 + a), d, ls, ss⟩) (Hs := H) (o := o) ⟨Hb, s4.trans g1, g2⟩ h7
  exact Ret.of (h ⟨og, IntKind.i64.wrap (1 + a), d, ls, ss⟩ _ H7 rfl ⟨l5, l7⟩ hd)

def InvBd5 (H : Heap) (o : Nat) (a : TLsa) (m : Nat) (ys : List V) (Hc : Heap) : Prop :=
  ∃ (i : Nat) (a' : TLsa) (l s : V), i ≤ 7 ∧ ys = [.box [.int .i64 0, .int .i64 0, .int .i64 0, .nils, .nils], .box (lsaRow a' l s), .int .i64 (i : Nat)] ∧ m = 7 - i ∧ a'.links.length ≤ a.links.length + 7 ∧ a'.stubs.length ≤ a.stubs.length + i ∧ Dq (lsaT false) H o a' (lsaRow a' l s) Hc
set_option maxHeartbeats 4000000 in
theorem C_w_l05Bend {o : Nat} {b : Bool} {a : TLsa} {vs : List V} {H : Heap} {K : V → Heap → Prop} (hc : IsCur H o) (hv : (lsaT b).rd H a vs) (hl : a.links.length ≤ 100 ∧ a.stubs.length ≤ 100)
    (h : ∀ (a' : TLsa) us Hd, a'.links.length ≤ a.links.length + 7 ∧ a'.stubs.length ≤ a.stubs.length + 7 → Dq (lsaT false) H o a' us Hd → K (.agg us) Hd) : ACalls P n_s_l05Bend [.ptr o 0 0, .agg vs] H K := by
  obtain ⟨l0, s0, rfl, r1, r2⟩ := hv
  have c1 := r1.1.cell
  have c2 := r2.1.cell
  apply W_s_l05Bend
  unfold F_s_l05Bend
  simp [c1, c2]
  refine C_s_l05Copy (c := false) ⟨l0, s0, rfl, r1, r2⟩ (by omega) fun us H1 h1 => ?_
  have hd := Dq.of (o := o) (St.grow hc (Abs.sub_refl _)) h1
  obtain ⟨l, s, rfl, cl, cs⟩ := dq_cell hd
  simp [stz_eq, putCells, cl, cs]
  have fin : ∀ (a' : TLsa) (l' s' : V) (H' : Heap), a'.links.length ≤ a.links.length + 7 ∧ a'.stubs.length ≤ a.stubs.length + 7 → Dq (lsaT false) H o a' (lsaRow a' l' s') H' → Ret K (.agg [.int .i64 a'.origin, .int .i64 a'.seq, .int .i64 a'.age, l', s']) H' := fun a' l' s' H' hl' hd' => Ret.of (h a' _ H' hl' hd')
  refine C_s_l01Below hd.cur fun k H2 _ _ _ s2 => ?_
  have hd2 := hd.step s2
  simp
  refine ⟨fun _ => ?_, fun _ => ⟨fun _ => ?_, fun _ => ⟨fun _ => ?_, fun _ => ⟨fun _ => ?_, fun _ => ⟨fun _ => ?_, fun _ => ⟨fun _ => ?_, fun _ => fin a l s H2 (by omega) hd2⟩⟩⟩⟩⟩⟩
  · refine C_pick [-1, 10, 9, 0] rfl rfl rfl (by simp) (by simp) hd2.cur fun y H3 _ s3 => ?_
    simp [stz_eq, putCells, cl, cs]
    exact fin ⟨y, a.seq, a.age, a.links, a.stubs⟩ l s H3 (by simp) (dq_nums (hd2.step s3) y a.seq a.age)
  · refine C_pick [0, 1000000, 1000001] rfl rfl rfl (by simp) (by simp) hd2.cur fun y H3 _ s3 => ?_
    simp [stz_eq, putCells, cl, cs]
    exact fin ⟨a.origin, y, a.age, a.links, a.stubs⟩ l s H3 (by simp) (dq_nums (hd2.step s3) a.origin y a.age)
  · refine C_pick [-1, 60, 61] rfl rfl rfl (by simp) (by simp) hd2.cur fun y H3 _ s3 => ?_
    simp [stz_eq, putCells, cl, cs]
    exact fin ⟨a.origin, a.seq, y, a.links, a.stubs⟩ l s H3 (by simp) (dq_nums (hd2.step s3) a.origin a.seq y)
  · refine C_s_l01Below hd2.cur fun x H3 _ _ _ s3 => ?_
    have hd3 := hd2.step s3
    refine C_pick [1, 0, 1000, 1001] rfl rfl rfl (by simp) (by simp) hd3.cur fun y H4 _ s4 => ?_
    have hd4 := hd3.step s4
    have hb1 : bsl 2 1 [V.int .i64 0, .int .i64 0] [(0, .agg [.int .i64 x, .int .i64 y])] = some [enLink (x, y)] := rfl
    simp [fillZ, putCells, hb1]
    intro o5 ho5
    refine dq_links (x := (x, y)) hd4 (sub_fresh ho5) (by omega) fun l' H' hd' cl' => ?_
    simp [stz_eq, putCells, cl', cs]
    exact fin { a with links := a.links ++ [(x, y)] } l' s H' (by simp) hd'
  · refine C_w_l01DrawPrefix hd2.cur fun net len H3 s3 => ?_
    have hd3 := hd2.step s3
    refine C_pick [1, 0, 1000, 1001] rfl rfl rfl (by simp) (by simp) hd3.cur fun y H4 _ s4 => ?_
    have hd4 := hd3.step s4
    have hb1 : bsl 3 1 [V.int .i64 0, .int .i64 0, .int .i64 0] [(0, .agg [.int .i64 net, .int .i64 len, .int .i64 y])] = some [enStub (net, len, y)] := rfl
    simp [fillZ, putCells, hb1]
    intro o5 ho5
    refine dq_stubs (x := (net, len, y)) hd4 (sub_fresh ho5) (by omega) fun s' H' hd' cs' => ?_
    simp [stz_eq, putCells, cl, cs']
    exact fin { a with stubs := a.stubs ++ [(net, len, y)] } l s' H' (by simp) hd'
  · refine ⟨InvBd5 H o a, ⟨7, Shr.of ⟨0, a, l, s, by omega, rfl, rfl, by omega, by omega, hd2⟩⟩, ?_⟩
    rintro m ys Hc ⟨i, a', l', s', hi, rfl, rfl, k1, k2, hd'⟩
    have cl' : cellsOf l' = [l'] ∧ cellOk l' = true ∧ notAny l' = true := by
      obtain ⟨l3, s3, e, c3, _⟩ := dq_cell hd'
      simp only [lsaRow, List.cons.injEq, and_true, true_and] at e
      rw [e.1]; exact c3
    have cs' : cellsOf s' = [s'] ∧ cellOk s' = true ∧ notAny s' = true := by
      obtain ⟨l3, s3, e, _, c3⟩ := dq_cell hd'
      simp only [lsaRow, List.cons.injEq, and_true, true_and] at e
      rw [e.2]; exact c3
    simp
    rw [i64_in (n := (i : Int) + 1) (by omega) (by omega)]
    refine ⟨fun hlt => ?_, fun hge => ?_⟩
    · generalize IntKind.i64.wrap (64000 + IntKind.i64.wrap (16 * (i : Int))) = net
      generalize IntKind.i64.wrap (12 + (i : Int).tmod 2) = len
      have hb1 : bsl 3 1 [V.int .i64 0, .int .i64 0, .int .i64 0] [(0, .agg [.int .i64 net, .int .i64 len, .int .i64 1])] = some [enStub (net, len, 1)] := rfl
      simp [fillZ, putCells, hb1]
      intro o5 ho5
      refine dq_stubs (x := (net, len, 1)) hd' (sub_fresh ho5) (by omega) fun s2 H' hd2' cs2 => ?_
      simp [stz_eq, putCells, cl', cs2]
      exact ⟨7 - (i + 1), by omega, Shr.of ⟨i + 1, _, l', s2, by omega, by simp, rfl, by simpa using k1, by simp; omega, hd2'⟩⟩
    · simp [stz_eq, putCells, cl', cs']
      exact fin a' l' s' Hc (by omega) hd'

end Go.Proofs.YtohicpepcjgnaaaGreat
/-
Contracts of the draws of nets.
-/
namespace Go.Proofs.YtohicpepcjgnaaaGreat
open Go Go.Abs Go.Proofs

theorem Cap.sz {i D : Nat} {a : TNet} (h : Cap i D a) : bNet a := small_sz (small_of h.fl.ok)
theorem dq_net {a : TNet} {r : List V} {Hs H : Heap} {o : Nat} (h : Dq (netT false) Hs o a r H) : ∃ e d w, r = netRow a e d w ∧ okV e ∧ okV d ∧ okV w ∧ lenOf w = some a.wires.length := by
  obtain ⟨e, d, w, rfl, g1, g2, g3⟩ := h.rq.rd
  have hc := net_cell g1 g2 g3
  exact ⟨e, d, w, rfl, hc.1, hc.2.1, hc.2.2, rdS_len g3⟩
def InvDn (H : Heap) (o : Nat) (m : Nat) (ys : List V) (Hc : Heap) : Prop :=
  ∃ (i D : Nat) (a : TNet) (r : List V), i ≤ 29 ∧ ys = [.box [.int .i64 0, .nils, .nils, .nils, .int .i64 0], .box r, .int .i64 (i : Nat)] ∧ m = 29 - i ∧ Cap i D a ∧ Dq (netT false) H o a r Hc
set_option maxHeartbeats 4000000 in
theorem C_w_l08DrawNet {o : Nat} {n k : Int} {H : Heap} {K : V → Heap → Prop} (hc : IsCur H o) (hn : 1 ≤ n ∧ n ≤ 5) (hk : k ≤ 29)
    (h : ∀ i D a r Hd, i ≤ 29 → Cap i D a → Dq (netT false) H o a r Hd → K (.agg r) Hd) : ACalls P n_s_l08DrawNet [.ptr o 0 0, .int .i64 n, .int .i64 k] H K := by
  apply W_s_l08DrawNet
  unfold F_s_l08DrawNet
  refine C_s_NewNet (c := false) fun us H1 hd1 => ?_
  have cap0 := cap_new hn
  have hd0 := Dq.of (St.grow hc (Abs.sub_refl _)) hd1
  generalize (newR n).1 = a0 at *
  obtain ⟨e0, d0, w0, rfl, c1, c2, c3, _⟩ := dq_net hd0
  simp [stz_eq, putCells, c1.1, c2.1, c3.1, c1.2, c2.2, c3.2]
  refine ⟨InvDn H o, ⟨29, Shr.of ⟨0, 0, a0, _, by omega, rfl, by omega, cap0, hd0⟩⟩, ?_⟩
  rintro m ys Hc ⟨i, D, a, r, hi, rfl, rfl, cap, hd⟩
  obtain ⟨e, d, w, rfl, c1, c2, c3, nw⟩ := dq_net hd
  have fin : Ret K (.agg (netRow a e d w)) Hc := Ret.of (h i D a _ Hc hi cap hd)
  simp [stz_eq, putCells, c1.1, c2.1, c3.1, c1.2, c2.2, c3.2]
  rw [i64_in (n := (i : Int) + 1) (by omega) (by omega)]
  refine ⟨fun hlt => ⟨fun h1 => ?_, fun _ => fin⟩, fun _ => fin⟩
  have hi29 : i < 29 := by omega
  have next : ∀ (E : Nat) (a' : TNet) (r' : List V) (H' : Heap), Cap (i + 1) E a' → Dq (netT false) H o a' r' H' → ∃ n9, n9 < 29 - i ∧ Shr (InvDn H o n9 [.box [.int .i64 0, .nils, .nils, .nils, .int .i64 0], .box r', .int .i64 ((i : Int) + 1)]) H' := fun E a' r' H' q1 q2 =>
    ⟨29 - (i + 1), by omega, Shr.of ⟨i + 1, E, a', r', by omega, by simp, rfl, q1, q2⟩⟩
  have same : ∀ H', Dq (netT false) H o a (netRow a e d w) H' → ∃ n9, n9 < 29 - i ∧ Shr (InvDn H o n9 [.box [.int .i64 0, .nils, .nils, .nils, .int .i64 0], .box (netRow a e d w), .int .i64 ((i : Int) + 1)]) H' := fun H' q => next D a _ H' (cap.stay hi29) q
  refine C_s_l01Below hd.cur fun v H2 _ _ _ s2 => ?_
  have hd2 := hd.step s2
  simp
  refine ⟨fun ys Hx => (∃ q : Bool, ys = [.bool q]) ∧ Hx = H2, ⟨fun _ => Shr.of ⟨⟨_, rfl⟩, rfl⟩, fun _ => Shr.of ⟨⟨_, rfl⟩, rfl⟩⟩, ?_⟩
  rintro ys Hx ⟨⟨q, rfl⟩, rfl⟩
  simp
  refine ⟨fun _ => ?_, fun _ => ?_⟩
  · refine C_s_l01Below hd2.cur fun x H3 _ _ _ s3 => ?_
    have hd3 := hd2.step s3
    refine ⟨noHeap, noHeap_sub _, ?_⟩
    simp
    refine C_s_l01Below hd3.cur fun y H4 _ _ _ s4 => ⟨noHeap_sub _, ?_⟩
    have hd4 := hd3.step s4
    simp [show n ≠ 0 by omega]
    have pick := fun K' h' => C_pick (o := o) (H := H4) (n := 5) (m := 5) (z := [.int .i64 0]) (ps := [(0, .int .i64 1), (1, .int .i64 1), (2, .int .i64 2), (3, .int .i64 3), (4, .int .i64 0)]) (K := K') [1, 1, 2, 3, 0] rfl rfl rfl (by simp) (by simp) hd4.cur h'
    have eb : bsl 1 5 [V.int .i64 0] [(0, .int .i64 1), (1, .int .i64 1), (2, .int .i64 2), (3, .int .i64 3), (4, .int .i64 0)] = some (([1, 1, 2, 3, 0] : List Int).map ri) := rfl
    simp only [eb, bnd_some] at pick ⊢
    intro o4 ho4
    refine ⟨noHeap_sub _, pick _ (fun z H5 _ s5 => ?_) o4 ho4⟩
    have hd5 := hd4.step s5
    refine ⟨noHeap_sub _, ?_⟩
    refine C_s_SetLink (c := false) hd5.rq.rd cap.sz fun us H6 hd6 => ⟨noHeap_sub _, ?_⟩
    have hd7 := Dq.of hd5.st hd6
    obtain ⟨e', d', w', rfl, k1, k2, k3, _⟩ := dq_net hd7
    simp [stz_eq, putCells, k1.1, k2.1, k3.1, k1.2, k2.2, k3.2]
    exact next D _ _ H6 (cap_setR cap hi29) hd7
  · refine ⟨fun ys Hy => (∃ q : Bool, ys = [.bool q]) ∧ Hy = Hx, ⟨fun _ => Shr.of ⟨⟨_, rfl⟩, rfl⟩, fun _ => ⟨fun _ => Shr.of ⟨⟨_, rfl⟩, rfl⟩, fun _ => ⟨fun _ => Shr.of ⟨⟨_, rfl⟩, rfl⟩, fun _ => Shr.of ⟨⟨_, rfl⟩, rfl⟩⟩⟩⟩, ?_⟩
    rintro ys Hy ⟨⟨q, rfl⟩, rfl⟩
    simp [nw]
    refine ⟨fun _ => ⟨fun hp => ?_, fun _ => same _ hd2⟩, fun _ => ⟨fun _ => ⟨fun hp => ?_, fun _ => same _ hd2⟩, fun _ => ⟨fun _ => ?_, fun _ => same _ hd2⟩⟩⟩
    · refine ⟨noHeap, noHeap_sub _, ?_⟩
      refine C_s_l01Below hd2.cur fun y H4 _ _ _ s4 => ⟨noHeap_sub _, ?_⟩
      have hd4 := hd2.step s4
      refine C_s_Deliver (c := false) hd4.rq.rd cap.sz fun us H6 hd6 => ⟨noHeap_sub _, ?_⟩
      have hd7 := Dq.of hd4.st hd6
      obtain ⟨e', d', w', rfl, k1, k2, k3, _⟩ := dq_net hd7
      simp [stz_eq, putCells, k1.1, k2.1, k3.1, k1.2, k2.2, k3.2]
      obtain ⟨E, cE⟩ := cap_delR (k := y) cap hi29
      exact next E _ _ H6 cE hd7
    · refine C_s_l01Once hd2.cur fun q H3 s3 => ?_
      have hd3 := hd2.step s3
      simp
      refine ⟨fun _ => ?_, fun _ => same _ hd3⟩
      refine ⟨noHeap, noHeap_sub _, ?_⟩
      refine C_s_l01Below hd3.cur fun y H4 _ _ _ s4 => ⟨noHeap_sub _, ?_⟩
      have hd4 := hd3.step s4
      refine C_s_Lose (c := false) hd4.rq.rd cap.sz fun us H6 hd6 => ⟨noHeap_sub _, ?_⟩
      have hd7 := Dq.of hd4.st hd6
      obtain ⟨e', d', w', rfl, k1, k2, k3, _⟩ := dq_net hd7
      simp [stz_eq, putCells, k1.1, k2.1, k3.1, k1.2, k2.2, k3.2]
      exact next D _ _ H6 (cap_loseR cap hi29) hd7
    · refine ⟨noHeap, noHeap_sub _, ?_⟩
      refine C_s_l01Below hd2.cur fun y H4 _ _ _ s4 => ⟨noHeap_sub _, ?_⟩
      have hd4 := hd2.step s4
      refine C_s_Announce (c := false) hd4.rq.rd cap.sz fun us H6 hd6 => ⟨noHeap_sub _, ?_⟩
      have hd7 := Dq.of hd4.st hd6
      obtain ⟨e', d', w', rfl, k1, k2, k3, _⟩ := dq_net hd7
      simp [stz_eq, putCells, k1.1, k2.1, k3.1, k1.2, k2.2, k3.2]
      exact next D _ _ H6 (cap_annR cap hi29) hd7
theorem C_w_l08DrawPlace {o : Nat} {b : Bool} {a : TNet} {r : List V} {H : Heap} {K : V → Heap → Prop} (hc : IsCur H o) (hv : (netT b).rd H a r) (h : ∀ k Hd, St H o Hd → K (.int .i64 k) Hd) : ACalls P n_s_l08DrawPlace [.ptr o 0 0, .agg r] H K := by
  obtain ⟨e, d, w, rfl, g1, g2, g3⟩ := hv
  have cc := net_cell g1 g2 g3
  have nw := rdS_len g3
  apply W_s_l08DrawPlace
  unfold F_s_l08DrawPlace
  simp [cc.1.1, cc.2.1.1, cc.2.2.1, cc.1.2, cc.2.1.2, cc.2.2.2, nw]
  refine ⟨fun _ => ?_, fun _ => ?_⟩
  · refine C_s_l01Once hc fun q H1 s1 => ?_
    simp
    refine ⟨fun _ => ?_, fun _ => ?_⟩
    · refine C_s_l01Below s1.1 fun x H2 _ _ _ s2 => Ret.of (h x H2 (s1.trans s2))
    · exact C_pick [-1, 0, (a.wires.length : Int)] rfl rfl rfl (by simp) (by simp) s1.1 fun x H2 _ s2 => Ret.of (h x H2 (s1.trans s2))
  · exact C_pick [-1, 0, (a.wires.length : Int)] rfl rfl rfl (by simp) (by simp) hc fun x H2 _ s2 => Ret.of (h x H2 s2)

end Go.Proofs.YtohicpepcjgnaaaGreat
/-
Contracts of the draws of nets: a net is bent.
-/
namespace Go.Proofs.YtohicpepcjgnaaaGreat
open Go Go.Abs Go.Proofs

section
variable {α : Type} {T : Ty α} {b : Bool}
/-- A part of an element is written over. -/
theorem dpS_setf {H0 H H1 Hb : Heap} {xs : List α} {w : V} {a : α} {r : List V} {k : IntKind} {i : Int} {m off : Nat} {K : V → Prop} (h : Dp (sliceT b T) H0 xs [w] H) (ha : Dp T H a r H1) (hs : Abs.sub H1 Hb) (h0 : 0 ≤ i) (hi : i.toNat < xs.length)
    (hk : ∀ p, (∀ (v : V) (K' : Heap → Prop), (∀ row es, row.length = T.n → T.own xs[i.toNat] row es → stz m row off v = some r) → (∀ H' H'', Dp (sliceT b T) H0 (xs.set i.toNat a) [w] H'' → Abs.sub H'' H' → K' H') → bnd (aField off p) fun q => bnd (aSt m Hb q v) K') → K p) : bnd (aIndex Hb T.n w (.int k i)) K := by
  obtain ⟨rows, A, e, B, hl, hw, o1, ⟨r0, o2, o3⟩, o4, hc⟩ := dpS_open h hi
  obtain ⟨fs, g1, g2⟩ := ha
  have hc2 : Chain H0 (A ++ e ++ (B ++ [⟨T.n, rows, w⟩] ++ fs)) H1 := by
    have := Chain.append.2 ⟨H, hc, g2⟩
    simpa using this
  obtain ⟨H', d1, d2⟩ := chain_drop hc2
  have d3 : Chain H0 ((A ++ B) ++ ⟨T.n, rows, w⟩ :: fs) H' := by simpa using d1
  obtain ⟨Hm, c1, c2⟩ := d3.top
  have c2 : Held Hm T.n rows w H' := c2
  refine c2.pt (sub_trans d2 hs) h0 (by omega) fun p hp => hk p fun v K' hv hK => hp.fld fun q hq => ?_
  have hr : r.length = T.n := T.len (T.ofOwn (H := H1) g1 fun e he => g2.rb he (T.ok g1 e he))
  have hir : i.toNat < rows.length := by omega
  have e0 : rows.getD i.toNat [] = r0 := by rw [List.getD_eq_getElem?_getD, o2]; rfl
  have hr0 : r0 ∈ rows := List.mem_of_getElem? o2
  refine hq.st (row' := r) (by rw [e0, Nat.zero_add]; exact hv r0 e (hw _ hr0) o3) fun H' H'' q1 q2 => ?_
  refine hK H' H'' ⟨_, ⟨w, rows.set i.toNat r, A ++ fs ++ B, rfl, ?_, OwnL.put hi hl.symm o1 g1 o4, rfl⟩, ?_⟩ q2
  · intro x hx
    rcases List.mem_or_eq_of_mem_set hx with hx | rfl
    · exact hw _ hx
    · exact hr
  · have := c1.push q1
    refine this.perm ?_
    refine List.Perm.append_right _ ?_
    rw [List.append_assoc, List.append_assoc]
    exact List.Perm.append_left _ List.perm_append_comm
end
theorem sumF_app {α : Type} (f : α → Nat) (xs ys : List α) : sumF f (xs ++ ys) = sumF f xs + sumF f ys := by unfold sumF; simp
theorem sumF_set_le {α : Type} {f : α → Nat} {x : α} : ∀ {xs : List α} {i : Nat}, sumF f (xs.set i x) ≤ sumF f xs + f x
  | [], i => by simp [sumF]
  | y :: xs, 0 => by simp [sumF]; omega
  | y :: xs, i + 1 => by
    have ih := sumF_set_le (f := f) (x := x) (xs := xs) (i := i)
    unfold sumF at ih ⊢
    simp only [List.set_cons_succ, List.map_cons, List.sum_cons]
    omega
theorem small_tin {a : TNet} (h : Small a) : szn a ≤ 10000 := by
  have h1 := sumF_bound (small_szd h)
  have h2 := sumF_bound (f := szw) h.w
  have := h.es
  have := h.n
  have := h.ws
  unfold szn
  omega
theorem net_dp' {a : TNet} {e d w : V} {H0 H3 : Heap} (h : Dp (netT false) H0 a (netRow a e d w) H3) : ∃ H1 H2, Held H0 3 (a.up.es.map enEdge) e H1 ∧ Dp (dbsT false) H1 a.dbs [d] H2 ∧ Dp (wiresT false) H2 a.wires [w] H3 := by
  obtain ⟨e', d', w', H1, H2, q, k1, k2, k3⟩ := net_dp h
  simp only [netRow, List.cons.injEq, and_true, true_and] at q
  obtain ⟨rfl, rfl, rfl⟩ := q
  exact ⟨H1, H2, k1, k2, k3⟩
theorem dq_num {a : TNet} {e d w : V} {Hs H : Heap} {o : Nat} (h : Dq (netT false) Hs o a (netRow a e d w) H) (n' lost' : Int) : Dq (netT false) Hs o ⟨⟨n', a.up.es⟩, a.dbs, a.wires, lost'⟩ (netRow ⟨⟨n', a.up.es⟩, a.dbs, a.wires, lost'⟩ e d w) H := by
  obtain ⟨Hb, h1, h2⟩ := h
  obtain ⟨H1, H2, k1, k2, k3⟩ := net_dp' h2
  exact ⟨Hb, h1, Dp.net (a := ⟨⟨n', a.up.es⟩, a.dbs, a.wires, lost'⟩) k1 k2 k3⟩
set_option maxHeartbeats 4000000 in
theorem C_w_l08Bend {o : Nat} {a : TNet} {r : List V} {Hs H : Heap} {K : V → Heap → Prop} (hd : Dq (netT false) Hs o a r H) (hsm : Small a) (hw : a.wires.length ≤ 394)
    (h : ∀ a' r' Hd, a'.wires.length ≤ 395 → bNet a' → Dq (netT false) Hs o a' r' Hd → K (.agg r') Hd) : ACalls P n_s_l08Bend [.ptr o 0 0, .agg r] H K := by
  have tin := small_tin hsm
  have e0 := hsm.es
  have s0 := hsm.n
  obtain ⟨e, d, w, rfl, c1, c2, c3, nw⟩ := dq_net hd
  apply W_s_l08Bend
  unfold F_s_l08Bend
  simp [c1.1, c2.1, c3.1, c1.2, c2.2, c3.2]
  refine C_s_l01Below hd.cur fun v H2 _ _ _ s2 => ?_
  have hd2 := hd.step s2
  have keep : Ret K (.agg (netRow a e d w)) H2 := Ret.of (h a _ H2 (by omega) (by unfold bNet; omega) hd2)
  simp [stz_eq, putCells, c1.1, c2.1, c3.1, c1.2, c2.2, c3.2, nw]
  refine ⟨fun _ => ?_, fun _ => ⟨fun _ => ?_, fun _ => ⟨fun _ => ?_, fun _ => ⟨fun _ => ?_, fun _ => ⟨fun _ => ?_, fun _ => ⟨fun _ => ?_, fun _ => ?_⟩⟩⟩⟩⟩⟩
  · refine C_pick [-1, 1000000, 1000001] rfl rfl rfl (by simp) (by simp) hd2.cur fun x H3 _ s3 => ?_
    have hd3 := dq_num (hd2.step s3) a.up.n x
    simp [stz_eq, putCells, c1.1, c2.1, c3.1, c1.2, c2.2, c3.2]
    exact Ret.of (h _ _ H3 (by simpa using (by omega : a.wires.length ≤ 395)) (by unfold bNet szn at *; simp only; omega) hd3)
  · intro o7 ho7
    have er : (List.replicate 1 [V.nils]).set 0 (cellsOf (V.agg [V.nils])) = [[V.nils]] := rfl
    simp only [er]
    simp
    obtain ⟨Hb, h1, h2⟩ := hd2
    obtain ⟨H3, H4, k1, k2, k3⟩ := net_dp' h2
    obtain ⟨Hm, q1, q2⟩ := k2.swap k3
    refine dpS_app (T := dbT false) q2 (dpS_nil (T := lsaT false) (b := false)) (sub_fresh ho7) (by omega) fun v' H' H'' ho' hs' => ?_
    have cv := dpS_cell ho'
    simp [stz_eq, putCells, c1.1, c2.1, c3.1, c1.2, c2.2, c3.2, cv]
    obtain ⟨Hm', p1, p2⟩ := q1.swap ho'
    have hz : szd [] = 0 := rfl
    refine Ret.shr (h ⟨a.up, a.dbs ++ [[]], a.wires, a.lost⟩ (netRow a e v' w) H'' (by simpa using (by omega : a.wires.length ≤ 395)) ?_ ⟨Hb, h1, Dp.net (a := ⟨a.up, a.dbs ++ [[]], a.wires, a.lost⟩) k1 p1 p2⟩) rfl hs'
    unfold bNet szn at *
    have e1 : sumF szd [([] : List TLsa)] = 0 := rfl
    simp only [sumF_app, List.length_append, List.length_singleton, e1]
    omega
  · refine C_pick [0, 7, IntKind.i64.wrap (a.up.n + 1)] rfl rfl rfl (by simp) (by simp) hd2.cur fun x H3 _ s3 => ?_
    have hd3 := dq_num (hd2.step s3) x a.lost
    simp [stz_eq, putCells, c1.1, c2.1, c3.1, c1.2, c2.2, c3.2]
    exact Ret.of (h _ _ H3 (by simpa using (by omega : a.wires.length ≤ 395)) (by unfold bNet szn at *; simp only; omega) hd3)
  · have hrd := hd2.rq.rd
    obtain ⟨e', d', w', q, g1, g2, g3⟩ := hrd
    simp only [netRow, List.cons.injEq, and_true, true_and] at q
    obtain ⟨rfl, rfl, rfl⟩ := q
    have ne := g1.1.len
    simp [ne]
    refine ⟨fun hp => ?_, fun _ => keep⟩
    have hgd : (a.up.es.map enEdge).getD 0 [] = enEdge a.up.es[0] := by simp [hp]
    refine g1.1.idx (by omega) (by simpa using hp) fun p hp1 => hp1.fld fun p2 hp2 => ?_
    rw [show ((0 : Int).toNat) = 0 from rfl, hgd] at hp2
    rw [hp2.ld]
    simp
    obtain ⟨Hb, h1, h2⟩ := hd2
    obtain ⟨H3, H4, k1, k2, k3⟩ := net_dp' h2
    obtain ⟨Hm1, q1, q2⟩ := Dp.heldOver k1 k2
    obtain ⟨Hm2, q3, q4⟩ := Dp.heldOver q2 k3
    refine q4.pt (Abs.sub_refl _) (by omega) (by simpa using hp) fun p hp1 => hp1.fld fun p2 hp2 => ?_
    refine hp2.st (row' := enEdge (a.up.es[0].1, a.up.es[0].2.1, IntKind.i64.wrap (a.up.es[0].2.2 + 1))) ?_ fun H' H'' t1 t2 => ?_
    · rw [show ((0 : Int).toNat) = 0 from rfl, hgd]
      simp [stz, putCells]
    obtain ⟨Hn1, t3, t4⟩ := Dp.heldUnder q3 t1
    obtain ⟨Hn2, t5, t6⟩ := Dp.heldUnder q1 t3
    rw [show ((0 : Int).toNat) = 0 from rfl] at t5
    try simp [stz_eq, putCells, c1.1, c2.1, c3.1, c1.2, c2.2, c3.2]
    refine Ret.shr (h ⟨⟨a.up.n, a.up.es.set 0 (a.up.es[0].1, a.up.es[0].2.1, IntKind.i64.wrap (a.up.es[0].2.2 + 1))⟩, a.dbs, a.wires, a.lost⟩ (netRow a e d w) H'' (by simpa using (by omega : a.wires.length ≤ 395)) ?_ ⟨Hb, h1, Dp.net (a := ⟨⟨a.up.n, a.up.es.set 0 (a.up.es[0].1, a.up.es[0].2.1, IntKind.i64.wrap (a.up.es[0].2.2 + 1))⟩, a.dbs, a.wires, a.lost⟩) (by simpa using t5) t6 t4⟩) rfl t2
    unfold bNet szn at *
    simp only [List.length_set]
    omega
  · refine C_s_l01Below hd2.cur fun x H3 _ _ _ s3 => ?_
    refine C_s_l01Below s3.1 fun y H4 _ _ _ s4 => ?_
    have hd4 := (hd2.step s3).step s4
    refine C_w_l05DrawLsa s4.1 (by omega) fun l us H5 _ hl5 hd5 => ?_
    obtain ⟨lv, sv, rfl, cl, cs⟩ := dq_cell hd5
    obtain ⟨Hb, g1, g2⟩ := hd5
    obtain ⟨Hb2, h1, h2⟩ := hd4.step g1
    obtain ⟨H6, H7, k1, k2, k3⟩ := net_dp' h2
    have hm := Dp.msg (x := x) (y := y) g2
    simp [bsl_one, fillZ, putCells, cl, cs]
    intro o7 ho7
    refine dpS_app (T := msgT false) k3 hm (sub_fresh ho7) (by omega) fun v' H' H'' ho' hs' => ?_
    have cv := dpS_cell ho'
    simp [stz_eq, putCells, c1.1, c2.1, c3.1, c1.2, c2.2, c3.2, cv]
    refine Ret.shr (h ⟨a.up, a.dbs, a.wires ++ [(x, y, l)], a.lost⟩ (netRow a e d v') H'' (by simp; omega) ?_ ⟨Hb2, h1, Dp.net (a := ⟨a.up, a.dbs, a.wires ++ [(x, y, l)], a.lost⟩) k1 k2 ho'⟩) rfl hs'
    unfold bNet szn at *
    have e1 : sumF szw [((x, y, l) : TMsg)] = l.links.length + l.stubs.length := by simp [sumF, szw, szl]
    simp only [sumF_app, List.length_append, List.length_singleton, e1]
    omega
  · refine ⟨fun hp => ?_, fun _ => keep⟩
    have hrd := hd2.rq.rd
    obtain ⟨e', d', w', q, g1, g2, g3⟩ := hrd
    simp only [netRow, List.cons.injEq, and_true, true_and] at q
    obtain ⟨rfl, rfl, rfl⟩ := q
    refine rdS_idx g3 (by omega) (by simpa using hp) fun p row hp1 hrw => hp1.fld fun p2 hp2 => ?_
    have hrw : (msgT false).rd H2 a.wires[0] row := hrw
    obtain ⟨rl, rfl, hl⟩ := hrw
    have hl' := hl
    obtain ⟨l1, l2, rfl, _, _⟩ := hl'
    rw [hp2.ld]
    simp
    have hszl := hsm.w _ (List.getElem_mem hp)
    have hszl : a.wires[0].2.2.links.length + a.wires[0].2.2.stubs.length ≤ 16 := hszl
    refine C_w_l05Bend hd2.cur hl (by omega) fun l us H3 hl3 hd3 => ?_
    obtain ⟨lv, sv, rfl, cl, cs⟩ := dq_cell hd3
    obtain ⟨Hb, t1, t2⟩ := hd3
    obtain ⟨Hb2, h1, h2⟩ := hd2.step t1
    obtain ⟨H6, H7, k1, k2, k3⟩ := net_dp' h2
    have hm := Dp.msg (x := a.wires[0].1) (y := a.wires[0].2.1) t2
    refine dpS_setf (T := msgT false) (m := 5) (off := 2) k3 hm (Abs.sub_refl _) (by omega) (by simpa using hp) fun p hst => ?_
    refine hst _ _ (fun row es hrow ho => ?_) fun H' H'' hd' hs' => ?_
    · obtain ⟨r5, rfl, _, _, rfl, _⟩ := ho
      simp [stz, putCells, cl, cs]
    rw [show ((0 : Int).toNat) = 0 from rfl] at hd'
    try simp [stz_eq, putCells, c1.1, c2.1, c3.1, c1.2, c2.2, c3.2]
    refine Ret.shr (h ⟨a.up, a.dbs, a.wires.set 0 (a.wires[0].1, a.wires[0].2.1, l), a.lost⟩ (netRow a e d w) H'' (by simp; omega) ?_ ⟨Hb2, h1, Dp.net (a := ⟨a.up, a.dbs, a.wires.set 0 (a.wires[0].1, a.wires[0].2.1, l), a.lost⟩) k1 k2 hd'⟩) rfl hs'
    unfold bNet szn at *
    have e1 : szw ((a.wires[0].1, a.wires[0].2.1, l) : TMsg) = l.links.length + l.stubs.length := by simp [szw, szl]
    have e2 := sumF_set_le (f := szw) (x := ((a.wires[0].1, a.wires[0].2.1, l) : TMsg)) (xs := a.wires) (i := 0)
    simp only [List.length_set]
    omega
  · exact keep

end Go.Proofs.YtohicpepcjgnaaaGreat
