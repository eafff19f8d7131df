/-
Contracts of the draws' cursor.
-/
import Derived.Test.YtohicpepcjgnaaaGreatW1
import Derived.Test.YtohicpepcjgnaaaGreatAbs3
set_option linter.all false
namespace Go.Proofs.YtohicpepcjgnaaaGreat
open Go Go.Abs Go.Proofs

theorem and_255c (a : Int) : 0 ≤ IntKind.i64.wrap ((BitVec.ofInt 64 a &&& BitVec.ofInt 64 255).toNat : Int) ∧ IntKind.i64.wrap ((BitVec.ofInt 64 a &&& BitVec.ofInt 64 255).toNat : Int) ≤ 255 := by
  have h : (BitVec.ofInt 64 a &&& BitVec.ofInt 64 255).toNat ≤ 255 := by
    rw [BitVec.toNat_and]
    exact Nat.le_trans Nat.and_le_right (by decide)
  rw [i64_in (by omega) (by omega)]
  omega

def Bs (bs : List (List V)) : Prop := ∀ r ∈ bs, ∃ x : Int, r = [.int .u8 x]
def curOb (b : V) (i h : Int) : Ob := ⟨3, [[b, .int .i64 i, .int .i64 h]]⟩
def IsCur (H : Heap) (o : Nat) : Prop := ∃ b i h bs, H o = some (curOb b i h) ∧ Rd (del H o) 1 b bs ∧ Bs bs ∧ bs.length ≤ 9223372036854775807 ∧ 0 ≤ i
theorem del_sub {H : Heap} {o : Nat} : Abs.sub (del H o) H := fun i x h => by
  unfold del at h; split at h
  · cases h
  · exact h
theorem del_sub_upd {H : Heap} {o : Nat} {y : Ob} : Abs.sub (del H o) (upd H o y) := fun i x h => by
  unfold del at h; unfold upd; split at h
  · cases h
  · rename_i hne; rw [if_neg hne]; exact h
theorem del_upd {H : Heap} {o : Nat} {y : Ob} : del (upd H o y) o = del H o := by
  funext i; unfold del upd; split <;> rfl
theorem del_mono {H H' : Heap} {o : Nat} (h : Abs.sub H H') : Abs.sub (del H o) (del H' o) := fun i x hh => by
  unfold del at *; split at hh
  · cases hh
  · rename_i hne; rw [if_neg hne]; exact h _ _ hh
theorem IsCur.mono {H H' : Heap} {o : Nat} (h : IsCur H o) (hs : Abs.sub H H') : IsCur H' o := by
  obtain ⟨b, i, hh, bs, h1, h2, h3, h4, h5⟩ := h
  exact ⟨b, i, hh, bs, hs _ _ h1, h2.mono (del_mono hs), h3, h4, h5⟩

/-- The cursor's next state. -/
def Nx (H : Heap) (o : Nat) (y : Ob) : Prop := ∀ G, Abs.sub G H → IsCur G o → IsCur (upd G o y) o
theorem Nx.cur {H : Heap} {o : Nat} {y : Ob} (h : Nx H o y) (hc : IsCur H o) : IsCur (upd H o y) o := h H (Abs.sub_refl _) hc
theorem Nx.mono {G H : Heap} {o : Nat} {y : Ob} (h : Nx H o y) (hs : Abs.sub G H) : Nx G o y := fun G' hs' => h G' (sub_trans hs' hs)
theorem Nx.trans {H : Heap} {o : Nat} {y y' : Ob} (h : Nx H o y) (h' : Nx (upd H o y) o y') : Nx H o y' := fun G hs hc => by
  have := h' (upd G o y) (sub_upd2 hs) (h G hs hc)
  rwa [upd_twice] at this
theorem IsCur.some {H : Heap} {o : Nat} (h : IsCur H o) : H o ≠ none := by
  obtain ⟨b, i, hh, bs, h1, _⟩ := h
  rw [h1]; simp

/-- The heap goes on from H; the cursor at o has moved. -/
def St (H : Heap) (o : Nat) (Hd : Heap) : Prop := IsCur Hd o ∧ ∃ y, Nx H o y ∧ Abs.sub (upd H o y) Hd
theorem St.of {H : Heap} {o : Nat} {y : Ob} (h : Nx H o y) (hc : IsCur H o) : St H o (upd H o y) := ⟨h.cur hc, y, h, Abs.sub_refl _⟩
theorem Nx.same {H : Heap} {o : Nat} {y : Ob} (h : H o = some y) : Nx H o y := fun G hs hG => by
  have hne := hG.some
  have : G o = some y := by
    cases e : G o with
    | none => exact absurd e hne
    | some z => rw [hs _ _ e] at h; exact h
  have e : upd G o y = G := by
    funext i; unfold upd; split
    · rename_i hi; rw [hi, this]
    · rfl
  rw [e]; exact hG
theorem upd_same {H : Heap} {o : Nat} {y : Ob} (h : H o = some y) : upd H o y = H := by
  funext i; unfold upd; split
  · rename_i hi; rw [hi, h]
  · rfl
theorem St.grow {H H' : Heap} {o : Nat} (hc : IsCur H o) (hs : Abs.sub H H') : St H o H' := by
  have hc' := hc
  obtain ⟨b, i, g, bs, h1, _⟩ := hc
  exact ⟨hc'.mono hs, _, Nx.same h1, by rw [upd_same h1]; exact hs⟩
theorem St.trans {H H' H'' : Heap} {o : Nat} (h : St H o H') (h' : St H' o H'') : St H o H'' := by
  obtain ⟨_, y, h1, h2⟩ := h
  obtain ⟨hc, y', h3, h4⟩ := h'
  refine ⟨hc, y', h1.trans (h3.mono h2), sub_trans ?_ h4⟩
  have := sub_upd2 (o := o) (x := y') h2
  rwa [upd_twice] at this
theorem St.more {H H' H'' : Heap} {o : Nat} (h : St H o H') (hs : Abs.sub H' H'') : St H o H'' := h.trans (St.grow h.1 hs)
/-- One's own slice is still there behind a move of the cursor. -/
theorem St.own {H0 Hc Hd : Heap} {o sz : Nat} {rows : List (List V)} {v : V} (h : St Hc o Hd) (ho : IsCur H0 o) (hw : Own H0 sz rows v Hc) : ∃ Hb Hd', St H0 o Hb ∧ Own Hb sz rows v Hd' ∧ Abs.sub Hd' Hd := by
  obtain ⟨hc, y, h1, h2⟩ := h
  exact ⟨upd H0 o y, upd Hc o y, St.of (h1.mono hw.sub) ho, hw.rebase y ho.some, h2⟩

theorem bytes_of {e : TypeId} {x : V} (hf : flat P 8 e = some [.int .u8]) (c : CT P 8 (.slice e) x) : ∃ bs : List (List V), x = .ro bs ∧ Bs bs ∧ (∀ r ∈ bs, r.length = 1) ∧ bs.length ≤ 9223372036854775807 := by
  obtain ⟨rows, rfl, hl, h⟩ := CT_slice hf c
  have hb : Bs rows := fun row hr => by
    obtain ⟨y, ys, rfl, k0, c⟩ := CTs_cons (h row hr)
    obtain rfl := CTs_nil c
    obtain ⟨n, rfl, _⟩ := CT_int k0
    exact ⟨n, rfl⟩
  exact ⟨rows, rfl, hb, fun r hr => by obtain ⟨x, rfl⟩ := hb r hr; rfl, by simp [maxLen] at hl; omega⟩

end Go.Proofs.YtohicpepcjgnaaaGreat
