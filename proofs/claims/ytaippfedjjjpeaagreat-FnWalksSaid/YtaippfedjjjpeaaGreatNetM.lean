/-
Nets: marks.
-/
import Derived.Test.YtaippfedjjjpeaaGreatNets
set_option linter.all false
namespace Go.Proofs.YtaippfedjjjpeaaGreat
open Go Go.Abs Go.Proofs

section
variable {α : Type}
def mkG (mk : Int → α → α) (sz : α → Nat) : Int → List α → List α
  | _, [] => []
  | k, a :: xs => mk k a :: mkG mk sz (k + sz a) xs
variable {mk : Int → α → α} {sz : α → Nat}
@[simp] theorem mkG_len : ∀ (k : Int) (xs : List α), (mkG mk sz k xs).length = xs.length
  | _, [] => rfl
  | k, a :: xs => by simp [mkG, mkG_len _ xs]
theorem mkG_get : ∀ {xs : List α} {k : Int} {i : Nat} (h : i < xs.length), (mkG mk sz k xs)[i]? = some (mk (k + sumF sz (xs.take i)) xs[i])
  | a :: xs, k, 0, _ => by simp [mkG, sumF]
  | a :: xs, k, i + 1, h => by
    have := mkG_get (xs := xs) (k := k + sz a) (i := i) (by simpa using h)
    simp only [mkG, List.getElem?_cons_succ, this, List.getElem_cons_succ, List.take_succ_cons]
    congr 2
    simp [sumF]
    omega
def curG (mk : Int → α → α) (sz : α → Nat) (k : Int) (xs : List α) (i : Nat) : List α := (mkG mk sz k xs).take i ++ xs.drop i
theorem curG_len {k : Int} {xs : List α} {i : Nat} (h : i ≤ xs.length) : (curG mk sz k xs i).length = xs.length := by simp [curG]; omega
theorem curG_get {k : Int} {xs : List α} {i : Nat} (h : i < xs.length) : (curG mk sz k xs i)[i]? = some xs[i] := by
  unfold curG
  rw [over_get (by simp) (by simpa using h)]
  simp [h]
theorem curG_set {k : Int} {xs : List α} {i : Nat} (h : i < xs.length) : (curG mk sz k xs i).set i (mk (k + sumF sz (xs.take i)) xs[i]) = curG mk sz k xs (i + 1) := over_set (by simp) (mkG_get h)
theorem curG_done {k : Int} {xs : List α} : curG mk sz k xs xs.length = mkG mk sz k xs := by
  unfold curG
  rw [List.take_of_length_le (by simp), List.drop_eq_nil_of_le (by simp)]
  simp
end

def szD (xs : List TLsa) : Nat := sumF szA xs
abbrev mkDS : Int → List (List TLsa) → List (List TLsa) := mkG mkAS szD
def mkW (k : Int) (m : TMsg) : TMsg := (k, k + 1, mkA (k + 1 + 1) m.2.2)
def szW (m : TMsg) : Nat := 2 + szA m.2.2
abbrev mkWS : Int → List TMsg → List TMsg := mkG mkW szW

def InvMD (b : Bool) (H0 : Heap) (xs : List (List TLsa)) (k : Int) (u : V) (m : Nat) (ys : List V) (Hc : Heap) : Prop :=
  ∃ (i : Nat) (Ho' : Heap), i ≤ xs.length ∧ ys = [.int .i64 (k + sumF szD (xs.take i)), .int .i64 (i : Nat)] ∧ m = xs.length - i ∧ Dp (dbsT b) H0 (curG mkAS szD k xs i) [u] Ho' ∧ Abs.sub Ho' Hc
/-! #### messages -/
abbrev msgRow (m : TMsg) (l s : V) : List V := .int .i64 m.1 :: .int .i64 m.2.1 :: lsaRow m.2.2 l s
theorem own_msg {b : Bool} {m : TMsg} {l s : V} {es : List Ent} (h : (msgT b).own m (msgRow m l s) es) : es = [⟨2, m.2.2.links.map enLink, l⟩, ⟨3, m.2.2.stubs.map enStub, s⟩] := by
  obtain ⟨r, e, h⟩ := h
  simp at e
  subst e
  exact own_lsa h
theorem msg_place {b : Bool} {xs : List TMsg} {u : V} {H0 Ho H : Heap} {i : Nat} {a : TMsg} {K : V → Prop} (h : Dp (wiresT b) H0 xs [u] Ho) (hs : Abs.sub Ho H) (ha : xs[i]? = some a)
    (hk : ∀ p l s, ElPt b (msgT b) H0 xs u H p i 0 (msgRow a l s) → K p) : bnd (aIndex H 7 u (.int .i64 (i : Nat))) K := by
  obtain ⟨hi, rfl⟩ := List.getElem?_eq_some_iff.1 ha
  refine dpS_pt h hs (by omega) (by simpa using hi) fun p r hr hp => ?_
  simp only [Int.toNat_natCast] at hr hp
  obtain ⟨_, rfl, l, s, rfl, g1, g2⟩ := hr
  exact hk p l s hp
theorem msg_st {b : Bool} {xs : List TMsg} {u : V} {H0 H : Heap} {i c : Nat} {n : Int} {a a' : TMsg} {p l s : V} {K : Heap → Prop} (hp : ElPt b (msgT b) H0 xs u H p i c (msgRow a l s)) (ha : xs[i]? = some a) (h1 : a'.2.2.links = a.2.2.links) (h2 : a'.2.2.stubs = a.2.2.stubs)
    (hz : stz 1 (msgRow a l s) c (.int .i64 n) = some (msgRow a' l s)) (hk : ∀ H' Ho', Dp (wiresT b) H0 (xs.set i a') [u] Ho' → Abs.sub Ho' H' → K H') : bnd (aSt 1 H p (.int .i64 n)) K := by
  obtain ⟨hi, rfl⟩ := List.getElem?_eq_some_iff.1 ha
  refine hp.st (r' := msgRow a' l s) (a' := a') hi hz rfl (fun es he => ?_) hk
  have := own_msg he
  subst this
  exact ⟨_, rfl, l, s, rfl, by rw [h1, h2]⟩
theorem msg_in {b : Bool} {xs : List TMsg} {u : V} {H0 Ho H : Heap} {i : Nat} {a : TMsg} {f : Nat} {K : V → Prop} (h : Dp (wiresT b) H0 xs [u] Ho) (hs : Abs.sub Ho H) (ha : xs[i]? = some a)
    (hk : ∀ l s Hm, Dp (lsaT b) Hm a.2.2 (lsaRow a.2.2 l s) Ho → (∀ a' Hx, Dp (lsaT b) Hm a' (lsaRow a.2.2 l s) Hx → Dp (wiresT b) H0 (xs.set i (a.1, a.2.1, a')) [u] Hx) → ∀ q, aLd false 1 H q = partOf false 1 (msgRow a l s) (2 + f) → K q) : bnd (aIndex H 7 u (.int .i64 (i : Nat))) fun p => bnd (aField 2 p) fun p => bnd (aField f p) K := by
  obtain ⟨hi, rfl⟩ := List.getElem?_eq_some_iff.1 ha
  obtain ⟨rows, r, Hm, g1, g2, g3, g4, g5, g6⟩ := dpS_elem h hi
  obtain ⟨r', rfl, w⟩ := msg_dp g4
  have w' := w
  obtain ⟨l, s, H1, rfl, w1, w2⟩ := lsa_dp w
  refine (g1.mono hs).idx (by omega) (by omega) fun p hp => ?_
  have hg : rows.getD (i : Int).toNat [] = msgRow xs[i] l s := by
    rw [List.getD_eq_getElem?_getD]
    simp only [Int.toNat_natCast]
    rw [g3]; rfl
  rw [hg] at hp
  refine hp.fld fun q hq => hq.fld fun q hq => hk l s Hm w' (fun a' Hx hx => g6 _ _ (Dp.msg hx)) q ?_
  rw [hq.ld]
  try simp

def InvMW (b : Bool) (H0 : Heap) (xs : List TMsg) (k : Int) (u : V) (m : Nat) (ys : List V) (Hc : Heap) : Prop :=
  ∃ (i : Nat) (Ho' : Heap), i ≤ xs.length ∧ ys = [.int .i64 (k + sumF szW (xs.take i)), .int .i64 (i : Nat)] ∧ m = xs.length - i ∧ Dp (wiresT b) H0 (curG mkW szW k xs i) [u] Ho' ∧ Abs.sub Ho' Hc
end Go.Proofs.YtaippfedjjjpeaaGreat
