/-
Nets: marks.
-/
import Derived.Test.YtaippfedjjjpeaaGreatNets
set_option linter.all false
namespace Go.Proofs.YtaippfedjjjpeaaGreat
open Go Go.Abs Go.Proofs

section
variable {α : Type}
def mkG (mk : Int → α → α) (sz : α → Nat) : Int → List α → List α
  | _, [] => []
  | k, a :: xs => mk k a :: mkG mk sz (k + sz a) xs
variable {mk : Int → α → α} {sz : α → Nat}
@[simp] theorem mkG_len : ∀ (k : Int) (xs : List α), (mkG mk sz k xs).length = xs.length
  | _, [] => rfl
  | k, a :: xs => by simp [mkG, mkG_len _ xs]
theorem mkG_get : ∀ {xs : List α} {k : Int} {i : Nat} (h : i < xs.length), (mkG mk sz k xs)[i]? = some (mk (k + sumF sz (xs.take i)) xs[i])
  | a :: xs, k, 0, _ => by simp [mkG, sumF]
  | a :: xs, k, i + 1, h => by
    have := mkG_get (xs := xs) (k := k + sz a) (i := i) (by simpa using h)
    simp only [mkG, List.getElem?_cons_succ, this, List.getElem_cons_succ, List.take_succ_cons]
    congr 2
    simp [sumF]
    omega
def curG (mk : Int → α → α) (sz : α → Nat) (k : Int) (xs : List α) (i : Nat) : List α := (mkG mk sz k xs).take i ++ xs.drop i
theorem curG_len {k : Int} {xs : List α} {i : Nat} (h : i ≤ xs.length) : (curG mk sz k xs i).length = xs.length := by simp [curG]; omega
theorem curG_get {k : Int} {xs : List α} {i : Nat} (h : i < xs.length) : (curG mk sz k xs i)[i]? = some xs[i] := by
  unfold curG
  rw [over_get (by simp) (by simpa using h)]
  simp [h]
theorem curG_set {k : Int} {xs : List α} {i : Nat} (h : i < xs.length) : (curG mk sz k xs i).set i (mk (k + sumF sz (xs.take i)) xs[i]) = curG mk sz k xs (i + 1) := over_set (by simp) (mkG_get h)
theorem curG_done {k : Int} {xs : List α} : curG mk sz k xs xs.length = mkG mk sz k xs := by
  unfold curG
  rw [List.take_of_length_le (by simp), List.drop_eq_nil_of_le (by simp)]
  simp
end

def szD (xs : List TLsa) : Nat := sumF szA xs
abbrev mkDS : Int → List (List TLsa) → List (List TLsa) := mkG mkAS szD
def mkW (k : Int) (m : TMsg) : TMsg := (k, k + 1, mkA (k + 1 + 1) m.2.2)
def szW (m : TMsg) : Nat := 2 + szA m.2.2
abbrev mkWS : Int → List TMsg → List TMsg := mkG mkW szW

def InvMD (b : Bool) (H0 : Heap) (xs : List (List TLsa)) (k : Int) (u : V) (m : Nat) (ys : List V) (Hc : Heap) : Prop :=
  ∃ (i : Nat) (Ho' : Heap), i ≤ xs.length ∧ ys = [.int .i64 (k + sumF szD (xs.take i)), .int .i64 (i : Nat)] ∧ m = xs.length - i ∧ Dp (dbsT b) H0 (curG mkAS szD k xs i) [u] Ho' ∧ Abs.sub Ho' Hc
theorem C_l_markDbS {b : Bool} {xs : List (List TLsa)} {u : V} {k : Int} {H0 Ho H : Heap} {K : V → Heap → Prop} (hu : Dp (dbsT b) H0 xs [u] Ho) (hs : Abs.sub Ho H) (hk : 0 ≤ k) (hkn : k + sumF szD xs ≤ 1000000000000) (hl : xs.length ≤ 1048576) (hll : ∀ d ∈ xs, d.length ≤ 1048576)
    (h : ∀ H' Ho', Dp (dbsT b) H0 (mkDS k xs) [u] Ho' → Abs.sub Ho' H' → K (.int .i64 (k + sumF szD xs)) H') : ACalls P n_l_markDbS [u, .int .i64 k] H K := by
  apply W_l_markDbS
  unfold F_l_markDbS
  refine ⟨InvMD b H0 xs k u, xs.length, Shr.of ⟨0, Ho, by omega, by simp [sumF], by omega, by simpa [curG] using hu, hs⟩, ?_⟩
  rintro m ys Hc ⟨i, Ho', hi, rfl, rfl, hc, hsub⟩
  have hlu : lenOf u = some xs.length := by rw [rdS_len hc.rd, curG_len hi]
  simp [hlu]
  refine ⟨fun hlt => ?_, fun hge => ?_⟩
  · have hsum := sumF_succ (f := szD) hlt
    have hle : sumF szD (xs.take (i + 1)) ≤ sumF szD xs := sumF_le (i + 1)
    have hz : szD xs[i] = sumF szA xs[i] := rfl
    have ha := curG_get (mk := mkAS) (sz := szD) (k := k) hlt
    have hll := hll _ (List.getElem_mem hlt)
    generalize hc0 : curG mkAS szD k xs i = C at hc ha
    obtain ⟨hCi, hCe⟩ := List.getElem?_eq_some_iff.1 ha
    have e0 : IntKind.i64.wrap ((i : Int) + 1) = (i : Int) + 1 := i64_in (by omega) (by omega)
    obtain ⟨rows, r, Hm, g1, g2, g3, g4, g5, g6⟩ := dpS_elem hc hCi
    rw [hCe] at g4
    have g4' := g4
    obtain ⟨es, ⟨x, rs, ess, rfl, _⟩, _⟩ := g4
    have cx := dpS_cell g4'
    refine (g1.mono hsub).idx (by omega) (by simp; omega) fun p hp => ?_
    have hg : rows.getD (i : Int).toNat [] = [x] := by
      rw [List.getD_eq_getElem?_getD]
      simp only [Int.toNat_natCast]
      rw [g3]; rfl
    rw [hg] at hp
    refine hp.fld fun q hq => ?_
    rw [hq.ld]
    simp [cx]
    refine C_l_markLsaS g4' hsub (by omega) (by omega) hll fun H' Ho2 h2 hs2 => ?_
    simp only [e0]
    have h3 := g6 _ _ h2
    rw [← hc0, curG_set hlt] at h3
    refine ⟨xs.length - (i + 1), by omega, Shr.of ⟨i + 1, Ho2, by omega, ?_, rfl, h3, hs2⟩⟩
    rw [hsum]
    simp
    omega
  · have : i = xs.length := by omega
    subst this
    rw [List.take_length] at *
    rw [curG_done] at hc
    exact Ret.of (h _ _ hc hsub)
/-! #### messages -/
abbrev msgRow (m : TMsg) (l s : V) : List V := .int .i64 m.1 :: .int .i64 m.2.1 :: lsaRow m.2.2 l s
theorem own_msg {b : Bool} {m : TMsg} {l s : V} {es : List Ent} (h : (msgT b).own m (msgRow m l s) es) : es = [⟨2, m.2.2.links.map enLink, l⟩, ⟨3, m.2.2.stubs.map enStub, s⟩] := by
  obtain ⟨r, e, h⟩ := h
  simp at e
  subst e
  exact own_lsa h
theorem msg_place {b : Bool} {xs : List TMsg} {u : V} {H0 Ho H : Heap} {i : Nat} {a : TMsg} {K : V → Prop} (h : Dp (wiresT b) H0 xs [u] Ho) (hs : Abs.sub Ho H) (ha : xs[i]? = some a)
    (hk : ∀ p l s, ElPt b (msgT b) H0 xs u H p i 0 (msgRow a l s) → K p) : bnd (aIndex H 7 u (.int .i64 (i : Nat))) K := by
  obtain ⟨hi, rfl⟩ := List.getElem?_eq_some_iff.1 ha
  refine dpS_pt h hs (by omega) (by simpa using hi) fun p r hr hp => ?_
  simp only [Int.toNat_natCast] at hr hp
  obtain ⟨_, rfl, l, s, rfl, g1, g2⟩ := hr
  exact hk p l s hp
theorem msg_st {b : Bool} {xs : List TMsg} {u : V} {H0 H : Heap} {i c : Nat} {n : Int} {a a' : TMsg} {p l s : V} {K : Heap → Prop} (hp : ElPt b (msgT b) H0 xs u H p i c (msgRow a l s)) (ha : xs[i]? = some a) (h1 : a'.2.2.links = a.2.2.links) (h2 : a'.2.2.stubs = a.2.2.stubs)
    (hz : stz 1 (msgRow a l s) c (.int .i64 n) = some (msgRow a' l s)) (hk : ∀ H' Ho', Dp (wiresT b) H0 (xs.set i a') [u] Ho' → Abs.sub Ho' H' → K H') : bnd (aSt 1 H p (.int .i64 n)) K := by
  obtain ⟨hi, rfl⟩ := List.getElem?_eq_some_iff.1 ha
  refine hp.st (r' := msgRow a' l s) (a' := a') hi hz rfl (fun es he => ?_) hk
  have := own_msg he
  subst this
  exact ⟨_, rfl, l, s, rfl, by rw [h1, h2]⟩
theorem msg_in {b : Bool} {xs : List TMsg} {u : V} {H0 Ho H : Heap} {i : Nat} {a : TMsg} {f : Nat} {K : V → Prop} (h : Dp (wiresT b) H0 xs [u] Ho) (hs : Abs.sub Ho H) (ha : xs[i]? = some a)
    (hk : ∀ l s Hm, Dp (lsaT b) Hm a.2.2 (lsaRow a.2.2 l s) Ho → (∀ a' Hx, Dp (lsaT b) Hm a' (lsaRow a.2.2 l s) Hx → Dp (wiresT b) H0 (xs.set i (a.1, a.2.1, a')) [u] Hx) → ∀ q, aLd false 1 H q = partOf false 1 (msgRow a l s) (2 + f) → K q) : bnd (aIndex H 7 u (.int .i64 (i : Nat))) fun p => bnd (aField 2 p) fun p => bnd (aField f p) K := by
  obtain ⟨hi, rfl⟩ := List.getElem?_eq_some_iff.1 ha
  obtain ⟨rows, r, Hm, g1, g2, g3, g4, g5, g6⟩ := dpS_elem h hi
  obtain ⟨r', rfl, w⟩ := msg_dp g4
  have w' := w
  obtain ⟨l, s, H1, rfl, w1, w2⟩ := lsa_dp w
  refine (g1.mono hs).idx (by omega) (by omega) fun p hp => ?_
  have hg : rows.getD (i : Int).toNat [] = msgRow xs[i] l s := by
    rw [List.getD_eq_getElem?_getD]
    simp only [Int.toNat_natCast]
    rw [g3]; rfl
  rw [hg] at hp
  refine hp.fld fun q hq => hq.fld fun q hq => hk l s Hm w' (fun a' Hx hx => g6 _ _ (Dp.msg hx)) q ?_
  rw [hq.ld]
  try simp

def InvMW (b : Bool) (H0 : Heap) (xs : List TMsg) (k : Int) (u : V) (m : Nat) (ys : List V) (Hc : Heap) : Prop :=
  ∃ (i : Nat) (Ho' : Heap), i ≤ xs.length ∧ ys = [.int .i64 (k + sumF szW (xs.take i)), .int .i64 (i : Nat)] ∧ m = xs.length - i ∧ Dp (wiresT b) H0 (curG mkW szW k xs i) [u] Ho' ∧ Abs.sub Ho' Hc
theorem C_l_markMsgS {b : Bool} {xs : List TMsg} {u : V} {k : Int} {H0 Ho H : Heap} {K : V → Heap → Prop} (hu : Dp (wiresT b) H0 xs [u] Ho) (hs : Abs.sub Ho H) (hk : 0 ≤ k) (hkn : k + sumF szW xs ≤ 1000000000000) (hl : xs.length ≤ 1048576)
    (h : ∀ H' Ho', Dp (wiresT b) H0 (mkWS k xs) [u] Ho' → Abs.sub Ho' H' → K (.int .i64 (k + sumF szW xs)) H') : ACalls P n_l_markMsgS [u, .int .i64 k] H K := by
  apply W_l_markMsgS
  unfold F_l_markMsgS
  refine ⟨InvMW b H0 xs k u, xs.length, Shr.of ⟨0, Ho, by omega, by simp [sumF], by omega, by simpa [curG] using hu, hs⟩, ?_⟩
  rintro m ys Hc ⟨i, Ho', hi, rfl, rfl, hc, hsub⟩
  have hlu : lenOf u = some xs.length := by rw [rdS_len hc.rd, curG_len hi]
  simp [hlu]
  refine ⟨fun hlt => ?_, fun hge => ?_⟩
  · have hsum := sumF_succ (f := szW) hlt
    have hle : sumF szW (xs.take (i + 1)) ≤ sumF szW xs := sumF_le (i + 1)
    have hz : szW xs[i] = 2 + (3 + 2 * xs[i].2.2.links.length + 3 * xs[i].2.2.stubs.length) := rfl
    have ha := curG_get (mk := mkW) (sz := szW) (k := k) hlt
    have hset := curG_set (mk := mkW) (sz := szW) (k := k) hlt
    generalize hc0 : curG mkW szW k xs i = C at hc ha hset
    have hCi : i < C.length := (List.getElem?_eq_some_iff.1 ha).1
    generalize hkk : k + (sumF szW (xs.take i) : Int) = kk at *
    have e1 : IntKind.i64.wrap (kk + 1) = kk + 1 := i64_in (by omega) (by omega)
    have e2 : IntKind.i64.wrap (kk + 1 + 1) = kk + 1 + 1 := i64_in (by omega) (by omega)
    have e3 : IntKind.i64.wrap (kk + 1 + 1 + 1) = kk + 1 + 1 + 1 := i64_in (by omega) (by omega)
    have e4 : IntKind.i64.wrap (kk + 1 + 1 + 1 + 1) = kk + 1 + 1 + 1 + 1 := i64_in (by omega) (by omega)
    have e5 : IntKind.i64.wrap (kk + 1 + 1 + 1 + 1 + 1) = kk + 1 + 1 + 1 + 1 + 1 := i64_in (by omega) (by omega)
    have e0 : IntKind.i64.wrap ((i : Int) + 1) = (i : Int) + 1 := i64_in (by omega) (by omega)
    generalize hxi : xs[i] = mm at *
    obtain ⟨m1, m2, a⟩ := mm
    try simp only at hz
    try simp only at hset
    simp only [e1, e2, e3, e4, e5, e0]
    refine msg_place hc hsub ha fun p l s hp => hp.fld fun p hp => ?_
    refine msg_st (a' := (kk, m2, a)) hp ha rfl rfl (by simp [stz_eq, putCells]) fun H1 Ho1 hc hsub => ?_
    have ha := List.getElem?_set_self (a := (kk, m2, a)) hCi
    refine msg_place hc hsub ha fun p l s hp => hp.fld fun p hp => ?_
    refine msg_st (a' := (kk, kk + 1, a)) hp ha rfl rfl (by simp [stz_eq, putCells]) fun H1 Ho1 hc hsub => ?_
    rw [List.set_set] at hc
    have ha := List.getElem?_set_self (a := (kk, kk + 1, a)) hCi
    refine msg_place hc hsub ha fun p l s hp => hp.fld fun p hp => hp.fld fun p hp => ?_
    refine msg_st (a' := (kk, kk + 1, ⟨kk + 1 + 1, a.seq, a.age, a.links, a.stubs⟩)) hp ha rfl rfl (by simp [stz_eq, putCells]) fun H1 Ho1 hc hsub => ?_
    rw [List.set_set] at hc
    have ha := List.getElem?_set_self (a := (kk, kk + 1, (⟨kk + 1 + 1, a.seq, a.age, a.links, a.stubs⟩ : TLsa))) hCi
    refine msg_place hc hsub ha fun p l s hp => hp.fld fun p hp => hp.fld fun p hp => ?_
    refine msg_st (a' := (kk, kk + 1, ⟨kk + 1 + 1, kk + 1 + 1 + 1, a.age, a.links, a.stubs⟩)) hp ha rfl rfl (by simp [stz_eq, putCells]) fun H1 Ho1 hc hsub => ?_
    rw [List.set_set] at hc
    have ha := List.getElem?_set_self (a := (kk, kk + 1, (⟨kk + 1 + 1, kk + 1 + 1 + 1, a.age, a.links, a.stubs⟩ : TLsa))) hCi
    refine msg_place hc hsub ha fun p l s hp => hp.fld fun p hp => hp.fld fun p hp => ?_
    refine msg_st (a' := (kk, kk + 1, ⟨kk + 1 + 1, kk + 1 + 1 + 1, kk + 1 + 1 + 1 + 1, a.links, a.stubs⟩)) hp ha rfl rfl (by simp [stz_eq, putCells]) fun H1 Ho1 hc hsub => ?_
    rw [List.set_set] at hc
    have ha := List.getElem?_set_self (a := (kk, kk + 1, (⟨kk + 1 + 1, kk + 1 + 1 + 1, kk + 1 + 1 + 1 + 1, a.links, a.stubs⟩ : TLsa))) hCi
    refine msg_in (f := 3) hc hsub ha fun l s Hm w1 w2 q hq => ?_
    obtain ⟨Hn, d1, d2⟩ := lsa_dp' w1
    have c1 := d1.cell
    rw [hq]
    simp [c1]
    obtain ⟨Hn2, d3, d4⟩ := d1.swap d2
    refine C_markLinkHeld d4 hsub enLink_len (by omega) (by simp; omega) fun H4 Ho4 d5 hs4 => ?_
    simp at d5 ⊢
    obtain ⟨Hn3, d6, d7⟩ := d3.swap d5
    rw [mkL_eq] at d6
    have hc := w2 ⟨kk + 1 + 1, kk + 1 + 1 + 1, kk + 1 + 1 + 1 + 1, mkL (kk + 1 + 1 + 1 + 1 + 1) a.links.length, a.stubs⟩ _ (Dp.lsa d6 d7)
    rw [List.set_set] at hc
    have ha := List.getElem?_set_self (a := (kk, kk + 1, (⟨kk + 1 + 1, kk + 1 + 1 + 1, kk + 1 + 1 + 1 + 1, mkL (kk + 1 + 1 + 1 + 1 + 1) a.links.length, a.stubs⟩ : TLsa))) hCi
    refine msg_in (f := 4) hc hs4 ha fun l s Hm w1 w2 q hq => ?_
    obtain ⟨Hk, f1, f2⟩ := lsa_dp' w1
    have c2 := f2.cell
    rw [hq]
    simp [c2]
    refine C_markStubHeld f2 hs4 enStub_len (by omega) (by simp; omega) fun H5 Ho5 f3 hs5 => ?_
    simp at f3 ⊢
    rw [mkS_eq] at f3
    have hc5 := w2 (mkA (kk + 1 + 1) a) _ (Dp.lsa f1 f3)
    rw [List.set_set] at hc5
    have hc6 : Dp (wiresT b) H0 (curG mkW szW k xs (i + 1)) [u] Ho5 := by rw [← hset]; exact hc5
    refine ⟨xs.length - (i + 1), by omega, Shr.of ⟨i + 1, Ho5, by omega, ?_, rfl, hc6, hs5⟩⟩
    rw [hsum]
    simp
    omega
  · have : i = xs.length := by omega
    subst this
    rw [List.take_length] at *
    rw [curG_done] at hc
    exact Ret.of (h _ _ hc hsub)
end Go.Proofs.YtaippfedjjjpeaaGreat
