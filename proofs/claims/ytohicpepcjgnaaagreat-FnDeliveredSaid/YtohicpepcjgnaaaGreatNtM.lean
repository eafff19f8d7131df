/-
Nets: marks.
-/
import Derived.Test.YtohicpepcjgnaaaGreatNets
import Derived.Test.YtohicpepcjgnaaaGreatNetF
import Derived.Test.YtohicpepcjgnaaaGreatAbs3
set_option linter.all false
namespace Go.Proofs.YtohicpepcjgnaaaGreat
open Go Go.Abs Go.Proofs

section
variable {α : Type}
def mkG (mk : Int → α → α) (sz : α → Nat) : Int → List α → List α
  | _, [] => []
  | k, a :: xs => mk k a :: mkG mk sz (k + sz a) xs
variable {mk : Int → α → α} {sz : α → Nat}
@[simp] theorem mkG_len : ∀ (k : Int) (xs : List α), (mkG mk sz k xs).length = xs.length
  | _, [] => rfl
  | k, a :: xs => by simp [mkG, mkG_len _ xs]
theorem mkG_get : ∀ {xs : List α} {k : Int} {i : Nat} (h : i < xs.length), (mkG mk sz k xs)[i]? = some (mk (k + sumF sz (xs.take i)) xs[i])
  | a :: xs, k, 0, _ => by simp [mkG, sumF]
  | a :: xs, k, i + 1, h => by
    have := mkG_get (xs := xs) (k := k + sz a) (i := i) (by simpa using h)
    simp only [mkG, List.getElem?_cons_succ, this, List.getElem_cons_succ, List.take_succ_cons]
    congr 2
    simp [sumF]
    omega
def curG (mk : Int → α → α) (sz : α → Nat) (k : Int) (xs : List α) (i : Nat) : List α := (mkG mk sz k xs).take i ++ xs.drop i
theorem curG_len {k : Int} {xs : List α} {i : Nat} (h : i ≤ xs.length) : (curG mk sz k xs i).length = xs.length := by simp [curG]; omega
theorem curG_get {k : Int} {xs : List α} {i : Nat} (h : i < xs.length) : (curG mk sz k xs i)[i]? = some xs[i] := by
  unfold curG
  rw [over_get (by simp) (by simpa using h)]
  simp [h]
theorem curG_set {k : Int} {xs : List α} {i : Nat} (h : i < xs.length) : (curG mk sz k xs i).set i (mk (k + sumF sz (xs.take i)) xs[i]) = curG mk sz k xs (i + 1) := over_set (by simp) (mkG_get h)
theorem curG_done {k : Int} {xs : List α} : curG mk sz k xs xs.length = mkG mk sz k xs := by
  unfold curG
  rw [List.take_of_length_le (by simp), List.drop_eq_nil_of_le (by simp)]
  simp
end

def szD (xs : List TLsa) : Nat := sumF szA xs
abbrev mkDS : Int → List (List TLsa) → List (List TLsa) := mkG mkAS szD
def mkW (k : Int) (m : TMsg) : TMsg := (k, k + 1, mkA (k + 1 + 1) m.2.2)
def szW (m : TMsg) : Nat := 2 + szA m.2.2
abbrev mkWS : Int → List TMsg → List TMsg := mkG mkW szW

def InvMD (b : Bool) (H0 : Heap) (xs : List (List TLsa)) (k : Int) (u : V) (m : Nat) (ys : List V) (Hc : Heap) : Prop :=
  ∃ (i : Nat) (Ho' : Heap), i ≤ xs.length ∧ ys = [.int .i64 (k + sumF szD (xs.take i)), .int .i64 (i : Nat)] ∧ m = xs.length - i ∧ Dp (dbsT b) H0 (curG mkAS szD k xs i) [u] Ho' ∧ Abs.sub Ho' Hc
/-! #### messages -/
abbrev msgRow (m : TMsg) (l s : V) : List V := .int .i64 m.1 :: .int .i64 m.2.1 :: lsaRow m.2.2 l s
theorem own_msg {b : Bool} {m : TMsg} {l s : V} {es : List Ent} (h : (msgT b).own m (msgRow m l s) es) : es = [⟨2, m.2.2.links.map enLink, l⟩, ⟨3, m.2.2.stubs.map enStub, s⟩] := by
  obtain ⟨r, e, h⟩ := h
  simp at e
  subst e
  exact own_lsa h
theorem msg_place {b : Bool} {xs : List TMsg} {u : V} {H0 Ho H : Heap} {i : Nat} {a : TMsg} {K : V → Prop} (h : Dp (wiresT b) H0 xs [u] Ho) (hs : Abs.sub Ho H) (ha : xs[i]? = some a)
    (hk : ∀ p l s, ElPt b (msgT b) H0 xs u H p i 0 (msgRow a l s) → K p) : bnd (aIndex H 7 u (.int .i64 (i : Nat))) K := by
  obtain ⟨hi, rfl⟩ := List.getElem?_eq_some_iff.1 ha
  refine dpS_pt h hs (by omega) (by simpa using hi) fun p r hr hp => ?_
  simp only [Int.toNat_natCast] at hr hp
  obtain ⟨_, rfl, l, s, rfl, g1, g2⟩ := hr
  exact hk p l s hp
theorem msg_st {b : Bool} {xs : List TMsg} {u : V} {H0 H : Heap} {i c : Nat} {n : Int} {a a' : TMsg} {p l s : V} {K : Heap → Prop} (hp : ElPt b (msgT b) H0 xs u H p i c (msgRow a l s)) (ha : xs[i]? = some a) (h1 : a'.2.2.links = a.2.2.links) (h2 : a'.2.2.stubs = a.2.2.stubs)
    (hz : stz 1 (msgRow a l s) c (.int .i64 n) = some (msgRow a' l s)) (hk : ∀ H' Ho', Dp (wiresT b) H0 (xs.set i a') [u] Ho' → Abs.sub Ho' H' → K H') : bnd (aSt 1 H p (.int .i64 n)) K := by
  obtain ⟨hi, rfl⟩ := List.getElem?_eq_some_iff.1 ha
  refine hp.st (r' := msgRow a' l s) (a' := a') hi hz rfl (fun es he => ?_) hk
  have := own_msg he
  subst this
  exact ⟨_, rfl, l, s, rfl, by rw [h1, h2]⟩
theorem msg_in {b : Bool} {xs : List TMsg} {u : V} {H0 Ho H : Heap} {i : Nat} {a : TMsg} {f : Nat} {K : V → Prop} (h : Dp (wiresT b) H0 xs [u] Ho) (hs : Abs.sub Ho H) (ha : xs[i]? = some a)
    (hk : ∀ l s Hm, Dp (lsaT b) Hm a.2.2 (lsaRow a.2.2 l s) Ho → (∀ a' Hx, Dp (lsaT b) Hm a' (lsaRow a.2.2 l s) Hx → Dp (wiresT b) H0 (xs.set i (a.1, a.2.1, a')) [u] Hx) → ∀ q, aLd false 1 H q = partOf false 1 (msgRow a l s) (2 + f) → K q) : bnd (aIndex H 7 u (.int .i64 (i : Nat))) fun p => bnd (aField 2 p) fun p => bnd (aField f p) K := by
  obtain ⟨hi, rfl⟩ := List.getElem?_eq_some_iff.1 ha
  obtain ⟨rows, r, Hm, g1, g2, g3, g4, g5, g6⟩ := dpS_elem h hi
  obtain ⟨r', rfl, w⟩ := msg_dp g4
  have w' := w
  obtain ⟨l, s, H1, rfl, w1, w2⟩ := lsa_dp w
  refine (g1.mono hs).idx (by omega) (by omega) fun p hp => ?_
  have hg : rows.getD (i : Int).toNat [] = msgRow xs[i] l s := by
    rw [List.getD_eq_getElem?_getD]
    simp only [Int.toNat_natCast]
    rw [g3]; rfl
  rw [hg] at hp
  refine hp.fld fun q hq => hq.fld fun q hq => hk l s Hm w' (fun a' Hx hx => g6 _ _ (Dp.msg hx)) q ?_
  rw [hq.ld]
  try simp

def InvMW (b : Bool) (H0 : Heap) (xs : List TMsg) (k : Int) (u : V) (m : Nat) (ys : List V) (Hc : Heap) : Prop :=
  ∃ (i : Nat) (Ho' : Heap), i ≤ xs.length ∧ ys = [.int .i64 (k + sumF szW (xs.take i)), .int .i64 (i : Nat)] ∧ m = xs.length - i ∧ Dp (wiresT b) H0 (curG mkW szW k xs i) [u] Ho' ∧ Abs.sub Ho' Hc
end Go.Proofs.YtohicpepcjgnaaaGreat
/-
Nets: reading marks back; the helpers' contracts in one form.
-/
namespace Go.Proofs.YtohicpepcjgnaaaGreat
open Go Go.Abs Go.Proofs

def szN (a : TNet) : Nat := 3 * a.up.es.length + (sumF szD a.dbs + sumF szW a.wires)
def mkN (k : Int) (a : TNet) : TNet := ⟨⟨a.up.n, mkE k a.up.es.length⟩, mkDS (k + 3 * a.up.es.length) a.dbs, mkWS (k + 3 * a.up.es.length + sumF szD a.dbs) a.wires, a.lost⟩
theorem sumD_le : ∀ xs : List (List TLsa), sumF szD xs ≤ 3 * sumF szd xs
  | [] => by simp [sumF]
  | a :: xs => by
    have := sumD_le xs
    have e1 : sumF szD (a :: xs) = szD a + sumF szD xs := by simp [sumF]
    have e2 : sumF szd (a :: xs) = szd a + sumF szd xs := by simp [sumF]
    have := sumA_le a
    have e3 : szD a = sumF szA a := rfl
    have e4 : szd a = a.length + sumF szl a := rfl
    rw [e1, e2]
    omega
theorem sumW_le : ∀ xs : List TMsg, sumF szW xs ≤ 5 * (xs.length + sumF szw xs)
  | [] => by simp [sumF]
  | a :: xs => by
    have := sumW_le xs
    have e1 : sumF szW (a :: xs) = szW a + sumF szW xs := by simp [sumF]
    have e2 : sumF szw (a :: xs) = szw a + sumF szw xs := by simp [sumF]
    have e3 : szW a = 2 + (3 + 2 * a.2.2.links.length + 3 * a.2.2.stubs.length) := rfl
    have e4 : szw a = a.2.2.links.length + a.2.2.stubs.length := rfl
    rw [e1, e2]
    simp only [List.length_cons]
    omega
theorem sB_Net {a : TNet} (h : bNet a) : szN a ≤ 10000000 := by
  have := sumD_le a.dbs
  have := sumW_le a.wires
  unfold bNet szn at h
  unfold szN
  omega
theorem dbs_each {xs : List (List TLsa)} {n : Nat} (h : sumF szd xs ≤ n) : ∀ d ∈ xs, d.length ≤ n := fun d hd => by
  obtain ⟨i, hi, rfl⟩ := List.mem_iff_getElem.1 hd
  have := le_sumF (f := szd) hi
  have e4 : szd xs[i] = xs[i].length + sumF szl xs[i] := rfl
  omega
end Go.Proofs.YtohicpepcjgnaaaGreat
/-
Contracts: copies of nets.
-/
namespace Go.Proofs.YtohicpepcjgnaaaGreat
open Go Go.Abs Go.Proofs

def InvK1 (H : Heap) (n : Int) (es : List TEdge) (e : V) (m : Nat) (ys : List V) (Hc : Heap) : Prop :=
  ∃ (i : Nat) (u : V), i ≤ es.length ∧ ys = [.box [.int .i64 n, e], .box [.int .i64 0, .nils], .box [.int .i64 n, u], .int .i64 (i : Nat)] ∧ m = es.length - i ∧ Held H 3 ((es.take i).map enEdge) u Hc
theorem C_s_l03Copy {b : Bool} {n : Int} {es : List TEdge} {e : V} {H : Heap} {K : V → Heap → Prop} (hv : Rb b H 3 e (es.map enEdge)) (hl : es.length ≤ 1048576) (h : ∀ u H', Held H 3 (es.map enEdge) u H' → K (.agg [.int .i64 n, u]) H') : ACalls P n_s_l03Copy [.agg [.int .i64 n, e]] H K := by
  have hc := hv.1.cell
  have h2 := hv.1
  apply W_s_l03Copy
  unfold F_s_l03Copy
  simp [hc, stz_eq, putCells, fillZ]
  refine ⟨InvK1 H n es e, ⟨es.length, Shr.of ⟨0, .nils, by omega, rfl, by omega, by simpa using Held.nil⟩⟩, ?_⟩
  rintro m ys Hc ⟨i, u, hi, rfl, rfl, hu⟩
  have cu := hu.cell
  simp [hc, h2.len]
  refine ⟨fun hlt => ?_, fun hge => ?_⟩
  · refine (h2.mono hu.sub).idx (by omega) (by simpa using hlt) fun p hp => ?_
    rw [hp.ld]
    simp [hlt, cu, bsl_one]
    intro o ho
    refine hu.append (sub_fresh ho) (by simp) (by simp; omega) fun v' H' H'' ho' hs' => ?_
    have cv := ho'.cell
    simp [stz_eq, putCells, cv]
    rw [i64_in (by omega) (by omega)]
    refine ⟨es.length - (i + 1), by omega, H'', hs', i + 1, v', by omega, by simp, rfl, ?_⟩
    rw [List.take_succ_eq_append_getElem hlt, List.map_append]
    exact ho'
  · have : i = es.length := by omega
    subst this
    rw [List.take_length] at hu
    simp [stz_eq, putCells, cu]
    exact Ret.of (h _ _ hu)
theorem C_Clone_Edge {rows : List (List V)} {v : V} {H : Heap} {K : V → Heap → Prop} (hv : Rb false H 3 v rows) (hl : rows.length ≤ 1048576) (h : ∀ u H', Held H 3 rows u H' → K u H') : ACalls P n_slices_Clone_i_Edge_i_Edge [v] H K := by
  obtain ⟨hv, hro⟩ := hv
  have hro := hro rfl
  apply W_slices_Clone_i_Edge_i_Edge
  unfold F_slices_Clone_i_Edge_i_Edge
  have hn : (v = .nils ∧ rows = []) ∨ ∃ o s n c, v = .slice o s n c := by
    rcases hv.2 with rfl | h | ⟨o, s, cap, ob, rfl, _⟩
    · exact absurd rfl (hro _)
    · exact .inl h
    · exact .inr ⟨_, _, _, _, rfl⟩
  rcases hn with ⟨rfl, rfl⟩ | ⟨o, s, n, c, rfl⟩
  · simp [aBinZ, isNil]
    exact Ret.of (h _ _ Held.nil)
  · simp [aBinZ, isNil, bsl_nil]
    intro o3 ho3
    have h0 := Held.new (sz := 3) ho3
    rw [(hv.mono h0.sub).rows hro]
    simp
    by_cases hr : rows = []
    · subst hr
      simp [appendK]
      exact Ret.of (h _ _ h0)
    · refine h0.append (Abs.sub_refl _) hr (by simp; omega) fun v' H' H'' ho' hs' => ?_
      exact Ret.shr (h v' H'' (by simpa using ho')) rfl hs'
theorem C_i_ownGraph {n : Int} {es : List TEdge} {e : V} {H : Heap} {K : V → Heap → Prop} (hv : Rb false H 3 e (es.map enEdge)) (hl : es.length ≤ 1048576) (h : ∀ u H', Held H 3 (es.map enEdge) u H' → K (.agg [.int .i64 n, u]) H') : ACalls P n_i_ownGraph [.agg [.int .i64 n, e]] H K := by
  have hc := hv.1.cell
  apply W_i_ownGraph
  unfold F_i_ownGraph
  simp [hc]
  refine ⟨_, Abs.sub_refl _, ?_⟩
  refine C_Clone_Edge hv (by simp; omega) fun u H1 hu => ⟨hu.sub, ?_⟩
  have cu := hu.cell
  simp [stz_eq, putCells, cu, fillZ]
  exact Ret.of (h _ _ hu)

theorem aField_box {off o r c : Nat} : aField off (.ptr o r c) = some (.ptr o r (c + off)) := rfl
theorem fill_net {n k : Int} {u : V} (c0 : okV u) : fillZ [.int .i64 0, .nils, .nils, .nils, .int .i64 0] [(0, 2, .agg [.int .i64 n, u]), (4, 1, .int .i64 k)] = some [.int .i64 n, u, .nils, .nils, .int .i64 k] := by
  simp [fillZ, putCells, c0]
theorem fill_msg {x y : Int} {us : List V} (h : us.length = 5) : fillZ [.int .i64 0, .int .i64 0, .int .i64 0, .int .i64 0, .int .i64 0, .nils, .nils] [(0, 1, .int .i64 x), (1, 1, .int .i64 y), (2, 5, .agg us)] = some (.int .i64 x :: .int .i64 y :: us) := by
  match us, h with
  | [a, b, c, d, e], _ => simp [fillZ, putCells]
def InvNa (c : Bool) (H : Heap) (a : TNet) (e : V) (m : Nat) (ys : List V) (Hc : Heap) : Prop :=
  ∃ (i : Nat) (u : V), i ≤ a.dbs.length ∧ ys = [.box [.int .i64 0, .nils, .nils, .nils, .int .i64 0], .box [.int .i64 a.up.n, e, u, .nils, .int .i64 a.lost], .int .i64 (i : Nat)] ∧ m = a.dbs.length - i ∧ Dp (dbsT c) H (a.dbs.take i) [u] Hc
def InvNb (c : Bool) (H : Heap) (a : TNet) (e d : V) (m : Nat) (ys : List V) (Hc : Heap) : Prop :=
  ∃ (i : Nat) (u : V), i ≤ a.wires.length ∧ ys = [.box [.int .i64 0, .nils, .nils, .nils, .int .i64 0], .box [.int .i64 a.up.n, e, d, u, .int .i64 a.lost], .int .i64 (i : Nat)] ∧ m = a.wires.length - i ∧ Dp (wiresT c) H (a.wires.take i) [u] Hc
set_option maxHeartbeats 1000000 in
theorem C_s_l08Copy {b c : Bool} {a : TNet} {vs : List V} {H : Heap} {K : V → Heap → Prop} (hv : (netT b).rd H a vs) (hl : bNet a) (h : ∀ us H', Dp (netT c) H a us H' → K (.agg us) H') : ACalls P n_s_l08Copy [.agg vs] H K := by
  obtain ⟨e, d, w, rfl, g1, g2, g3⟩ := hv
  have hc := net_cell g1 g2 g3
  unfold bNet szn at hl
  apply W_s_l08Copy
  unfold F_s_l08Copy
  simp [hc]
  intro o ho
  have hs := sub_fresh (x := ⟨5, [netRow a e d w]⟩) ho
  replace g1 := g1.mono hs
  replace g2 := (dbsT b).mono g2 hs
  replace g3 := (wiresT b).mono g3 hs
  have hbox : (upd H o ⟨5, [netRow a e d w]⟩) o = some ⟨5, [netRow a e d w]⟩ := upd_eq H o _
  generalize hHb : upd H o ⟨5, [netRow a e d w]⟩ = Hb at *
  refine ⟨_, Abs.sub_refl _, ?_⟩
  simp [aField_box, aLd_at hbox, hc]
  refine C_s_l03Copy (b := b) g1 (by omega) fun u0 H1 hu0 => ⟨hu0.sub, ?_⟩
  have c0 := hu0.cell
  simp [stz_eq, putCells, fill_net c0, c0]
  refine ⟨InvNa c H1 a u0, ⟨a.dbs.length, Shr.of ⟨0, .nils, by omega, rfl, by omega, by simpa using dpS_nil⟩⟩, ?_⟩
  rintro m ys Hc ⟨i, u, hi, rfl, rfl, hu⟩
  have cu := dpS_cell hu
  have hs1 : Abs.sub Hb Hc := sub_trans hu0.sub hu.sub
  have hbox1 := hs1 _ _ hbox
  simp [aField_box, aLd_at hbox1, hc, rdS_len g2]
  refine ⟨fun hlt => ?_, fun hge => ?_⟩
  · refine rdS_idx ((dbsT b).mono g2 hs1) (by omega) (by simpa using hlt) fun p row hp hr => ?_
    simp only [Int.toNat_natCast] at hr
    rw [hp.ld]
    have hz := le_sumF (f := szd) hlt
    have hz' : szd a.dbs[i] = a.dbs[i].length + sumF szl a.dbs[i] := rfl
    have hr' := hr
    obtain ⟨x, rs, rfl, _⟩ := hr
    simp [cu]
    refine C_s_l06Copy (b := b) (c := c) hr' (by omega) fun us H2 hus => ?_
    have cx := dpS_cell hus
    simp [bsl_one, cx]
    intro o2 ho2
    refine dpS_app (T := dbT c) hu hus (sub_fresh ho2) (by simp; omega) fun v' H' H'' ho' hs' => ?_
    have cv := dpS_cell ho'
    simp [stz_eq, putCells, cv]
    rw [i64_in (by omega) (by omega)]
    refine ⟨a.dbs.length - (i + 1), by omega, H'', hs', i + 1, v', by omega, by simp, rfl, ?_⟩
    rw [List.take_succ_eq_append_getElem hlt]
    exact ho'
  · have : i = a.dbs.length := by omega
    subst this
    rw [List.take_length] at hu
    refine ⟨InvNb c Hc a u0 u, ⟨a.wires.length, Shr.of ⟨0, .nils, by omega, rfl, by omega, by simpa using dpS_nil⟩⟩, ?_⟩
    rintro m ys Hd ⟨i, t, hi, rfl, rfl, ht⟩
    have ct := dpS_cell ht
    have hs2 : Abs.sub Hb Hd := sub_trans hs1 ht.sub
    have hbox2 := hs2 _ _ hbox
    simp [aField_box, aLd_at hbox2, hc, rdS_len g3]
    refine ⟨fun hlt => ?_, fun hge => ?_⟩
    · refine ⟨Hc, ht.sub, ?_⟩
      simp [aField_box, aLd_at hbox1, hc]
      have g3' := (wiresT b).mono g3 hs1
      have hz := le_sumF (f := szw) hlt
      have hz' : szw a.wires[i] = a.wires[i].2.2.links.length + a.wires[i].2.2.stubs.length := rfl
      refine rdS_idx g3' (by omega) (by simpa using hlt) fun p row hp hr => hp.fld fun q hq => ?_
      simp only [Int.toNat_natCast] at hr
      obtain ⟨r, rfl, hr⟩ := hr
      rw [hq.ld]
      simp
      refine rdS_idx g3' (by omega) (by simpa using hlt) fun p row hp hr2 => hp.fld fun q hq => ?_
      simp only [Int.toNat_natCast] at hr2
      obtain ⟨r2, rfl, hr2⟩ := hr2
      rw [hq.ld]
      simp
      refine rdS_idx g3' (by omega) (by simpa using hlt) fun p row hp hr3 => hp.fld fun q hq => ?_
      simp only [Int.toNat_natCast] at hr3
      obtain ⟨r3, rfl, hr3⟩ := hr3
      rw [hq.ld]
      have hr3' := hr3
      obtain ⟨l, s, rfl, _, _⟩ := hr3
      simp
      refine C_s_l05Copy (b := b) (c := c) ((lsaT b).mono hr3' ht.sub) (by omega) fun us H2 hus => ⟨sub_trans ht.sub hus.sub, ?_⟩
      have hw := Dp.msg (x := a.wires[i].1) (y := a.wires[i].2.1) hus
      obtain ⟨l', s', Hm, rfl, w1, w2⟩ := lsa_dp hus
      have c1 := w1.cell
      have c2 := w2.cell
      simp [bsl_one, fill_msg, c1, c2, ct]
      intro o2 ho2
      refine ⟨sub_trans (sub_trans ht.sub hus.sub) (sub_fresh ho2), ?_⟩
      refine dpS_app (T := msgT c) ht hw (sub_fresh ho2) (by simp; omega) fun v' H' H'' ho' hs' => ⟨sub_trans ho'.sub hs', ?_⟩
      have cv := dpS_cell ho'
      simp [stz_eq, putCells, cv]
      rw [i64_in (by omega) (by omega)]
      refine ⟨a.wires.length - (i + 1), by omega, H'', hs', i + 1, v', by omega, by simp, rfl, ?_⟩
      rw [List.take_succ_eq_append_getElem hlt]
      exact ho'
    · have : i = a.wires.length := by omega
      subst this
      rw [List.take_length] at ht
      simp [stz_eq, putCells, c0, cu, ct]
      exact Ret.dp (f := V.agg) (Dp.net (a := a) hu0 hu ht) hs h

set_option maxHeartbeats 1000000 in
theorem C_i_ownNet {c : Bool} {a : TNet} {vs : List V} {H : Heap} {K : V → Heap → Prop} (hv : (netT false).rd H a vs) (hl : bNet a) (h : ∀ us H', Dp (netT c) H a us H' → K (.agg us) H') : ACalls P n_i_ownNet [.agg vs] H K := by
  obtain ⟨e, d, w, rfl, g1, g2, g3⟩ := hv
  have hc := net_cell g1 g2 g3
  unfold bNet szn at hl
  apply W_i_ownNet
  unfold F_i_ownNet
  simp [hc]
  intro o ho
  have hs := sub_fresh (x := ⟨5, [netRow a e d w]⟩) ho
  replace g1 := g1.mono hs
  replace g2 := (dbsT false).mono g2 hs
  replace g3 := (wiresT false).mono g3 hs
  have hbox : (upd H o ⟨5, [netRow a e d w]⟩) o = some ⟨5, [netRow a e d w]⟩ := upd_eq H o _
  generalize hHb : upd H o ⟨5, [netRow a e d w]⟩ = Hb at *
  refine ⟨_, Abs.sub_refl _, ?_⟩
  simp [aField_box, aLd_at hbox, hc]
  refine C_i_ownGraph g1 (by omega) fun u0 H1 hu0 => ⟨hu0.sub, ?_⟩
  have c0 := hu0.cell
  have hbox0 := hu0.sub _ _ hbox
  simp [stz_eq, putCells, fill_net c0, c0, aField_box, aLd_at hbox0, hc, rdS_len g2]
  refine ⟨InvNa c H1 a u0, ⟨a.dbs.length, Shr.of ⟨0, .nils, by omega, rfl, by omega, by simpa using dpS_nil⟩⟩, ?_⟩
  rintro m ys Hc ⟨i, u, hi, rfl, rfl, hu⟩
  have cu := dpS_cell hu
  have hs1 : Abs.sub Hb Hc := sub_trans hu0.sub hu.sub
  have hbox1 := hs1 _ _ hbox
  simp
  refine ⟨fun hlt => ?_, fun hge => ?_⟩
  · refine rdS_idx ((dbsT false).mono g2 hs1) (by omega) (by simpa using hlt) fun p row hp hr => ?_
    simp only [Int.toNat_natCast] at hr
    rw [hp.ld]
    have hz := le_sumF (f := szd) hlt
    have hz' : szd a.dbs[i] = a.dbs[i].length + sumF szl a.dbs[i] := rfl
    have hr' := hr
    obtain ⟨x, rs, rfl, _⟩ := hr
    have cx := rdS_cell hr'
    simp [cu, stz_eq, putCells, cx]
    refine C_i_ownDb (c := c) hr' (by omega) fun us H2 hus => ?_
    have cx := dpS_cell hus
    simp [bsl_one, cx]
    intro o2 ho2
    refine dpS_app (T := dbT c) hu hus (sub_fresh ho2) (by simp; omega) fun v' H' H'' ho' hs' => ?_
    have cv := dpS_cell ho'
    simp [stz_eq, putCells, cv]
    rw [i64_in (by omega) (by omega)]
    refine ⟨a.dbs.length - (i + 1), by omega, H'', hs', i + 1, v', by omega, by simp, rfl, ?_⟩
    rw [List.take_succ_eq_append_getElem hlt]
    exact ho'
  · have : i = a.dbs.length := by omega
    subst this
    rw [List.take_length] at hu
    simp [aField_box, aLd_at hbox1, hc, rdS_len g3]
    refine ⟨InvNb c Hc a u0 u, ⟨a.wires.length, Shr.of ⟨0, .nils, by omega, rfl, by omega, by simpa using dpS_nil⟩⟩, ?_⟩
    rintro m ys Hd ⟨i, t, hi, rfl, rfl, ht⟩
    have ct := dpS_cell ht
    have hs2 : Abs.sub Hb Hd := sub_trans hs1 ht.sub
    simp
    refine ⟨fun hlt => ?_, fun hge => ?_⟩
    · have hz := le_sumF (f := szw) hlt
      have hz' : szw a.wires[i] = a.wires[i].2.2.links.length + a.wires[i].2.2.stubs.length := rfl
      refine rdS_idx ((wiresT false).mono g3 hs2) (by omega) (by simpa using hlt) fun p row hp hr => ?_
      simp only [Int.toNat_natCast] at hr
      obtain ⟨r, rfl, hr⟩ := hr
      rw [hp.ld]
      have hr3' := hr
      obtain ⟨l, s, rfl, e1, e2⟩ := hr
      have hcc := lsa_cell e1 e2
      simp [stz_eq, putCells, hcc, ct]
      refine C_i_ownLsa (c := c) hr3' (by omega) fun us H2 hus => ?_
      have hw := Dp.msg (x := a.wires[i].1) (y := a.wires[i].2.1) hus
      obtain ⟨l', s', Hm, rfl, w1, w2⟩ := lsa_dp hus
      have c1 := w1.cell
      have c2 := w2.cell
      simp [bsl_one, fill_msg, c1, c2, ct]
      intro o2 ho2
      refine dpS_app (T := msgT c) ht hw (sub_fresh ho2) (by simp; omega) fun v' H' H'' ho' hs' => ?_
      have cv := dpS_cell ho'
      simp [stz_eq, putCells, cv]
      rw [i64_in (by omega) (by omega)]
      refine ⟨a.wires.length - (i + 1), by omega, H'', hs', i + 1, v', by omega, by simp, rfl, ?_⟩
      rw [List.take_succ_eq_append_getElem hlt]
      exact ho'
    · have : i = a.wires.length := by omega
      subst this
      rw [List.take_length] at ht
      simp [stz_eq, putCells, c0, cu, ct]
      exact Ret.dp (f := V.agg) (Dp.net (a := a) hu0 hu ht) hs h
end Go.Proofs.YtohicpepcjgnaaaGreat
/-
Contracts: an element of one's own slice is taken out.
-/
namespace Go.Proofs.YtohicpepcjgnaaaGreat
open Go Go.Abs Go.Proofs

theorem erase_rows {rows ex : List (List V)} {k : Nat} (hk : k < rows.length) : (rows ++ ex).take k ++ ((rows ++ ex).drop (k + 1)).take (rows.length - (k + 1)) = rows.eraseIdx k := by
  have h1 : (rows ++ ex).take k = rows.take k := List.take_append_of_le_length (by omega)
  have h2 : (rows ++ ex).drop (k + 1) = rows.drop (k + 1) ++ ex := List.drop_append_of_le_length (by omega)
  have h3 : (rows.drop (k + 1) ++ ex).take (rows.length - (k + 1)) = rows.drop (k + 1) := by
    rw [List.take_append_of_le_length (by simp), List.take_of_length_le (by simp)]
  rw [h1, h2, h3, List.eraseIdx_eq_take_drop_succ]
set_option maxHeartbeats 1000000 in
theorem delete_core {rows ex : List (List V)} {o k c n : Nat} {H : Heap} (ho : H o = some ⟨7, rows ++ ex⟩) (hn : rows.length = n) (hk : k < n) (hc : n + ex.length = c) (hl : n ≤ 1048576) :
    ACalls P n_slices_Delete_i_Msg_i_Msg [.slice o 0 n (some c), .int .i64 (k : Nat), .int .i64 ((k : Int) + 1)] H fun v H' => v = .slice o 0 (n - 1) (some c) ∧ ∃ ex', H' = upd H o ⟨7, rows.eraseIdx k ++ ex'⟩ := by
  subst hn
  apply W_slices_Delete_i_Msg_i_Msg
  unfold F_slices_Delete_i_Msg_i_Msg
  have e1 : aSlice H 7 (.slice o 0 rows.length (some c)) (some (.int .i64 (k : Nat))) (some (.int .i64 ((k : Int) + 1))) (some (.int .i64 (rows.length : Nat))) = some (.slice o (0 + k) (k + 1 - k) (some (rows.length - k))) := by
    have : ((k : Int) + 1).toNat = k + 1 := by omega
    have h3 : (0 : Int) ≤ (k : Int) + 1 := by omega
    simp [aSlice, ho, bound, natOf, this, h3]
    omega
  have e2 : aSlice H 7 (.slice o 0 rows.length (some c)) none (some (.int .i64 (k : Nat))) none = some (.slice o 0 k (some c)) := by
    simp [aSlice, ho, bound, natOf]
    omega
  have e3 : aSlice H 7 (.slice o 0 rows.length (some c)) (some (.int .i64 ((k : Int) + 1))) none none = some (.slice o (k + 1) (rows.length - (k + 1)) (some (c - (k + 1)))) := by
    have : ((k : Int) + 1).toNat = k + 1 := by omega
    have h3 : (0 : Int) ≤ (k : Int) + 1 := by omega
    simp [aSlice, ho, bound, natOf, this, h3]
    omega
  have e4 : rowsOf H 7 (.slice o (k + 1) (rows.length - (k + 1)) (some (c - (k + 1)))) = some (((rows ++ ex).drop (k + 1)).take (rows.length - (k + 1))) := by
    simp [rowsOf, ho]
    omega
  simp [e1, e2, e3, e4]
  have her := erase_rows (ex := ex) hk
  generalize hxs : ((rows ++ ex).drop (k + 1)).take (rows.length - (k + 1)) = xs at *
  have hxl : xs.length = rows.length - (k + 1) := by rw [← hxs]; simp; omega
  have hel : (rows.eraseIdx k).length = rows.length - 1 := List.length_eraseIdx_of_lt hk
  have tail : ∀ (A : List (List V)) (H' : Heap), H' o = some ⟨7, rows.eraseIdx k ++ A⟩ → 1 ≤ A.length → H' = upd H o ⟨7, rows.eraseIdx k ++ A⟩ → ∀ (K : V → Heap → Prop), (∀ v ex', K v (upd H o ⟨7, rows.eraseIdx k ++ ex'⟩)) →
      bnd (aSlice H' 7 (.slice o 0 (rows.length - 1) (some c)) (some (.int .i64 ((rows.length - 1 : Nat) : Nat))) (some (.int .i64 (rows.length : Nat))) none) fun t11 =>
        clearK H' 7 [.int .i64 0, .int .i64 0, .int .i64 0, .int .i64 0, .int .i64 0, .nils, .nils] t11 K := by
    intro A H' hA h1 hH' K hK
    have e5 : aSlice H' 7 (.slice o 0 (rows.length - 1) (some c)) (some (.int .i64 ((rows.length - 1 : Nat) : Nat))) (some (.int .i64 (rows.length : Nat))) none = some (.slice o (rows.length - 1) (rows.length - (rows.length - 1)) (some (c - (rows.length - 1)))) := by
      simp [aSlice, hA, bound, natOf]
      omega
    rw [e5]
    have hone : rows.length - (rows.length - 1) = 1 := by omega
    simp only [hone, bnd_some, clearK, hA]
    refine ⟨trivial, by simp [hel]; omega, by simp, ?_⟩
    rw [hH']
    have : upd (upd H o ⟨7, rows.eraseIdx k ++ A⟩) o ⟨7, (rows.eraseIdx k ++ A).take (rows.length - 1) ++ List.replicate 1 [.int .i64 0, .int .i64 0, .int .i64 0, .int .i64 0, .int .i64 0, .nils, .nils] ++ (rows.eraseIdx k ++ A).drop (rows.length - 1 + 1)⟩ =
        upd H o ⟨7, rows.eraseIdx k ++ (List.replicate 1 [.int .i64 0, .int .i64 0, .int .i64 0, .int .i64 0, .int .i64 0, .nils, .nils] ++ (rows.eraseIdx k ++ A).drop (rows.length - 1 + 1))⟩ := by
      rw [upd_upd, ← hel, List.take_left, List.append_assoc]
    rw [this]
    exact hK _ _
  have hex : ex.length = c - rows.length := by omega
  simp only [appendK, ho]
  refine ⟨fun q => absurd q (by omega), fun _ => ?_⟩
  refine ⟨trivial, by simp; omega, fun e => ?_, fun hne => ⟨by omega, fun hroom => ⟨by simp; omega, ?_⟩, fun hh => absurd hh (by omega)⟩⟩
  · subst e
    have hk1 : k = rows.length - 1 := by simp at hxl; omega
    subst hk1
    simp only [lenOf, bnd_some]
    simp only [List.append_nil] at her
    have hA : H o = some ⟨7, rows.eraseIdx (rows.length - 1) ++ (rows ++ ex).drop (rows.length - 1)⟩ := by
      rw [ho, ← her, List.take_append_drop]
    refine tail ((rows ++ ex).drop (rows.length - 1)) H hA (by simp; omega) ?_ _ fun v ex' => Ret.of ⟨rfl, ex', rfl⟩
    funext i
    unfold upd
    split
    · rename_i hi; rw [hi]; exact hA
    · rfl
  · have hkx : k + xs.length = rows.length - 1 := by omega
    simp only [hkx, lenOf, bnd_some, Nat.zero_add]
    have hA : (rows ++ ex).take k ++ xs ++ (rows ++ ex).drop (rows.length - 1) = rows.eraseIdx k ++ (rows ++ ex).drop (rows.length - 1) := by rw [her]
    rw [hA]
    exact tail ((rows ++ ex).drop (rows.length - 1)) _ (upd_eq _ _ _) (by simp; omega) rfl _ fun v ex' => Ret.of ⟨rfl, ex', rfl⟩
theorem C_Delete_rows {rows : List (List V)} {u : V} {k : Nat} {H0 Ho H : Heap} {K : V → Heap → Prop} (hu : Held H0 7 rows u Ho) (hs : Abs.sub Ho H) (hk : k < rows.length) (hl : rows.length ≤ 1048576)
    (h : ∀ v H' H'', Held H0 7 (rows.eraseIdx k) v H'' → Abs.sub H'' H' → K v H') : ACalls P n_slices_Delete_i_Msg_i_Msg [u, .int .i64 (k : Nat), .int .i64 ((k : Int) + 1)] H K := by
  rcases hu with ⟨_, rfl, _⟩ | ⟨o, cap, h1, rfl, hc, rfl⟩
  · simp at hk
  · have ho : H o = some ⟨7, rows⟩ := hs _ _ (upd_eq _ _ _)
    have hel : (rows.eraseIdx k).length = rows.length - 1 := List.length_eraseIdx_of_lt hk
    have fin : ∀ {c : Nat} {H2 : Heap}, H2 = H ∨ (∃ x, H2 = upd H o x) → ∀ v H', (v = .slice o 0 (rows.length - 1) (some c) ∧ ∃ ex', H' = upd H2 o ⟨7, rows.eraseIdx k ++ ex'⟩) →
        K v H' ∨ ∃ o n c sz rows ex, v = .slice o 0 n (some c) ∧ H' o = some ⟨sz, rows ++ ex⟩ ∧ K (.slice o 0 n none) (upd H' o ⟨sz, rows⟩) := by
      rintro c H2 hH2 v H' ⟨rfl, ex', rfl⟩
      refine .inr ⟨o, rows.length - 1, c, 7, rows.eraseIdx k, ex', rfl, upd_eq _ _ _, ?_⟩
      have : upd (upd H2 o ⟨7, rows.eraseIdx k ++ ex'⟩) o ⟨7, rows.eraseIdx k⟩ = upd H o ⟨7, rows.eraseIdx k⟩ := by
        rcases hH2 with rfl | ⟨x, rfl⟩
        · rw [upd_upd]
        · rw [upd_upd, upd_upd]
      rw [this]
      exact h _ _ (upd H0 o ⟨7, rows.eraseIdx k⟩) (.inr ⟨o, none, h1, by rw [hel], by simp, rfl⟩) (sub_upd2 (sub_trans (sub_fresh h1) hs))
    cases cap with
    | none =>
      refine ACalls.opened ho rfl fun c ex hx hc => ?_
      exact (delete_core (upd_eq _ _ _) rfl hk hc hl).closed (fin (.inr ⟨_, rfl⟩))
    | some c =>
      have := hc c rfl
      subst this
      exact (delete_core (ex := []) (by simpa using ho) rfl hk (by simp) hl).closed (fin (.inl rfl))
theorem C_Delete_Msg {b : Bool} {xs : List TMsg} {u : V} {k : Nat} {H0 Ho H : Heap} {K : V → Heap → Prop} (hu : Dp (wiresT b) H0 xs [u] Ho) (hs : Abs.sub Ho H) (hk : k < xs.length) (hl : xs.length ≤ 1048576)
    (h : ∀ v H' H'', Dp (wiresT b) H0 (xs.eraseIdx k) [v] H'' → Abs.sub H'' H' → K v H') : ACalls P n_slices_Delete_i_Msg_i_Msg [u, .int .i64 (k : Nat), .int .i64 ((k : Int) + 1)] H K := by
  obtain ⟨es, ⟨w', rows, ess, e, h0, h1, rfl⟩, h2⟩ := hu
  cases e
  have hlen := h1.len
  obtain ⟨Hm, c1, c2⟩ := Chain.append.1 h2
  have c2 : Held Hm 7 rows u Ho := Chain.one.1 c2
  obtain ⟨r, A, e, B, g1, g2, g3, g4, rfl⟩ := h1.cut hk
  obtain ⟨H', d1, d2⟩ := chain_drop c1
  refine C_Delete_rows c2 hs (by omega) (by omega) fun v Hx Hy q1 q2 => ?_
  obtain ⟨Hz, q3, q4⟩ := q1.shrink d2
  refine h v Hx Hz ⟨_, ⟨v, rows.eraseIdx k, A ++ B, rfl, fun r hr => h0 r (List.mem_of_mem_eraseIdx hr), ?_, rfl⟩, Chain.append.2 ⟨H', d1, Chain.one.2 q3⟩⟩ (sub_trans q4 q2)
  rw [List.eraseIdx_eq_take_drop_succ, List.eraseIdx_eq_take_drop_succ]
  exact g2.append g4
end Go.Proofs.YtohicpepcjgnaaaGreat
/-
Contracts: a message is lost.
-/
namespace Go.Proofs.YtohicpepcjgnaaaGreat
open Go Go.Abs Go.Proofs

theorem keep_succ {α : Type} {xs : List α} {i k : Nat} (hi : i < xs.length) : (xs.take (i + 1)).eraseIdx k = if i = k then (xs.take i).eraseIdx k else (xs.take i).eraseIdx k ++ [xs[i]] := by
  rw [List.take_succ_eq_append_getElem hi]
  have hl : (xs.take i).length = i := by simp; omega
  split
  · rename_i e
    subst e
    have e1 : (xs.take i).eraseIdx i = xs.take i := List.eraseIdx_of_length_le (by omega)
    rw [List.eraseIdx_append_of_length_le (by omega), hl, Nat.sub_self, e1]
    simp
  · by_cases h : k < i
    · rw [List.eraseIdx_append_of_lt_length (by omega)]
    · rw [List.eraseIdx_of_length_le (by rw [List.length_append, hl]; simp; omega), List.eraseIdx_of_length_le (by omega)]
theorem sumF_erase {α : Type} {f : α → Nat} {xs : List α} {k : Nat} : sumF f (xs.eraseIdx k) ≤ sumF f xs := by
  rw [List.eraseIdx_eq_take_drop_succ]
  have h : sumF f xs = sumF f (xs.take k) + sumF f (xs.drop k) := by
    unfold sumF
    rw [← List.sum_append, ← List.map_append, List.take_append_drop]
  have h2 : sumF f (xs.take k ++ xs.drop (k + 1)) = sumF f (xs.take k) + sumF f (xs.drop (k + 1)) := by
    unfold sumF
    rw [List.map_append, List.sum_append]
  have h3 : sumF f (xs.drop (k + 1)) ≤ sumF f (xs.drop k) := by
    by_cases hk : k < xs.length
    · rw [List.drop_eq_getElem_cons hk]
      unfold sumF
      simp only [List.map_cons, List.sum_cons]
      omega
    · rw [List.drop_eq_nil_of_le (by omega)]
      simp [sumF]
  omega
abbrev offN (a : TNet) (k : Nat) : TNet := ⟨a.up, a.dbs, a.wires.eraseIdx k, a.lost⟩
theorem offN_sz {a : TNet} {k : Nat} (h : bNet a) : bNet (offN a k) := by
  unfold bNet szn at *
  have h1 : (a.wires.eraseIdx k).length ≤ a.wires.length := List.length_eraseIdx_le ..
  have h2 : sumF szw (a.wires.eraseIdx k) ≤ sumF szw a.wires := sumF_erase
  simp only [offN]
  omega
def loseR (a : TNet) (k : Int) : TNet × Bool := if netOk a ∧ 0 ≤ k ∧ k ≤ (a.wires.length : Int) - 1 then (offN a k.toNat, true) else (a, false)
theorem loseR_sz {a : TNet} {k : Int} (h : bNet a) : bNet (loseR a k).1 := by
  unfold loseR
  split
  · exact offN_sz h
  · exact h

def InvOff (c : Bool) (H : Heap) (a : TNet) (k : Nat) (e0 d0 w0 e d : V) (r : List V) (m : Nat) (ys : List V) (Hc : Heap) : Prop :=
  ∃ (i : Nat) (u : V), i ≤ a.wires.length ∧ ys = [.box (netRow a e0 d0 w0), .box [.int .i64 0, .nils, .nils, .nils, .int .i64 0], .box [.int .i64 0, .int .i64 0, .int .i64 0, .int .i64 0, .int .i64 0, .nils, .nils], .box [.int .i64 a.up.n, e, d, u, .int .i64 a.lost], .box r, .int .i64 (i : Nat)] ∧ m = a.wires.length - i ∧ Dp (wiresT c) H ((a.wires.take i).eraseIdx k) [u] Hc
set_option maxHeartbeats 1000000 in
theorem C_s_l08Off {b c : Bool} {a : TNet} {vs : List V} {k : Nat} {H : Heap} {K : V → Heap → Prop} (hv : (netT b).rd H a vs) (hl : bNet a) (hk : k < a.wires.length)
    (h : ∀ us ms Hm H', Abs.sub H Hm → (msgT c).rd Hm a.wires[k] ms → Dp (netT c) Hm (offN a k) us H' → K (.tup [.agg us, .agg ms]) H') : ACalls P n_s_l08Off [.agg vs, .int .i64 (k : Nat)] H K := by
  have hv' := hv
  obtain ⟨e0, d0, w0, rfl, g1, g2, g3⟩ := hv
  have hc := net_cell g1 g2 g3
  have hl' := hl
  unfold bNet szn at hl
  apply W_s_l08Off
  unfold F_s_l08Off
  simp [hc]
  refine C_s_l08Copy (c := c) hv' hl' fun us H3 hus => ?_
  obtain ⟨e, d, w, H1, H2, rfl, h1, h2, h3⟩ := net_dp hus
  have hcc := And.intro h1.cell (And.intro (dpS_cell h2) (dpS_cell h3))
  obtain ⟨Ha, h3, h2⟩ := h2.swap h3
  obtain ⟨Hb, h3, h1⟩ := Dp.heldOver h1 h3
  simp [stz_eq, putCells, hcc]
  refine rdS_at h3.rd (sub_trans h1.sub h2.sub) (by omega) (by simpa using hk) fun p row hp hr => ?_
  simp only [Int.toNat_natCast] at hr
  have hr' := hr
  obtain ⟨r, rfl, hr⟩ := hr
  obtain ⟨l, s, rfl, q1, q2⟩ := hr
  have hlc := lsa_cell q1 q2
  rw [hp.ld]
  simp [stz_eq, putCells, hcc, hlc]
  refine ⟨InvOff c H3 a k e0 d0 w0 e d _, ⟨a.wires.length, Shr.of ⟨0, .nils, by omega, rfl, by omega, by simpa using dpS_nil⟩⟩, ?_⟩
  rintro m ys Hc ⟨i, u, hi, rfl, rfl, hu⟩
  have cu := dpS_cell hu
  have hsb : Abs.sub H H3 := hus.sub
  simp [hc, rdS_len g3]
  refine ⟨fun hlt => ?_, fun hge => ?_⟩
  · have hkeep := keep_succ (k := k) hlt
    rw [i64_in (n := (i : Int) + 1) (by omega) (by omega)]
    refine ⟨fun hne => ?_, fun heq => ?_⟩
    · rw [if_neg (by omega)] at hkeep
      refine ⟨H3, hu.sub, ?_⟩
      have g3' := (wiresT b).mono g3 hsb
      have hz := le_sumF (f := szw) hlt
      have hz' : szw a.wires[i] = a.wires[i].2.2.links.length + a.wires[i].2.2.stubs.length := rfl
      have hlen : ((a.wires.take i).eraseIdx k).length ≤ i := Nat.le_trans (List.length_eraseIdx_le ..) (by simp; omega)
      refine rdS_idx g3' (by omega) (by simpa using hlt) fun p row hp hr => hp.fld fun q hq => ?_
      simp only [Int.toNat_natCast] at hr
      obtain ⟨r, rfl, hr⟩ := hr
      rw [hq.ld]
      simp
      refine rdS_idx g3' (by omega) (by simpa using hlt) fun p row hp hr2 => hp.fld fun q hq => ?_
      simp only [Int.toNat_natCast] at hr2
      obtain ⟨r2, rfl, hr2⟩ := hr2
      rw [hq.ld]
      simp
      refine rdS_idx g3' (by omega) (by simpa using hlt) fun p row hp hr3 => hp.fld fun q hq => ?_
      simp only [Int.toNat_natCast] at hr3
      obtain ⟨r3, rfl, hr3⟩ := hr3
      rw [hq.ld]
      have hr3' := hr3
      obtain ⟨l, s, rfl, _, _⟩ := hr3
      simp
      refine C_s_l05Copy (b := b) (c := c) ((lsaT b).mono hr3' hu.sub) (by omega) fun us H2 hus => ⟨sub_trans hu.sub hus.sub, ?_⟩
      have hw := Dp.msg (x := a.wires[i].1) (y := a.wires[i].2.1) hus
      obtain ⟨l', s', Hm, rfl, w1, w2⟩ := lsa_dp hus
      have c1 := w1.cell
      have c2 := w2.cell
      simp [bsl_one, fill_msg, c1, c2, cu]
      intro o2 ho2
      refine ⟨sub_trans (sub_trans hu.sub hus.sub) (sub_fresh ho2), ?_⟩
      refine dpS_app (T := msgT c) hu hw (sub_fresh ho2) (by omega) fun v' H' H'' ho' hs' => ⟨sub_trans ho'.sub hs', ?_⟩
      have cv := dpS_cell ho'
      simp [stz_eq, putCells, cv]
      refine ⟨a.wires.length - (i + 1), by omega, H'', hs', i + 1, v', by omega, by simp, rfl, ?_⟩
      rw [hkeep]
      exact ho'
    · rw [if_pos (by omega)] at hkeep
      exact ⟨a.wires.length - (i + 1), by omega, Shr.of ⟨i + 1, u, by omega, by simp, rfl, by rw [hkeep]; exact hu⟩⟩
  · have : i = a.wires.length := by omega
    subst this
    rw [List.take_length] at hu
    simp [stz_eq, putCells, hcc, cu, hlc]
    exact ⟨⟨_, Abs.sub_refl _⟩, Ret.of (h _ _ Hb Hc h3.sub hr' (Dp.net (a := offN a k) h1 h2 hu))⟩
theorem C_i_isMsg {b : Bool} {a : TNet} {vs : List V} {k : Int} {H : Heap} {K : V → Heap → Prop} (hv : (netT b).rd H a vs) (hl : bNet a) (h : K (.bool (decide (netOk a ∧ 0 ≤ k ∧ k ≤ (a.wires.length : Int) - 1))) H) : ACalls P n_i_isMsg [.agg vs, .int .i64 k] H K := by
  have hv' := hv
  obtain ⟨e, d, w, rfl, g1, g2, g3⟩ := hv
  have hc := net_cell g1 g2 g3
  have hl' := hl
  unfold bNet szn at hl
  apply W_i_isMsg
  unfold F_i_isMsg
  simp [hc]
  refine C_i_NetOk hv' hl' ?_
  simp [rdS_len g3]
  refine ⟨fun q => ?_, fun q => ?_⟩
  · rw [i64_in (by omega) (by omega)]
    refine C_i_within ?_
    refine Ret.iff h ?_
    exact ⟨fun hh => ⟨q, hh⟩, fun hh => hh.2⟩
  · exact Ret.no h fun hh => q hh.1
set_option maxHeartbeats 1000000 in
theorem C_s_Lose {b c : Bool} {a : TNet} {vs : List V} {k : Int} {H : Heap} {K : V → Heap → Prop} (hv : (netT b).rd H a vs) (hl : bNet a)
    (h : ∀ us H', Dp (netT c) H (loseR a k).1 us H' → K (.tup [.agg us, .bool (loseR a k).2]) H') : ACalls P n_s_Lose [.agg vs, .int .i64 k] H K := by
  have hv' := hv
  obtain ⟨e, d, w, rfl, g1, g2, g3⟩ := hv
  have hc := net_cell g1 g2 g3
  have hl' := hl
  unfold bNet szn at hl
  apply W_s_Lose
  unfold F_s_Lose
  simp [hc]
  refine C_s_NetOk hv' hl' ?_
  simp [rdS_len g3]
  have no : ¬ (netOk a ∧ 0 ≤ k ∧ k ≤ (a.wires.length : Int) - 1) → ∀ us H', Dp (netT c) H a us H' → K (.tup [.agg us, .bool false]) H' := fun q us H' hd => by
    have e1 : loseR a k = (a, false) := by unfold loseR; rw [if_neg q]
    rw [e1] at h
    exact h us H' hd
  refine ⟨fun q => ?_, fun q => ?_⟩
  · refine C_s_l08Copy (c := c) hv' hl' fun us H3 hus => ?_
    have hus' := hus
    obtain ⟨e, d, w, H1, H2, rfl, h1, h2, h3⟩ := net_dp hus
    have hcc := And.intro h1.cell (And.intro (dpS_cell h2) (dpS_cell h3))
    simp [stz_eq, putCells, hcc]
    exact Ret.of (no (fun x => q x.1) _ _ hus')
  · rw [i64_in (by omega) (by omega)]
    refine C_s_l01In ?_
    simp
    refine ⟨fun hh => ?_, fun q1 q2 => ?_⟩
    · refine C_s_l08Copy (c := c) hv' hl' fun us H3 hus => ?_
      have hus' := hus
      obtain ⟨e, d, w, H1, H2, rfl, h1, h2, h3⟩ := net_dp hus
      have hcc := And.intro h1.cell (And.intro (dpS_cell h2) (dpS_cell h3))
      simp [stz_eq, putCells, hcc]
      exact Ret.of (no (fun x => by have := x.2; omega) _ _ hus')
    · obtain ⟨j, rfl⟩ : ∃ j : Nat, k = j := ⟨k.toNat, by omega⟩
      have e1 : loseR a j = (offN a j, true) := by unfold loseR; rw [if_pos ⟨q, q1, q2⟩]; simp
      rw [e1] at h
      refine C_s_l08Off (c := c) hv' hl' (by omega) fun us ms Hm H' hsm hm hus => ?_
      have hus' := hus
      obtain ⟨e, d, w, H1, H2, rfl, h1, h2, h3⟩ := net_dp hus
      have hcc := And.intro h1.cell (And.intro (dpS_cell h2) (dpS_cell h3))
      obtain ⟨r, rfl, l, s, rfl, w1, w2⟩ := hm
      have hlc := lsa_cell w1 w2
      simp [aExtract, stz_eq, putCells, hcc, hlc]
      exact Ret.dp (f := fun us => V.tup [.agg us, .bool true]) hus' hsm h
set_option maxHeartbeats 1000000 in
theorem C_i_Lose {c : Bool} {a : TNet} {vs : List V} {k : Int} {H : Heap} {K : V → Heap → Prop} (hv : (netT false).rd H a vs) (hl : bNet a)
    (h : ∀ us H', Dp (netT c) H (loseR a k).1 us H' → K (.tup [.agg us, .bool (loseR a k).2]) H') : ACalls P n_i_Lose [.agg vs, .int .i64 k] H K := by
  have hv' := hv
  obtain ⟨e0, d0, w0, rfl, g1, g2, g3⟩ := hv
  have hc := net_cell g1 g2 g3
  have hl' := hl
  unfold bNet szn at hl
  apply W_i_Lose
  unfold F_i_Lose
  simp [hc]
  refine C_i_ownNet (c := c) hv' hl' fun us H3 hus => ?_
  have hus' := hus
  obtain ⟨e, d, w, H1, H2, rfl, h1, h2, h3⟩ := net_dp hus
  have hcc := And.intro h1.cell (And.intro (dpS_cell h2) (dpS_cell h3))
  simp [stz_eq, putCells, hcc, hc]
  refine C_i_isMsg ((netT false).mono hv' hus.sub) hl' ?_
  simp
  unfold loseR at h
  refine ⟨fun hh => ?_, fun q q1 q2 => ?_⟩
  · have hno : ¬ (netOk a ∧ 0 ≤ k ∧ k ≤ (a.wires.length : Int) - 1) := fun x => by
      rcases hh with hh | hh
      · exact hh x.1
      · have := x.2; omega
    rw [if_neg hno] at h
    exact Ret.of (h _ _ hus')
  · rw [if_pos ⟨q, q1, q2⟩] at h
    obtain ⟨j, rfl⟩ : ∃ j : Nat, k = j := ⟨k.toNat, by omega⟩
    rw [i64_in (by omega) (by omega)]
    refine C_Delete_Msg h3 (Abs.sub_refl _) (by omega) (by omega) fun v H' H'' q3 q4 => ?_
    have cv := dpS_cell q3
    simp [stz_eq, putCells, hcc, cv]
    exact Ret.shr (h _ _ (Dp.net (a := offN a j) h1 h2 q3)) rfl q4
end Go.Proofs.YtohicpepcjgnaaaGreat
/-
Contracts: messages are sent; a net in a box of its own.
-/
namespace Go.Proofs.YtohicpepcjgnaaaGreat
open Go Go.Abs Go.Proofs

theorem held_box {H0 H : Heap} {sz : Nat} {rows : List (List V)} {v : V} {o : Nat} (x : Ob) (h : Held H0 sz rows v H) (ho : H o = none) : Held (upd H0 o x) sz rows v (upd H o x) := by
  rcases h with ⟨h1, h2, rfl⟩ | ⟨p, cap, h1, h2, hc, rfl⟩
  · exact .inl ⟨h1, h2, rfl⟩
  · obtain ⟨hne, _⟩ := upd_none ho
    exact .inr ⟨p, cap, by rw [upd_off (Ne.symm hne)]; exact h1, h2, hc, upd_comm _ _ (Ne.symm hne)⟩
theorem chain_box {o : Nat} (x : Ob) : ∀ {es : List Ent} {H0 H : Heap}, Chain H0 es H → H o = none → Chain (upd H0 o x) es (upd H o x)
  | [], _, _, h, _ => by cases h; rfl
  | e :: es, H0, H, ⟨Hm, h1, h2⟩, ho => ⟨_, held_box x h1 (sub_none h2.sub ho), chain_box x h2 ho⟩
theorem chain_rebase {o : Nat} (x : Ob) : ∀ {es : List Ent} {H0 H : Heap}, Chain H0 es H → H0 o ≠ none → Chain (upd H0 o x) es (upd H o x)
  | [], _, _, h, _ => by cases h; rfl
  | e :: es, H0, H, ⟨Hm, h1, h2⟩, ho => ⟨_, h1.rebase x ho, chain_rebase x h2 fun hn => ho (sub_none h1.sub hn)⟩
theorem dp_box {α : Type} {T : Ty α} {H0 H : Heap} {a : α} {vs : List V} {o : Nat} (x : Ob) (h : Dp T H0 a vs H) (ho : H o = none) : Dp T (upd H0 o x) a vs (upd H o x) := by
  obtain ⟨es, h1, h2⟩ := h
  exact ⟨es, h1, chain_box x h2 ho⟩
theorem dp_rebase {α : Type} {T : Ty α} {H0 H : Heap} {a : α} {vs : List V} {o : Nat} (x : Ob) (h : Dp T H0 a vs H) (ho : H0 o ≠ none) : Dp T (upd H0 o x) a vs (upd H o x) := by
  obtain ⟨es, h1, h2⟩ := h
  exact ⟨es, h1, chain_rebase x h2 ho⟩

/-- A net in a box; the messages are one's own. -/
def NW (c : Bool) (H1 : Heap) (o : Nat) (a : TNet) (e d : V) (H : Heap) : Prop := ∃ w, H1 o = none ∧ okV e ∧ okV d ∧ Dp (wiresT c) (upd H1 o ⟨5, [netRow a e d w]⟩) a.wires [w] H
theorem NW.sub {c : Bool} {H1 H : Heap} {o : Nat} {a : TNet} {e d : V} (h : NW c H1 o a e d H) : Abs.sub H1 H := by
  obtain ⟨w, h1, _, _, h2⟩ := h
  exact sub_trans (sub_fresh h1) h2.sub
theorem NW.of {c : Bool} {H2 H : Heap} {o : Nat} {a : TNet} {e d w : V} (h : Dp (wiresT c) H2 a.wires [w] H) (he : okV e) (hd : okV d) (ho : H o = none) : NW c H2 o a e d (upd H o ⟨5, [netRow a e d w]⟩) :=
  ⟨w, sub_none h.sub ho, he, hd, dp_box _ h ho⟩
theorem NW.open {c : Bool} {H1 H : Heap} {o : Nat} {a : TNet} {e d : V} (h : NW c H1 o a e d H) : ∃ w, H o = some ⟨5, [netRow a e d w]⟩ ∧ H1 o = none ∧ Dp (wiresT c) (upd H1 o ⟨5, [netRow a e d w]⟩) a.wires [w] H ∧ okV e ∧ okV d ∧ okV w := by
  obtain ⟨w, h1, he, hd, h2⟩ := h
  exact ⟨w, h2.sub _ _ (upd_eq _ _ _), h1, h2, he, hd, dpS_cell h2⟩
/-- The box is written over. -/
theorem NW.put {c : Bool} {H1 H Hb : Heap} {o : Nat} {a' : TNet} {x : Ob} {e d w : V} (ho : H1 o = none) (he : okV e) (hd : okV d) (h : Dp (wiresT c) (upd H1 o x) a'.wires [w] H) (hs : Abs.sub H Hb) :
    NW c H1 o a' e d (upd H o ⟨5, [netRow a' e d w]⟩) ∧ Abs.sub (upd H o ⟨5, [netRow a' e d w]⟩) (upd Hb o ⟨5, [netRow a' e d w]⟩) := by
  have := dp_rebase (o := o) ⟨5, [netRow a' e d w]⟩ h (by rw [upd_eq]; simp)
  rw [upd_upd] at this
  exact ⟨⟨w, ho, he, hd, this⟩, sub_upd2 hs⟩
/-- The box is left. -/
theorem NW.leave {c : Bool} {H H1 H2 Hn : Heap} {o : Nat} {a : TNet} {e d w : V} (h1 : Held H 3 (a.up.es.map enEdge) e H1) (h2 : Dp (dbsT c) H1 a.dbs [d] H2) (ho : H2 o = none) (h : Dp (wiresT c) (upd H2 o ⟨5, [netRow a e d w]⟩) a.wires [w] Hn) :
    ∃ H', Dp (netT c) H a (netRow a e d w) H' ∧ Abs.sub H' Hn := by
  obtain ⟨H', q1, q2⟩ := h.shrink (sub_fresh ho)
  exact ⟨H', Dp.net h1 h2 q1, q2⟩

def sendN (a : TNet) (x y : Int) (l : TLsa) : TNet := if a.wires.length < 400 then ⟨a.up, a.dbs, a.wires ++ [(x, y, l)], a.lost⟩ else ⟨a.up, a.dbs, a.wires, min 1000000 (a.lost + 1)⟩
set_option maxHeartbeats 1000000 in
theorem C_s_l08Send {b c : Bool} {a : TNet} {x y : Int} {l : TLsa} {vs : List V} {o : Nat} {e d : V} {H0 Hn H : Heap} {K : V → Heap → Prop} (hn : NW c H0 o a e d Hn) (hs : Abs.sub Hn H) (hv : (lsaT b).rd H l vs) (hl : l.links.length ≤ 1048576 ∧ l.stubs.length ≤ 1048576) (hw : a.wires.length ≤ 400) (hd : 0 ≤ a.lost ∧ a.lost ≤ 1000000)
    (h : ∀ H' Hn', NW c H0 o (sendN a x y l) e d Hn' → Abs.sub Hn' H' → K (.tup []) H') : ACalls P n_s_l08Send [.ptr o 0 0, .int .i64 x, .int .i64 y, .agg vs] H K := by
  obtain ⟨w, hbox, ho, h3, ce, cd, cw⟩ := hn.open
  have hbH := hs _ _ hbox
  have hB : Abs.sub (upd H0 o ⟨5, [netRow a e d w]⟩) H := sub_trans h3.sub hs
  have hlw : lenOf w = some a.wires.length := rdS_len h3.rd
  have hv' := hv
  obtain ⟨q1, q2, rfl, q3, q4⟩ := hv
  have hcc := lsa_cell q3 q4
  apply W_s_l08Send
  unfold F_s_l08Send
  simp [hcc, aNil, aField_box, aLd_at hbH, ce, cd, cw, hlw]
  unfold sendN at h
  refine ⟨fun h4 => ?_, fun h4 => ?_⟩
  · rw [if_neg (by omega)] at h
    refine ⟨fun h5 => ?_, fun h5 => ?_⟩
    · rw [i64_in (by omega) (by omega), aSt_at hbH]
      simp [stz_eq, putCells]
      have e1 : min 1000000 (a.lost + 1) = a.lost + 1 := by omega
      rw [e1] at h
      obtain ⟨g1, g2⟩ := NW.put (a' := ⟨a.up, a.dbs, a.wires, a.lost + 1⟩) (e := e) (d := d) (w := w) (Hb := H) ho ce cd h3 hs
      exact Ret.of (h _ _ g1 g2)
    · have e1 : min 1000000 (a.lost + 1) = a.lost := by omega
      rw [e1] at h
      exact Ret.of (h _ _ hn hs)
  · rw [if_pos (by omega)] at h
    refine ⟨upd H0 o ⟨5, [netRow a e d w]⟩, hB, ?_⟩
    simp [aLd_at (upd_eq H0 o _), cw]
    refine C_s_l05Copy (b := b) (c := c) hv' hl fun us Hx hus => ⟨sub_trans hB hus.sub, ?_⟩
    obtain ⟨Hy, hus2, hsy⟩ := hus.shrink hs
    have hm := Dp.msg (x := x) (y := y) hus2
    obtain ⟨l', s', Hm, rfl, w1, w2⟩ := lsa_dp hus
    have c1 := w1.cell
    have c2 := w2.cell
    simp [bsl_one, fill_msg, c1, c2]
    intro o2 ho2
    refine ⟨sub_trans (sub_trans hB hus.sub) (sub_fresh ho2), ?_⟩
    refine dpS_app (T := msgT c) h3 hm (sub_trans hsy (sub_fresh ho2)) (by omega) fun v' H' H'' ho' hs' => ?_
    have cv := dpS_cell ho'
    have hB2 : Abs.sub (upd H0 o ⟨5, [netRow a e d w]⟩) H' := sub_trans ho'.sub hs'
    refine ⟨hB2, noHeap, none_sub _, ?_⟩
    rw [aSt_at (hB2 _ _ (upd_eq _ _ _))]
    simp [stz_eq, putCells, cv]
    obtain ⟨g1, g2⟩ := NW.put (a' := ⟨a.up, a.dbs, a.wires ++ [(x, y, l)], a.lost⟩) (e := e) (d := d) (w := v') (Hb := H') ho ce cd ho' hs'
    exact ⟨none_sub _, Ret.of (h _ _ g1 g2)⟩
set_option maxHeartbeats 1000000 in
theorem C_p_i_Net_send {c : Bool} {a : TNet} {x y : Int} {l : TLsa} {vs : List V} {o : Nat} {e d : V} {H0 Hn H : Heap} {K : V → Heap → Prop} (hn : NW c H0 o a e d Hn) (hs : Abs.sub Hn H) (hv : (lsaT false).rd H l vs) (hl : l.links.length ≤ 1048576 ∧ l.stubs.length ≤ 1048576) (hw : a.wires.length ≤ 400) (hd : 0 ≤ a.lost ∧ a.lost ≤ 1000000)
    (h : ∀ H' Hn', NW c H0 o (sendN a x y l) e d Hn' → Abs.sub Hn' H' → K (.tup []) H') : ACalls P n_p_i_Net_send [.ptr o 0 0, .int .i64 x, .int .i64 y, .agg vs] H K := by
  obtain ⟨w, hbox, ho, h3, ce, cd, cw⟩ := hn.open
  have hbH := hs _ _ hbox
  have hB : Abs.sub (upd H0 o ⟨5, [netRow a e d w]⟩) H := sub_trans h3.sub hs
  have hlw : lenOf w = some a.wires.length := rdS_len h3.rd
  have hv' := hv
  obtain ⟨q1, q2, rfl, q3, q4⟩ := hv
  have hcc := lsa_cell q3 q4
  apply W_p_i_Net_send
  unfold F_p_i_Net_send
  simp [hcc, aNil, aField_box, aLd_at hbH, ce, cd, cw, hlw]
  unfold sendN at h
  refine ⟨fun h4 => ?_, fun h4 => ?_⟩
  · rw [if_pos (by omega)] at h
    refine ⟨upd H0 o ⟨5, [netRow a e d w]⟩, hB, ?_⟩
    simp [aLd_at (upd_eq H0 o _), cw]
    refine C_i_ownLsa (c := c) hv' hl fun us Hx hus => ⟨sub_trans hB hus.sub, ?_⟩
    obtain ⟨Hy, hus2, hsy⟩ := hus.shrink hs
    have hm := Dp.msg (x := x) (y := y) hus2
    obtain ⟨l', s', Hm, rfl, w1, w2⟩ := lsa_dp hus
    have c1 := w1.cell
    have c2 := w2.cell
    simp [bsl_one, fill_msg, c1, c2]
    intro o2 ho2
    refine ⟨sub_trans (sub_trans hB hus.sub) (sub_fresh ho2), ?_⟩
    refine dpS_app (T := msgT c) h3 hm (sub_trans hsy (sub_fresh ho2)) (by omega) fun v' H' H'' ho' hs' => ?_
    have cv := dpS_cell ho'
    have hB2 : Abs.sub (upd H0 o ⟨5, [netRow a e d w]⟩) H' := sub_trans ho'.sub hs'
    refine ⟨hB2, noHeap, none_sub _, ?_⟩
    rw [aSt_at (hB2 _ _ (upd_eq _ _ _))]
    simp [stz_eq, putCells, cv]
    obtain ⟨g1, g2⟩ := NW.put (a' := ⟨a.up, a.dbs, a.wires ++ [(x, y, l)], a.lost⟩) (e := e) (d := d) (w := v') (Hb := H') ho ce cd ho' hs'
    exact ⟨none_sub _, Ret.of (h _ _ g1 g2)⟩
  · rw [if_neg (by omega)] at h
    rw [i64_in (by omega) (by omega), aMins_two]
    simp
    rw [aSt_at hbH]
    simp [stz_eq, putCells]
    obtain ⟨g1, g2⟩ := NW.put (a' := ⟨a.up, a.dbs, a.wires, min 1000000 (a.lost + 1)⟩) (e := e) (d := d) (w := w) (Hb := H) ho ce cd h3 hs
    exact Ret.of (h _ _ g1 g2)

def sendsN (x y : Int) (ls : List TLsa) (a : TNet) : TNet := ls.foldl (fun a l => sendN a x y l) a
structure Fits (a b : TNet) : Prop where
  up : b.up = a.up
  dbs : b.dbs = a.dbs
  wires : a.wires.length ≤ 400 → b.wires.length ≤ 400
  lost : 0 ≤ a.lost ∧ a.lost ≤ 1000000 → 0 ≤ b.lost ∧ b.lost ≤ 1000000
theorem Fits.refl (a : TNet) : Fits a a := ⟨rfl, rfl, id, id⟩
theorem Fits.trans {a b c : TNet} (h : Fits a b) (k : Fits b c) : Fits a c := ⟨k.up.trans h.up, k.dbs.trans h.dbs, fun x => k.wires (h.wires x), fun x => k.lost (h.lost x)⟩
theorem send_fits (a : TNet) (x y : Int) (l : TLsa) : Fits a (sendN a x y l) := by
  unfold sendN
  split
  · exact ⟨rfl, rfl, fun _ => by simp; omega, id⟩
  · exact ⟨rfl, rfl, id, fun h => by simp; omega⟩
theorem sends_fits (x y : Int) : ∀ (ls : List TLsa) (a : TNet), Fits a (sendsN x y ls a)
  | [], a => Fits.refl a
  | l :: ls, a => (send_fits a x y l).trans (sends_fits x y ls _)
theorem sends_succ {x y : Int} {ls : List TLsa} {a : TNet} {i : Nat} (h : i < ls.length) : sendsN x y (ls.take (i + 1)) a = sendN (sendsN x y (ls.take i) a) x y ls[i] := by
  unfold sendsN
  rw [List.take_succ_eq_append_getElem h, List.foldl_append]
  rfl
def tellN (a : TNet) (x y : Int) : TNet := sendsN x y (a.dbs.getD x.toNat []) a

def InvTell (c : Bool) (H0 : Heap) (o : Nat) (e d : V) (x y : Int) (ls : List TLsa) (a : TNet) (m : Nat) (ys : List V) (Hc : Heap) : Prop :=
  ∃ i Hn', i ≤ ls.length ∧ ys = [.int .i64 (i : Nat)] ∧ m = ls.length - i ∧ NW c H0 o (sendsN x y (ls.take i) a) e d Hn' ∧ Abs.sub Hn' Hc
set_option maxHeartbeats 1000000 in
theorem C_s_l08Tell {c : Bool} {a : TNet} {x y : Int} {o : Nat} {e d : V} {H0 Hn H : Heap} {K : V → Heap → Prop} (hn : NW c H0 o a e d Hn) (hs : Abs.sub Hn H) (hdb : (dbsT c).rd H0 a.dbs [d]) (hx : 0 ≤ x ∧ x.toNat < a.dbs.length) (hl : ∀ db ∈ a.dbs, szd db ≤ 1048576) (hw : a.wires.length ≤ 400) (hd : 0 ≤ a.lost ∧ a.lost ≤ 1000000)
    (h : ∀ H' Hn', NW c H0 o (tellN a x y) e d Hn' → Abs.sub Hn' H' → K (.tup []) H') : ACalls P n_s_l08Tell [.ptr o 0 0, .int .i64 x, .int .i64 y] H K := by
  have hls : a.dbs.getD x.toNat [] = a.dbs[x.toNat]'hx.2 := by rw [List.getD_eq_getElem?_getD, List.getElem?_eq_getElem hx.2]; rfl
  have hbd := hl _ (List.getElem_mem hx.2)
  unfold tellN at h
  rw [hls] at h
  apply W_s_l08Tell
  unfold F_s_l08Tell
  simp
  generalize hlsd : a.dbs[x.toNat]'hx.2 = ls at *
  have hbl : ls.length ≤ 1048576 := by have : szd ls = ls.length + sumF szl ls := rfl; omega
  refine ⟨InvTell c H0 o e d x y ls a, ⟨ls.length, Shr.of ⟨0, Hn, by omega, rfl, by omega, hn, hs⟩⟩, ?_⟩
  rintro m ys Hc ⟨i, Hn', hi, rfl, rfl, hn', hs'⟩
  obtain ⟨w, hbox, ho, h3, ce, cd, cw⟩ := hn'.open
  have hbH := hs' _ _ hbox
  have hsub : Abs.sub H0 Hc := sub_trans hn'.sub hs'
  have hf := sends_fits x y (ls.take i) a
  simp [aNil, aField_box, aLd_at hbH, cd]
  refine rdS_idx ((dbsT c).mono hdb hsub) hx.1 hx.2 fun p row hp hr => ?_
  rw [hlsd] at hr
  have hr' := hr
  obtain ⟨u, rows, rfl, _, _⟩ := hr
  have cu := rdS_cell hr'
  refine hp.fld fun q hq => ?_
  rw [hq.ld]
  simp [cu, rdS_len hr']
  refine ⟨fun hlt => ?_, fun hge => ?_⟩
  · refine rdS_idx ((dbsT c).mono hdb hsub) hx.1 hx.2 fun p row hp hr => ?_
    rw [hlsd] at hr
    have hr2 := hr
    obtain ⟨u2, rows, rfl, _, _⟩ := hr
    have cu2 := rdS_cell hr2
    refine hp.fld fun q hq => ?_
    rw [hq.ld]
    simp [cu2]
    refine rdS_idx hr2 (by omega) (by simpa using hlt) fun p row hp hr => ?_
    simp only [Int.toNat_natCast] at hr
    have hr3 := hr
    obtain ⟨l, s, rfl, g1, g2⟩ := hr
    rw [hp.ld]
    simp
    have hz := le_sumF (f := szl) hlt
    have hz1 : szl ls[i] = ls[i].links.length + ls[i].stubs.length := rfl
    have hz2 : szd ls = ls.length + sumF szl ls := rfl
    refine C_s_l08Send (b := c) hn' hs' hr3 (by omega) (hf.wires hw) (hf.lost hd) fun H' Hn2 g3 g4 => ?_
    rw [i64_in (by omega) (by omega)]
    refine ⟨ls.length - (i + 1), by omega, Shr.of ⟨i + 1, Hn2, by omega, by simp, rfl, ?_, g4⟩⟩
    rw [sends_succ hlt]
    exact g3
  · have : i = ls.length := by omega
    subst this
    rw [List.take_length] at hn'
    exact Ret.of (h _ _ hn' hs')
end Go.Proofs.YtohicpepcjgnaaaGreat
