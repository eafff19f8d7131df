/-
Contracts: a message twice; all send all.
-/
import Derived.Test.YtohicpepcjgnaaaGreatNtM
set_option linter.all false
namespace Go.Proofs.YtohicpepcjgnaaaGreat
open Go Go.Abs Go.Proofs

theorem sumF_bound {α : Type} {f : α → Nat} {c : Nat} : ∀ {xs : List α}, (∀ x ∈ xs, f x ≤ c) → sumF f xs ≤ c * xs.length
  | [], _ => by simp [sumF]
  | a :: xs, h => by
    have h1 := h a (by simp)
    have h2 := sumF_bound (xs := xs) fun x hx => h x (List.mem_cons_of_mem _ hx)
    have e : sumF f (a :: xs) = f a + sumF f xs := by simp [sumF]
    rw [e, List.length_cons, Nat.mul_add]
    omega
structure Small (a : TNet) : Prop where
  es : a.up.es.length ≤ 60
  n : a.dbs.length ≤ 6
  db : ∀ db ∈ a.dbs, db.length ≤ 10 ∧ ∀ l ∈ db, szl l ≤ 16
  ws : a.wires.length ≤ 400
  w : ∀ m ∈ a.wires, szl m.2.2 ≤ 16
  lost : 0 ≤ a.lost ∧ a.lost ≤ 1000000
theorem lsa_small {l : TLsa} (h : lsaOk l) : szl l ≤ 16 := by
  have : szl l = l.links.length + l.stubs.length := rfl
  have := h.2.2.2.1
  have := h.2.2.2.2.1
  omega
theorem small_of {a : TNet} (h : netOk a) : Small a := by
  obtain ⟨h1, h2, h3, h4, h5, h6, h7, h8⟩ := h
  refine ⟨h1.2.1, by omega, fun db hd => ?_, h5, fun m hm => ?_, h6⟩
  · obtain ⟨i, hi, rfl⟩ := List.mem_iff_getElem.1 hd
    refine ⟨db_len (h7 i hi), fun l hl => ?_⟩
    obtain ⟨j, hj, rfl⟩ := List.mem_iff_getElem.1 hl
    exact lsa_small ((h7 i hi).1 j hj)
  · obtain ⟨i, hi, rfl⟩ := List.mem_iff_getElem.1 hm
    exact lsa_small (h8 i hi).2.2.2
theorem small_szd {a : TNet} (h : Small a) : ∀ db ∈ a.dbs, szd db ≤ 170 := fun db hd => by
  obtain ⟨h1, h2⟩ := h.db db hd
  have := sumF_bound h2
  have e : szd db = db.length + sumF szl db := rfl
  omega
theorem small_sz {a : TNet} (h : Small a) : bNet a := by
  have h1 := sumF_bound (small_szd h)
  have h2 := sumF_bound (f := szw) h.w
  have := h.es
  have := h.n
  have := h.ws
  unfold bNet szn
  omega
theorem small_send {a : TNet} {x y : Int} {l : TLsa} (h : Small a) (hl : szl l ≤ 16) : Small (sendN a x y l) := by
  have hf := send_fits a x y l
  refine ⟨by rw [hf.up]; exact h.es, by rw [hf.dbs]; exact h.n, by rw [hf.dbs]; exact h.db, hf.wires h.ws, ?_, hf.lost h.lost⟩
  unfold sendN
  split
  · intro m hm
    rcases List.mem_append.1 hm with hm | hm
    · exact h.w m hm
    · simp at hm; subst hm; exact hl
  · exact h.w
theorem small_sends {x y : Int} : ∀ {ls : List TLsa} {a : TNet}, Small a → (∀ l ∈ ls, szl l ≤ 16) → Small (sendsN x y ls a)
  | [], _, h, _ => h
  | l :: ls, a, h, hl => small_sends (ls := ls) (small_send h (hl l (by simp))) fun l' h' => hl l' (List.mem_cons_of_mem _ h')
theorem small_tell {a : TNet} {x y : Int} (h : Small a) : Small (tellN a x y) := by
  refine small_sends h fun l hl => ?_
  rw [List.getD_eq_getElem?_getD] at hl
  by_cases hx : x.toNat < a.dbs.length
  · rw [List.getElem?_eq_getElem hx] at hl
    exact (h.db _ (List.getElem_mem hx)).2 l hl
  · rw [List.getElem?_eq_none (by omega)] at hl
    simp at hl
def syncN (es : List TEdge) (a : TNet) : TNet := es.foldl (fun a e => tellN a e.1 e.2.1) a
theorem sync_succ {es : List TEdge} {a : TNet} {i : Nat} (h : i < es.length) : syncN (es.take (i + 1)) a = tellN (syncN (es.take i) a) es[i].1 es[i].2.1 := by
  unfold syncN
  rw [List.take_succ_eq_append_getElem h, List.foldl_append]
  rfl
theorem tell_fits (a : TNet) (x y : Int) : Fits a (tellN a x y) := sends_fits x y _ a
theorem sync_fits : ∀ (es : List TEdge) (a : TNet), Fits a (syncN es a)
  | [], a => Fits.refl a
  | e :: es, a => (tell_fits a e.1 e.2.1).trans (sync_fits es _)
theorem small_sync : ∀ {es : List TEdge} {a : TNet}, Small a → Small (syncN es a)
  | [], _, h => h
  | e :: es, _, h => small_sync (es := es) (small_tell h)
def doubleR (a : TNet) (k : Int) : TNet × Bool := if netOk a ∧ 0 ≤ k ∧ k ≤ (a.wires.length : Int) - 1 then ((match a.wires[k.toNat]? with | some m => sendN a m.1 m.2.1 m.2.2 | none => a), true) else (a, false)
theorem doubleR_sz {a : TNet} {k : Int} (h : bNet a) : bNet (doubleR a k).1 := by
  unfold doubleR
  split
  · rename_i hh
    have hs := small_of hh.1
    split
    · rename_i m hm
      exact small_sz (small_send hs (hs.w _ (List.mem_of_getElem? hm)))
    · exact h
  · exact h
def syncR (a : TNet) : TNet × Bool := if netOk a then (syncN a.up.es a, true) else (a, false)
theorem syncR_sz {a : TNet} (h : bNet a) : bNet (syncR a).1 := by
  unfold syncR
  split
  · rename_i hh
    exact small_sz (small_sync (small_of hh))
  · exact h

set_option maxHeartbeats 2000000 in
theorem C_i_Double {c : Bool} {a : TNet} {vs : List V} {k : Int} {H : Heap} {K : V → Heap → Prop} (hv : (netT false).rd H a vs) (hl : bNet a)
    (h : ∀ us H', Dp (netT c) H (doubleR a k).1 us H' → K (.tup [.agg us, .bool (doubleR a k).2]) H') (hcf : c = false := by rfl) : ACalls P n_i_Double [.agg vs, .int .i64 k] H K := by
  subst hcf
  have hv' := hv
  obtain ⟨e0, d0, w0, rfl, g1, g2, g3⟩ := hv
  have hc := net_cell g1 g2 g3
  have hl' := hl
  unfold bNet szn at hl
  apply W_i_Double
  unfold F_i_Double
  simp [hc]
  refine C_i_ownNet (c := false) hv' hl' fun us H3 hus => ?_
  have hus' := hus
  obtain ⟨e, d, w, H1, H2, rfl, h1, h2, h3⟩ := net_dp hus
  have ce := h1.cell
  have cd := dpS_cell h2
  have cw := dpS_cell h3
  intro o ho
  rw [aSt_at (upd_eq H3 o _)]
  simp [stz_eq, putCells, ce, cd, cw]
  have hnw := NW.of (a := a) h3 ce cd ho
  have ho2 := sub_none h3.sub ho
  have hbox : (upd H3 o ⟨5, [netRow a e d w]⟩) o = some ⟨5, [netRow a e d w]⟩ := upd_eq _ _ _
  have hs : Abs.sub H (upd H3 o ⟨5, [netRow a e d w]⟩) := sub_trans hus'.sub (sub_fresh ho)
  refine C_i_isMsg ((netT false).mono hv' hs) hl' ?_
  simp [aField_box, aLd_at hbox, ce, cd, cw]
  unfold doubleR at h
  refine ⟨fun hh => ?_, fun q q1 q2 => ?_⟩
  · have hno : ¬ (netOk a ∧ 0 ≤ k ∧ k ≤ (a.wires.length : Int) - 1) := fun x => by
      rcases hh with hh | hh
      · exact hh x.1
      · have := x.2; omega
    rw [if_neg hno] at h
    simp [stz_eq, putCells, ce, cd, cw]
    exact Ret.shr (h _ _ hus') rfl (sub_fresh ho)
  · obtain ⟨j, rfl⟩ : ∃ j : Nat, k = j := ⟨k.toNat, by omega⟩
    have hj : j < a.wires.length := by omega
    rw [if_pos ⟨q, q1, q2⟩] at h
    simp only [Int.toNat_natCast, List.getElem?_eq_getElem hj] at h
    refine rdS_at h3.rd (sub_fresh ho) (by omega) (by simpa using hj) fun p row hp hr => ?_
    simp only [Int.toNat_natCast] at hr
    obtain ⟨r, rfl, hr⟩ := hr
    have hr' := hr
    obtain ⟨l, s, rfl, q1, q2⟩ := hr
    have hlc := lsa_cell q1 q2
    rw [hp.ld]
    simp [stz_eq, putCells, hlc]
    have hsm := small_of q
    have hz := hsm.w _ (List.getElem_mem hj)
    have hz' : szl a.wires[j].2.2 = a.wires[j].2.2.links.length + a.wires[j].2.2.stubs.length := rfl
    refine C_p_i_Net_send (l := a.wires[j].2.2) hnw (Abs.sub_refl _) ((lsaT false).mono hr' (sub_fresh ho)) (by omega) hsm.ws hsm.lost fun H' Hn' g4 g5 => ?_
    obtain ⟨w', hbox', _, q3, _, _, cw'⟩ := g4.open
    simp [aLd_at (g5 _ _ hbox'), stz_eq, putCells, ce, cd, cw']
    have hf := send_fits a a.wires[j].1 a.wires[j].2.1 a.wires[j].2.2
    obtain ⟨Hz, q4, q5⟩ := NW.leave (a := sendN a a.wires[j].1 a.wires[j].2.1 a.wires[j].2.2) (e := e) (d := d) (w := w') (by rw [hf.up]; exact h1) (by rw [hf.dbs]; exact h2) ho2 q3
    exact Ret.shr (h _ _ q4) rfl (sub_trans q5 g5)

def InvSy (c : Bool) (H0 : Heap) (o : Nat) (e d : V) (pre : List V) (a : TNet) (m : Nat) (ys : List V) (Hc : Heap) : Prop :=
  ∃ i Hn', i ≤ a.up.es.length ∧ ys = pre ++ [.int .i64 (i : Nat)] ∧ m = a.up.es.length - i ∧ NW c H0 o (syncN (a.up.es.take i) a) e d Hn' ∧ Abs.sub Hn' Hc
theorem edge_in {a : TNet} (h : netOk a) {i : Nat} (hi : i < a.up.es.length) : 0 ≤ a.up.es[i].1 ∧ a.up.es[i].1.toNat < a.dbs.length := by
  have h1 := h.1.2.2 i hi
  have h2 := h.2.2.2.1
  rw [okAt, ed_get hi] at h1
  have := h1.1
  omega
end Go.Proofs.YtohicpepcjgnaaaGreat
