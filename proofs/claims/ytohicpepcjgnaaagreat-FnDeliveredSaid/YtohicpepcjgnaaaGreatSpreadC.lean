/-
Contracts: an advertisement is sent to all neighbours; what a delivery makes of a net, in plain terms.
-/
import Derived.Test.YtohicpepcjgnaaaGreatNetB
set_option linter.all false
namespace Go.Proofs.YtohicpepcjgnaaaGreat
open Go Go.Abs Go.Proofs

def spreadS (x but : Int) (l : TLsa) (a : TNet) (e : TEdge) : TNet := if e.1 = x ∧ e.2.1 ≠ but then sendN a x e.2.1 l else a
def spreadL (x but : Int) (l : TLsa) (es : List TEdge) (a : TNet) : TNet := es.foldl (spreadS x but l) a
def spreadN (a : TNet) (x but : Int) (l : TLsa) : TNet := spreadL x but l a.up.es a
theorem spread_succ {x but : Int} {l : TLsa} {es : List TEdge} {a : TNet} {i : Nat} (h : i < es.length) : spreadL x but l (es.take (i + 1)) a = spreadS x but l (spreadL x but l (es.take i) a) es[i] := by
  unfold spreadL
  rw [List.take_succ_eq_append_getElem h, List.foldl_append]
  rfl
theorem spreadS_fits (x but : Int) (l : TLsa) (a : TNet) (e : TEdge) : Fits a (spreadS x but l a e) := by
  unfold spreadS
  split
  · exact send_fits ..
  · exact Fits.refl a
theorem spreadL_fits (x but : Int) (l : TLsa) : ∀ (es : List TEdge) (a : TNet), Fits a (spreadL x but l es a)
  | [], a => Fits.refl a
  | e :: es, a => (spreadS_fits x but l a e).trans (spreadL_fits x but l es _)
def InvSpr (c : Bool) (H0 : Heap) (o : Nat) (e d : V) (x but : Int) (l : TLsa) (r : List V) (es : List TEdge) (a : TNet) (m : Nat) (ys : List V) (Hc : Heap) : Prop :=
  ∃ i Hn', i ≤ es.length ∧ ys = [.box r, .int .i64 (i : Nat)] ∧ m = es.length - i ∧ NW c H0 o (spreadL x but l (es.take i) a) e d Hn' ∧ Abs.sub Hn' Hc
theorem aField_p2 {off o r c : Nat} : aField off (.ptr o r c) = some (.ptr o r (c + off)) := rfl
set_option maxHeartbeats 2000000 in
theorem C_s_l08Spread {b c : Bool} {a : TNet} {x but : Int} {l : TLsa} {vs : List V} {o : Nat} {e d : V} {H0 Hn H : Heap} {K : V → Heap → Prop} (hn : NW c H0 o a e d Hn) (hs : Abs.sub Hn H) (hes : Rb false H0 3 e (a.up.es.map enEdge)) (hv : (lsaT b).rd H0 l vs) (hl : l.links.length ≤ 1048576 ∧ l.stubs.length ≤ 1048576) (hw : a.wires.length ≤ 400) (hd : 0 ≤ a.lost ∧ a.lost ≤ 1000000) (hle : a.up.es.length ≤ 1048576)
    (h : ∀ H' Hn', NW c H0 o (spreadN a x but l) e d Hn' → Abs.sub Hn' H' → K (.tup []) H') : ACalls P n_s_l08Spread [.ptr o 0 0, .int .i64 x, .int .i64 but, .agg vs] H K := by
  have hv' := hv
  obtain ⟨q1, q2, rfl, q3, q4⟩ := hv
  have hcc := lsa_cell q3 q4
  apply W_s_l08Spread
  unfold F_s_l08Spread
  simp [hcc]
  unfold spreadN at h
  generalize hesd : a.up.es = es at *
  refine ⟨InvSpr c H0 o e d x but l (lsaRow l q1 q2) es a, ⟨es.length, Shr.of ⟨0, Hn, by omega, rfl, by omega, hn, hs⟩⟩, ?_⟩
  rintro m ys Hc ⟨i, Hn', hi, rfl, rfl, hn', hs'⟩
  obtain ⟨w, hbox, ho, h3, ce, cd, cw⟩ := hn'.open
  have hbH := hs' _ _ hbox
  have hsub : Abs.sub H0 Hc := sub_trans hn'.sub hs'
  have hf := spreadL_fits x but l (es.take i) a
  simp [aNil, aField_p2, aLd_at hbH, ce, hes.1.len]
  refine ⟨fun hlt => ?_, fun hge => ?_⟩
  · have hsucc := spread_succ (x := x) (but := but) (l := l) (a := a) hlt
    have hrow : (es.map enEdge).getD i [] = enEdge es[i] := by simp [hlt]
    refine (hes.1.mono hsub).idx (by omega) (by simpa using hlt) fun p hp => ?_
    simp only [Int.toNat_natCast, hrow] at hp
    rw [hp.ld]
    simp [stz_eq, putCells]
    rw [i64_in (n := (i : Int) + 1) (by omega) (by omega)]
    unfold spreadS at hsucc
    have stay : ¬ (es[i].1 = x ∧ es[i].2.1 ≠ but) → ∃ n4, n4 < es.length - i ∧ Shr (InvSpr c H0 o e d x but l (lsaRow l q1 q2) es a n4 [.box (lsaRow l q1 q2), .int .i64 ((i : Int) + 1)]) Hc := fun q => by
      rw [if_neg q] at hsucc
      exact ⟨es.length - (i + 1), by omega, Shr.of ⟨i + 1, Hn', by omega, by simp, rfl, by rw [hsucc]; exact hn', hs'⟩⟩
    refine ⟨fun f1 => ⟨fun f2 => ?_, fun f2 => ?_⟩, fun f1 => ?_⟩
    · rw [if_pos ⟨f1, f2⟩] at hsucc
      refine C_s_l08Send (b := b) hn' hs' ((lsaT b).mono hv' hsub) hl (hf.wires hw) (hf.lost hd) fun H' Hn2 g3 g4 => ?_
      exact ⟨es.length - (i + 1), by omega, Shr.of ⟨i + 1, Hn2, by omega, by simp, rfl, by rw [hsucc]; exact g3, g4⟩⟩
    · exact stay fun hh => hh.2 f2
    · exact stay fun hh => f1 hh.1
  · have : i = es.length := by omega
    subst this
    rw [List.take_length] at hn'
    exact Ret.of (h _ _ hn' hs')
set_option maxHeartbeats 2000000 in
theorem C_p_i_Net_spread {a : TNet} {x but : Int} {l : TLsa} {vs : List V} {o : Nat} {e d : V} {H0 Hn H : Heap} {K : V → Heap → Prop} {c : Bool} (hn : NW c H0 o a e d Hn) (hs : Abs.sub Hn H) (hes : Rb false H0 3 e (a.up.es.map enEdge)) (hl : l.links.length ≤ 1048576 ∧ l.stubs.length ≤ 1048576) (hw : a.wires.length ≤ 400) (hd : 0 ≤ a.lost ∧ a.lost ≤ 1000000) (hle : a.up.es.length ≤ 1048576) (hv : (lsaT false).rd H0 l vs)
    (h : ∀ H' Hn', NW c H0 o (spreadN a x but l) e d Hn' → Abs.sub Hn' H' → K (.tup []) H') : ACalls P n_p_i_Net_spread [.ptr o 0 0, .int .i64 x, .int .i64 but, .agg vs] H K := by
  have hv' := hv
  obtain ⟨q1, q2, rfl, q3, q4⟩ := hv
  have hcc := lsa_cell q3 q4
  obtain ⟨w0, hbox0, _, _, ce, _, _⟩ := hn.open
  have hbH0 := hs _ _ hbox0
  apply W_p_i_Net_spread
  unfold F_p_i_Net_spread
  simp [hcc, aNil, aField_p2, aLd_at hbH0, ce, hes.1.len]
  unfold spreadN at h
  generalize hesd : a.up.es = es at *
  refine ⟨InvSpr c H0 o e d x but l (lsaRow l q1 q2) es a, ⟨es.length, Shr.of ⟨0, Hn, by omega, rfl, by omega, hn, hs⟩⟩, ?_⟩
  rintro m ys Hc ⟨i, Hn', hi, rfl, rfl, hn', hs'⟩
  have hsub : Abs.sub H0 Hc := sub_trans hn'.sub hs'
  have hf := spreadL_fits x but l (es.take i) a
  simp
  refine ⟨fun hlt => ?_, fun hge => ?_⟩
  · have hsucc := spread_succ (x := x) (but := but) (l := l) (a := a) hlt
    have hrow : (es.map enEdge).getD i [] = enEdge es[i] := by simp [hlt]
    refine (hes.1.mono hsub).idx (by omega) (by simpa using hlt) fun p hp => ?_
    simp only [Int.toNat_natCast, hrow] at hp
    rw [hp.ld]
    simp [stz_eq, putCells]
    rw [i64_in (n := (i : Int) + 1) (by omega) (by omega)]
    unfold spreadS at hsucc
    have stay : ¬ (es[i].1 = x ∧ es[i].2.1 ≠ but) → ∃ n4, n4 < es.length - i ∧ Shr (InvSpr c H0 o e d x but l (lsaRow l q1 q2) es a n4 [.box (lsaRow l q1 q2), .int .i64 ((i : Int) + 1)]) Hc := fun q => by
      rw [if_neg q] at hsucc
      exact ⟨es.length - (i + 1), by omega, Shr.of ⟨i + 1, Hn', by omega, by simp, rfl, by rw [hsucc]; exact hn', hs'⟩⟩
    refine ⟨fun f1 => ⟨fun f2 => ?_, fun f2 => ?_⟩, fun f1 => ?_⟩
    · rw [if_pos ⟨f1, f2⟩] at hsucc
      refine C_p_i_Net_send (l := l) hn' hs' ((lsaT false).mono hv' hsub) hl (hf.wires hw) (hf.lost hd) fun H' Hn2 g3 g4 => ?_
      exact ⟨es.length - (i + 1), by omega, Shr.of ⟨i + 1, Hn2, by omega, by simp, rfl, by rw [hsucc]; exact g3, g4⟩⟩
    · exact stay fun hh => hh.2 f2
    · exact stay fun hh => f1 hh.1
  · have : i = es.length := by omega
    subst this
    rw [List.take_length] at hn'
    exact Ret.of (h _ _ hn' hs')

/-! #### what a delivery makes of a net -/
def afterN (a : TNet) (m : TMsg) (code : Int) (db : List TLsa) : TNet :=
  if code = 0 then spreadN a m.2.1 m.1 m.2.2 else if code = 2 then sendN a m.2.1 m.1 (findR db m.2.2.origin).1 else a
def takeN (a : TNet) (m : TMsg) : TNet :=
  if cost a.up.n a.up.es m.1 m.2.1 = 1000000 then a
  else afterN ⟨a.up, a.dbs.set m.2.1.toNat (installR (a.dbs.getD m.2.1.toNat []) m.2.2).1, a.wires, a.lost⟩ m (installR (a.dbs.getD m.2.1.toNat []) m.2.2).2 (installR (a.dbs.getD m.2.1.toNat []) m.2.2).1
def deliverN (a : TNet) (k : Nat) : TNet := match a.wires[k]? with | some m => takeN (offN a k) m | none => a
def deliverR (a : TNet) (k : Int) : TNet × Bool := if netOk a ∧ 0 ≤ k ∧ k ≤ (a.wires.length : Int) - 1 then (deliverN a k.toNat, true) else (a, false)
end Go.Proofs.YtohicpepcjgnaaaGreat
