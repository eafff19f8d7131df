/-
Plain laws: what is known spreads; the invariant of a living net.
-/
import Derived.Test.YtohicpepcjgnaaaGreatFloodP
import Derived.Test.YtohicpepcjgnaaaGreatEdM
set_option linter.all false
namespace Go.Proofs.YtohicpepcjgnaaaGreat
open Go Go.Abs Go.Proofs

/-- What x knows y knows too, or a message tells it. -/
def Cv (a : TNet) (x y : Int) : Prop := ∀ l ∈ db a x, (∃ r ∈ db a y, geO r l) ∨ ∃ m ∈ a.wires, m.1 = x ∧ m.2.1 = y ∧ geO m.2.2 l
def Cov (S : Int → Int → Prop) (a : TNet) : Prop := a.lost ≤ 0 → ∀ e ∈ a.up.es, S e.1 e.2.1 → Cv a e.1 e.2.1
structure Fl (a : TNet) : Prop where
  ok : netOk a
  dy : ∀ x, young (db a x)
  wy : ∀ m ∈ a.wires, m.2.2.age = 0
  src : ∀ m ∈ a.wires, ∃ r ∈ db a m.1, geO r m.2.2
theorem Fl.lost {a : TNet} (h : Fl a) : 0 ≤ a.lost := h.ok.2.2.2.2.2.1.1
theorem Fl.nodes {a : TNet} (h : Fl a) : ∀ e ∈ a.up.es, nodesIn a.up.n e.1 ∧ nodesIn a.up.n e.2.1 ∧ e.1 ≠ e.2.1 := fun e he => by
  obtain ⟨i, hi, rfl⟩ := ed_mem he
  obtain ⟨g1, g2, g3, g4, g5⟩ := h.ok.1.2.2 i hi
  exact ⟨g1, g2, g3⟩
theorem Fl.more {Q : TMsg → Prop} {a b : TNet} (h : Fl a) (m : More Q a b) (hq : ∀ m, Q m → msgOk a.up.n m ∧ m.2.2.age = 0 ∧ ∃ r ∈ db a m.1, geO r m.2.2) : Fl b where
  ok := m.ok (fun x hx => (hq x hx).1) h.ok
  dy x := by unfold db; rw [m.dbs]; exact h.dy x
  wy x hx := by
    rcases m.new x hx with q | q
    · exact h.wy x q
    · exact (hq x q).2.1
  src x hx := by
    unfold db; rw [m.dbs]
    rcases m.new x hx with q | q
    · exact h.src x q
    · exact (hq x q).2.2
theorem Cov.more {Q : TMsg → Prop} {S : Int → Int → Prop} {a b : TNet} (h : Cov S a) (h0 : 0 ≤ a.lost) (m : More Q a b) : Cov S b := fun hb e he hs l hl => by
  have h1 := m.lost h0
  rw [m.up] at he
  unfold db at hl ⊢
  rw [m.dbs] at hl ⊢
  rcases h (h1.2 hb) e he hs l hl with q | ⟨w, q1, q2⟩
  · exact .inl q
  · exact .inr ⟨w, m.keep h0 hb w q1, q2⟩
/-! #### a database takes an advertisement -/
def setDb (a : TNet) (x : Int) (l : TLsa) : TNet := ⟨a.up, a.dbs.set x.toNat (installR (a.dbs.getD x.toNat []) l).1, a.wires, a.lost⟩
theorem db_set {a : TNet} {x y : Int} {l : TLsa} (hx : 0 ≤ x ∧ x.toNat < a.dbs.length) (hy : 0 ≤ y) : db (setDb a x l) y = if y = x then (installR (db a x) l).1 else db a y := by
  unfold db setDb
  simp only
  rw [List.getD_eq_getElem?_getD, List.getElem?_set]
  by_cases e : y = x
  · subst e
    rw [if_pos rfl, if_pos hx.2, if_pos rfl]
    rfl
  · rw [if_neg (by omega), if_neg e, List.getD_eq_getElem?_getD]
theorem dbOk_at {a : TNet} (h : netOk a) {x : Int} (hx : nodesIn a.up.n x) : dbOk (db a x) ∧ x.toNat < a.dbs.length := by
  obtain ⟨h1, h2, h3⟩ := db_at h hx
  exact ⟨by unfold db; rw [h2]; exact h3, h1⟩
theorem db_out {a : TNet} {x : Int} (hx : x < 0) : db a x = db a 0 := by
  unfold db; rw [show x.toNat = (0 : Int).toNat by omega]
theorem set_le {a : TNet} {x : Int} {l : TLsa} (h : Fl a) (hx : nodesIn a.up.n x) (hl : lsaOk l) (ha : l.age = 0) (y : Int) : (∀ r ∈ db a y, ∃ r' ∈ db (setDb a x l) y, geO r' r) := by
  obtain ⟨k1, k2⟩ := dbOk_at h.ok hx
  have key : ∀ z, 0 ≤ z → ∀ r ∈ db a z, ∃ r' ∈ db (setDb a x l) z, geO r' r := fun z hz r hr => by
    rw [db_set ⟨hx.1, k2⟩ hz]
    by_cases e : z = x
    · subst e; rw [if_pos rfl]; exact (inst_facts k1 (h.dy z) hl ha).2.1 r hr
    · rw [if_neg e]; exact ⟨r, hr, geO_refl r⟩
  by_cases hy : 0 ≤ y
  · exact key y hy
  · rw [db_out (by omega), db_out (a := setDb a x l) (by omega)]; exact key 0 (by omega)
theorem set_fl {a : TNet} {x : Int} {l : TLsa} (h : Fl a) (hx : nodesIn a.up.n x) (hl : lsaOk l) (ha : l.age = 0) : Fl (setDb a x l) where
  ok := by
    obtain ⟨k1, k2⟩ := dbOk_at h.ok hx
    exact netOk_db h.ok (install_ok k1)
  dy y := by
    obtain ⟨k1, k2⟩ := dbOk_at h.ok hx
    have key : ∀ z, 0 ≤ z → young (db (setDb a x l) z) := fun z hz => by
      rw [db_set ⟨hx.1, k2⟩ hz]
      split
      · exact inst_young (h.dy x) ha k1 hl
      · exact h.dy z
    by_cases hy : 0 ≤ y
    · exact key y hy
    · rw [db_out (by omega)]; exact key 0 (by omega)
  wy := h.wy
  src m hm := by
    obtain ⟨r, r1, r2⟩ := h.src m hm
    obtain ⟨r', q1, q2⟩ := set_le h hx hl ha m.1 r r1
    exact ⟨r', q1, geO_trans q2 r2⟩
/-- Coverage of all but what is new at x. -/
theorem set_cv {a : TNet} {x : Int} {l : TLsa} (h : Fl a) (hx : nodesIn a.up.n x) (hl : lsaOk l) (ha : l.age = 0) {y z : Int} (hy : 0 ≤ y) (hc : Cv a y z) (r : TLsa) (hr : r ∈ db (setDb a x l) y) (hn : ¬ (y = x ∧ r = l ∧ (installR (db a x) l).2 = 0)) :
    (∃ r' ∈ db (setDb a x l) z, geO r' r) ∨ ∃ m ∈ (setDb a x l).wires, m.1 = y ∧ m.2.1 = z ∧ geO m.2.2 r := by
  obtain ⟨k1, k2⟩ := dbOk_at h.ok hx
  have hold : r ∈ db a y := by
    rw [db_set ⟨hx.1, k2⟩ hy] at hr
    by_cases e : y = x
    · subst e
      rw [if_pos rfl] at hr
      rcases (inst_facts k1 (h.dy y) hl ha).1 r hr with q | q
      · exact q
      · exact absurd ⟨rfl, q⟩ hn
    · rwa [if_neg e] at hr
  rcases hc r hold with ⟨r', q1, q2⟩ | q
  · obtain ⟨r2, p1, p2⟩ := set_le h hx hl ha z r' q1
    exact .inl ⟨r2, p1, geO_trans p2 q2⟩
  · exact .inr q
/-! #### announcements -/
theorem own_code {a : TNet} {x : Int} (h : Fl a) (hx : nodesIn a.up.n x) (hl : lsaOk (ownL a x)) : (installR (db a x) (ownL a x)).2 = 0 := by
  obtain ⟨k1, k2⟩ := dbOk_at h.ok hx
  have ho := offer_lookL k1 (ownL a x)
  rw [inst_of k1 hl]
  have hs : (ownL a x).seq = nextSeq (db a x) x := rfl
  have hor : (ownL a x).origin = x := rfl
  have : offerR (db a x) (ownL a x) = 0 := by
    rw [hor] at ho
    rw [ho]
    cases hk : lookL (db a x) x with
    | none => simp only; rw [if_neg (by show ¬ (0 : Int) = 60; omega)]
    | some r =>
      simp only
      have hr := lookL_org hk
      have hf : findR (db a x) x = (r, true) := by rw [findR_lookL k1, hk]
      have h1 : newerR (ownL a x) r = 1 := by
        rw [newer_one rfl (h.dy x r hr.1)]
        unfold ge
        rw [hs]
        unfold nextSeq
        rw [hf]
        simp
        omega
      rw [if_pos h1]
  rw [if_pos this]
theorem msg_of {a : TNet} {x y : Int} {l : TLsa} (h : Fl a) (he : ∃ e ∈ a.up.es, e.1 = x ∧ e.2.1 = y) (hl : lsaOk l) : msgOk a.up.n (x, y, l) := by
  obtain ⟨e, he, rfl, rfl⟩ := he
  obtain ⟨g1, g2, g3⟩ := h.nodes e he
  exact ⟨g1, g2, g3, hl⟩
theorem ann_fl {S : Int → Int → Prop} {a : TNet} {x : Int} (h : Fl a) (hx : nodesIn a.up.n x) (hl : lsaOk (ownL a x)) : Fl (announceN a x) ∧ (Cov S a → Cov S (announceN a x)) := by
  have hc := own_code h hx hl
  have h1 := set_fl h hx hl (rfl : (ownL a x).age = 0)
  obtain ⟨k1, k2⟩ := dbOk_at h.ok hx
  have hm := (inst_facts k1 (h.dy x) hl (rfl : (ownL a x).age = 0)).2.2.2 hc
  have hdx : ownL a x ∈ db (setDb a x (ownL a x)) x := by rw [db_set ⟨hx.1, k2⟩ hx.1, if_pos rfl]; exact hm
  have ea : announceN a x = spreadL x (-1) (ownL a x) a.up.es (setDb a x (ownL a x)) := rfl
  obtain ⟨m1, m2⟩ := More.spread (x := x) (but := -1) (l := ownL a x) (es := a.up.es) (a := setDb a x (ownL a x))
  rw [ea]
  refine ⟨h1.more m1 ?_, fun hcov => ?_⟩
  · rintro m ⟨e, he, g1, g2, rfl⟩
    exact ⟨msg_of h1 ⟨e, he, g1, rfl⟩ hl, rfl, ownL a x, hdx, geO_refl _⟩
  · intro hb e he hs r hr
    have l1 := m1.lost h1.lost
    have e1 : e ∈ a.up.es := by rw [m1.up] at he; exact he
    have nd := h.nodes e e1
    have hdb : ∀ y, db (spreadL x (-1) (ownL a x) a.up.es (setDb a x (ownL a x))) y = db (setDb a x (ownL a x)) y := fun y => by unfold db; rw [m1.dbs]
    rw [hdb] at hr ⊢
    by_cases hn : e.1 = x ∧ r = ownL a x ∧ (installR (db a x) (ownL a x)).2 = 0
    · refine .inr ⟨_, m2 h1.lost hb e e1 hn.1 (by have := nd.2.1.1; omega), hn.1.symm, rfl, ?_⟩
      rw [hn.2.1]; exact geO_refl _
    · rcases set_cv h hx hl rfl nd.1.1 (hcov (l1.2 hb) e e1 hs) r hr hn with q | ⟨w, q1, q2⟩
      · exact .inl q
      · exact .inr ⟨w, m1.keep h1.lost hb w q1, q2⟩
/-! #### deliveries -/
theorem off_fl {a : TNet} {k : Nat} (h : Fl a) : Fl (offN a k) where
  ok := netOk_off h.ok
  dy := h.dy
  wy m hm := h.wy m (List.mem_of_mem_eraseIdx hm)
  src m hm := h.src m (List.mem_of_mem_eraseIdx hm)
def allS : Int → Int → Prop := fun _ _ => True
theorem mem_erase {α : Type} {xs : List α} {k : Nat} {m w : α} (hk : xs[k]? = some m) (hw : w ∈ xs) : w = m ∨ w ∈ xs.eraseIdx k := by
  obtain ⟨i, hi, rfl⟩ := List.mem_iff_getElem.1 hw
  by_cases e : i = k
  · subst e
    rw [List.getElem?_eq_getElem hi] at hk
    exact .inl (by simpa using hk)
  · refine .inr (List.mem_eraseIdx_iff_getElem.2 ⟨i, hi, e, rfl⟩)
theorem edge_up {a : TNet} {x y : Int} (h : netOk a) (hne : x ≠ y) (hc : ¬ cost a.up.n a.up.es x y = 1000000) : (∃ e ∈ a.up.es, e.1 = x ∧ e.2.1 = y) ∧ ∃ e ∈ a.up.es, e.1 = y ∧ e.2.1 = x := by
  rw [far_iff h.1 hne] at hc
  have : ∃ e ∈ a.up.es, e.1 = x ∧ e.2.1 = y := Classical.byContradiction fun q => hc fun e he hh => q ⟨e, he, hh⟩
  refine ⟨this, ?_⟩
  obtain ⟨e, he, rfl, rfl⟩ := this
  exact ⟨_, pairs_back h.1 h.2.2.1 e he, rfl, rfl⟩
theorem del_fl {a : TNet} {k : Nat} (h : Fl a) : Fl (deliverN a k) ∧ (Cov allS a → Cov allS (deliverN a k)) := by
  unfold deliverN
  cases hk : a.wires[k]? with
  | none => exact ⟨h, id⟩
  | some m =>
    simp only
    have hmem := List.mem_of_getElem? hk
    have h0 := off_fl (k := k) h
    have hmo : msgOk a.up.n m := by
      obtain ⟨i, hi, rfl⟩ := List.mem_iff_getElem.1 hmem
      exact h.ok.2.2.2.2.2.2.2 i hi
    obtain ⟨n1, n2, n3, hl⟩ := hmo
    have hage := h.wy m hmem
    obtain ⟨s1, s2, s3⟩ := h.src m hmem
    unfold takeN
    by_cases hc : cost (offN a k).up.n (offN a k).up.es m.1 m.2.1 = 1000000
    · rw [if_pos hc]
      refine ⟨h0, fun hcov hb e he _ l hl' => ?_⟩
      rcases hcov hb e he trivial l hl' with q | ⟨w, q1, q2, q3, q4⟩
      · exact .inl q
      · rcases mem_erase hk q1 with rfl | q
        · have hc2 : cost a.up.n a.up.es w.1 w.2.1 = 1000000 := hc
          rw [far_iff h.ok.1 n3] at hc2
          exact absurd ⟨q2.symm, q3.symm⟩ (hc2 e he)
        · exact .inr ⟨w, q, q2, q3, q4⟩
    rw [if_neg hc]
    obtain ⟨up1, up2⟩ := edge_up h.ok n3 hc
    have n2' : nodesIn (offN a k).up.n m.2.1 := n2
    obtain ⟨k1, k2⟩ := dbOk_at h0.ok n2'
    have h1 := set_fl h0 n2' hl hage
    obtain ⟨f1, f2, f3, f4⟩ := inst_facts k1 (h0.dy m.2.1) hl hage
    have e1 : (⟨(offN a k).up, (offN a k).dbs.set m.2.1.toNat (installR ((offN a k).dbs.getD m.2.1.toNat []) m.2.2).1, (offN a k).wires, (offN a k).lost⟩ : TNet) = setDb (offN a k) m.2.1 m.2.2 := rfl
    rw [e1]
    have edb : db (setDb (offN a k) m.2.1 m.2.2) m.2.1 = (installR (db (offN a k) m.2.1) m.2.2).1 := by rw [db_set ⟨n2.1, k2⟩ n2.1, if_pos rfl]
    -- coverage of all but what is new
    have cv1 : Cov allS a → (setDb (offN a k) m.2.1 m.2.2).lost ≤ 0 → ∀ e ∈ a.up.es, ∀ r ∈ db (setDb (offN a k) m.2.1 m.2.2) e.1, ¬ (e.1 = m.2.1 ∧ r = m.2.2 ∧ (installR (db (offN a k) m.2.1) m.2.2).2 = 0) → (∃ r' ∈ db (setDb (offN a k) m.2.1 m.2.2) e.2.1, geO r' r) ∨ ∃ w ∈ (setDb (offN a k) m.2.1 m.2.2).wires, w.1 = e.1 ∧ w.2.1 = e.2.1 ∧ geO w.2.2 r := by
      intro hcov hb e he r hr hn
      have nd := h.nodes e he
      by_cases hm2 : e.1 = m.1 ∧ e.2.1 = m.2.1
      · -- along the message
        have hold : r ∈ db a e.1 := by
          rw [db_set ⟨n2.1, k2⟩ nd.1.1, if_neg (by rw [hm2.1]; exact n3)] at hr
          exact hr
        rcases hcov hb e he trivial r hold with ⟨r', q1, q2⟩ | ⟨w, q1, q2, q3, q4⟩
        · obtain ⟨r2, p1, p2⟩ := set_le h0 n2' hl hage e.2.1 r' q1
          exact .inl ⟨r2, p1, geO_trans p2 q2⟩
        · rcases mem_erase hk q1 with rfl | q
          · obtain ⟨r', p1, p2⟩ := f3
            refine .inl ⟨r', ?_, geO_trans p2 q4⟩
            rw [hm2.2, edb]; exact p1
          · exact .inr ⟨w, q, q2, q3, q4⟩
      · have hcv : Cv (offN a k) e.1 e.2.1 := fun l' hl' => by
          rcases hcov hb e he trivial l' hl' with q | ⟨w, q1, q2, q3, q4⟩
          · exact .inl q
          · rcases mem_erase hk q1 with rfl | q
            · exact absurd ⟨q2.symm, q3.symm⟩ hm2
            · exact .inr ⟨w, q, q2, q3, q4⟩
        exact set_cv h0 n2' hl hage nd.1.1 hcv r hr hn
    generalize hcode : (installR ((offN a k).dbs.getD m.2.1.toNat []) m.2.2).2 = code
    have hcode' : (installR (db (offN a k) m.2.1) m.2.2).2 = code := hcode
    unfold afterN
    by_cases c0 : code = 0
    · rw [if_pos c0]
      have hm := f4 (by rw [hcode']; exact c0)
      obtain ⟨m1, m2⟩ := More.spread (x := m.2.1) (but := m.1) (l := m.2.2) (es := a.up.es) (a := setDb (offN a k) m.2.1 m.2.2)
      have ea : spreadN (setDb (offN a k) m.2.1 m.2.2) m.2.1 m.1 m.2.2 = spreadL m.2.1 m.1 m.2.2 a.up.es (setDb (offN a k) m.2.1 m.2.2) := rfl
      rw [ea]
      refine ⟨h1.more m1 ?_, fun hcov => ?_⟩
      · rintro w ⟨e, he, g1, g2, rfl⟩
        exact ⟨msg_of h1 ⟨e, he, g1, rfl⟩ hl, hage, m.2.2, by rw [edb]; exact hm, geO_refl _⟩
      · intro hb e he _ r hr
        have l1 := m1.lost h1.lost
        have he1 : e ∈ a.up.es := by rw [m1.up] at he; exact he
        have hdb : ∀ y, db (spreadL m.2.1 m.1 m.2.2 a.up.es (setDb (offN a k) m.2.1 m.2.2)) y = db (setDb (offN a k) m.2.1 m.2.2) y := fun y => by unfold db; rw [m1.dbs]
        rw [hdb] at hr ⊢
        by_cases hn : e.1 = m.2.1 ∧ r = m.2.2 ∧ (installR (db (offN a k) m.2.1) m.2.2).2 = 0
        · by_cases hb2 : e.2.1 = m.1
          · obtain ⟨r', p1, p2⟩ := set_le h0 n2' hl hage m.1 s1 s2
            refine .inl ⟨r', by rw [hb2]; exact p1, ?_⟩
            rw [hn.2.1]; exact geO_trans p2 s3
          · refine .inr ⟨_, m2 h1.lost hb e he1 hn.1 hb2, hn.1.symm, rfl, ?_⟩
            rw [hn.2.1]; exact geO_refl _
        · rcases cv1 hcov (l1.2 hb) e he1 r hr hn with q | ⟨w, q1, q2⟩
          · exact .inl q
          · exact .inr ⟨w, m1.keep h1.lost hb w q1, q2⟩
    · rw [if_neg c0]
      have cvb : Cov allS a → Cov allS (setDb (offN a k) m.2.1 m.2.2) := fun hcov hb e he _ r hr => cv1 hcov hb e he r hr fun q => c0 (hcode' ▸ q.2.2)
      by_cases c2 : code = 2
      · rw [if_pos c2]
        obtain ⟨q1, q2⟩ := More.send (a := setDb (offN a k) m.2.1 m.2.2) (x := m.2.1) (y := m.1) (l := (findR (installR ((offN a k).dbs.getD m.2.1.toNat []) m.2.2).1 m.2.2.origin).1)
        have hfo : ∃ r, lookL (installR (db (offN a k) m.2.1) m.2.2).1 m.2.2.origin = some r := by
          obtain ⟨r', p1, p2⟩ := f3
          exact ⟨r', (lookL_iff (install_ok k1)).2 ⟨p1, p2.1⟩⟩
        obtain ⟨r, hr⟩ := hfo
        have hf : (findR (installR (db (offN a k) m.2.1) m.2.2).1 m.2.2.origin).1 = r := by rw [findR_lookL (install_ok k1), hr]
        have hf2 : (findR (installR ((offN a k).dbs.getD m.2.1.toNat []) m.2.2).1 m.2.2.origin).1 = r := hf
        rw [hf2] at q1 ⊢
        have hrm := (lookL_org hr).1
        refine ⟨h1.more q1 ?_, fun hcov => (cvb hcov).more h1.lost q1⟩
        rintro w rfl
        refine ⟨msg_of h1 ?_ (mem_okL (install_ok k1) hrm), inst_young (h0.dy m.2.1) hage k1 hl r hrm, r, by rw [edb]; exact hrm, geO_refl _⟩
        exact up2
      · rw [if_neg c2]
        exact ⟨h1, cvb⟩

end Go.Proofs.YtohicpepcjgnaaaGreat
/-
Plain laws: what is known spreads; links, losses, settling, agreement.
-/
namespace Go.Proofs.YtohicpepcjgnaaaGreat
open Go Go.Abs Go.Proofs

theorem tell_fl {a : TNet} {x y : Int} (h : Fl a) (hx : nodesIn a.up.n x) (hy : nodesIn a.up.n y) (hne : x ≠ y) : Fl (tellN a x y) := by
  obtain ⟨m1, _⟩ := More.tell (a := a) (x := x) (y := y)
  refine h.more m1 fun m ⟨q1, q2, q3⟩ => ?_
  obtain ⟨k1, k2⟩ := dbOk_at h.ok hx
  obtain ⟨p, q, l⟩ := m
  simp only at q1 q2 q3
  subst q1; subst q2
  exact ⟨⟨hx, hy, hne, mem_okL k1 q3⟩, h.dy _ _ q3, l, q3, geO_refl l⟩
theorem tell_cov {S : Int → Int → Prop} {a : TNet} {x y : Int} (h : Fl a) (hc : Cov S a) : Cov (fun p q => S p q ∨ (p = x ∧ q = y)) (tellN a x y) := by
  obtain ⟨m1, m2⟩ := More.tell (a := a) (x := x) (y := y)
  intro hb e he hs l hl
  rcases hs with hs | hs
  · exact hc.more h.lost m1 hb e he hs l hl
  · have hl' : l ∈ db a x := by unfold db at hl ⊢; rw [m1.dbs, hs.1] at hl; exact hl
    exact .inr ⟨_, m2 h.lost hb l hl', hs.1.symm, hs.2.symm, geO_refl l⟩
theorem sync_fl {a : TNet} (h : Fl a) : Fl (syncN a.up.es a) ∧ Cov allS (syncN a.up.es a) := by
  obtain ⟨m1, m2⟩ := More.sync (es := a.up.es) (a := a)
  refine ⟨h.more m1 ?_, fun hb e he _ l hl => ?_⟩
  · rintro ⟨p, q, l⟩ ⟨e, he, q1, q2, q3⟩
    simp only at q1 q2 q3
    subst q1; subst q2
    obtain ⟨n1, n2, n3⟩ := h.nodes e he
    obtain ⟨k1, k2⟩ := dbOk_at h.ok n1
    exact ⟨⟨n1, n2, n3, mem_okL k1 q3⟩, h.dy _ _ q3, l, q3, geO_refl l⟩
  · rw [m1.up] at he
    have hl' : l ∈ db a e.1 := by unfold db at hl ⊢; rw [m1.dbs] at hl; exact hl
    exact .inr ⟨_, m2 h.lost hb e he l hl', rfl, rfl, geO_refl l⟩
/-! #### links -/
def butS (x y : Int) (p q : Int) : Prop := ¬ (p = x ∧ q = y) ∧ ¬ (p = y ∧ q = x)
theorem at_fl {a : TNet} {x y c : Int} (h : Fl a) (hx : nodesIn a.up.n x) (hy : nodesIn a.up.n y) (hne : x ≠ y) (hc : 0 ≤ c ∧ c ≤ 1000) : Fl (atN a x y c) ∧ (Cov allS a → Cov (butS x y) (atN a x y c)) := by
  refine ⟨⟨netOk_at h.ok hx hy hne hc, h.dy, h.wy, h.src⟩, fun hcov hb e he hs => hcov hb e ?_ trivial⟩
  have he : e ∈ linked x y c a.up.es := he
  unfold linked at he
  split at he
  · exact (mem_drop.1 (mem_drop.1 he).1).1
  · rcases mem_put.1 he with rfl | ⟨he, _⟩
    · exact absurd ⟨rfl, rfl⟩ hs.2
    · rcases mem_put.1 he with rfl | ⟨he, _⟩
      · exact absurd ⟨rfl, rfl⟩ hs.1
      · exact he
theorem cut_not {x y : Int} {es : List TEdge} : ∀ e ∈ linked x y 0 es, butS x y e.1 e.2.1 := fun e he => by
  unfold linked at he
  rw [if_pos rfl] at he
  have h1 := mem_drop.1 he
  have h2 := mem_drop.1 h1.1
  exact ⟨h2.2, h1.2⟩
theorem setN_fl {a : TNet} {x y c : Int} (h : Fl a) (hx : nodesIn a.up.n x) (hy : nodesIn a.up.n y) (hne : x ≠ y) (hc : 0 ≤ c ∧ c ≤ 1000) (hs : setOk a x y c) : Fl (setN a x y c) ∧ (Cov allS a → Cov allS (setN a x y c)) := by
  obtain ⟨f1, g1⟩ := at_fl h hx hy hne hc
  obtain ⟨f2, g2⟩ := ann_fl (S := butS x y) f1 hx hs.1
  have u2 := up_announce (atN a x y c) x
  obtain ⟨f3, g3⟩ := ann_fl (S := butS x y) f2 (by rw [u2]; exact hy) hs.2
  have u3 := up_announce (announceN (atN a x y c) x) y
  have hg : Cov allS a → Cov (butS x y) (announceN (announceN (atN a x y c) x) y) := fun q => g3 (g2 (g1 q))
  unfold setN telledN
  split
  · rename_i hp
    have n3 : (announceN (announceN (atN a x y c) x) y).up.n = a.up.n := by rw [u3, u2]; rfl
    have t1 := tell_fl f3 (x := x) (y := y) (by rw [n3]; exact hx) (by rw [n3]; exact hy) hne
    have m1 := (More.tell (a := announceN (announceN (atN a x y c) x) y) (x := x) (y := y)).1
    have t2 := tell_fl t1 (x := y) (y := x) (by rw [m1.up, n3]; exact hy) (by rw [m1.up, n3]; exact hx) hne.symm
    refine ⟨t2, fun q => ?_⟩
    have c2 := tell_cov (x := y) (y := x) t1 (tell_cov (x := x) (y := y) f3 (hg q))
    intro hb e he _
    refine c2 hb e he ?_
    unfold butS
    by_cases e1 : e.1 = x ∧ e.2.1 = y
    · exact .inl (.inr e1)
    · by_cases e2 : e.1 = y ∧ e.2.1 = x
      · exact .inr e2
      · exact .inl (.inl ⟨e1, e2⟩)
  · rename_i hp
    have c0 : c = 0 := by omega
    refine ⟨f3, fun q hb e he _ => hg q hb e he ?_⟩
    rw [u3, u2] at he
    subst c0
    exact cut_not e he
theorem setR_fl {a : TNet} {p q c : Int} (h : Fl a) : Fl (setR a p q c).1 ∧ (Cov allS a → Cov allS (setR a p q c).1) := by
  unfold setR
  split
  · rename_i hh
    obtain ⟨m1, m2, m3⟩ := good_mm hh.1
    exact setN_fl h m1 m2 m3 hh.1.2.2.2.2.1 hh.2
  · exact ⟨h, id⟩
theorem annR_fl {a : TNet} {x : Int} (h : Fl a) : Fl (announceR a x).1 ∧ (Cov allS a → Cov allS (announceR a x).1) := by
  unfold announceR
  split
  · rename_i hh
    exact ann_fl h hh.2.1 hh.2.2
  · exact ⟨h, id⟩
theorem delR_fl {a : TNet} {k : Int} (h : Fl a) : Fl (deliverR a k).1 ∧ (Cov allS a → Cov allS (deliverR a k).1) := by
  unfold deliverR
  split
  · exact del_fl h
  · exact ⟨h, id⟩
theorem loseR_fl {a : TNet} {k : Int} (h : Fl a) : Fl (loseR a k).1 := by
  unfold loseR
  split
  · exact off_fl h
  · exact h
theorem douR_fl {a : TNet} {k : Int} (h : Fl a) : Fl (doubleR a k).1 ∧ (Cov allS a → Cov allS (doubleR a k).1) := by
  unfold doubleR
  split
  · cases hk : a.wires[k.toNat]? with
    | none => exact ⟨h, id⟩
    | some m =>
      simp only
      have hmem := List.mem_of_getElem? hk
      obtain ⟨m1, _⟩ := More.send (a := a) (x := m.1) (y := m.2.1) (l := m.2.2)
      refine ⟨h.more m1 ?_, fun hc => hc.more h.lost m1⟩
      rintro w rfl
      obtain ⟨i, hi, he⟩ := List.mem_iff_getElem.1 hmem
      have := h.ok.2.2.2.2.2.2.2 i hi
      rw [he] at this
      exact ⟨this, h.wy m hmem, h.src m hmem⟩
  · exact ⟨h, id⟩
theorem new_fl {n : Int} (hn : 1 ≤ n ∧ n ≤ 6) : Fl (newR n).1 ∧ Cov allS (newR n).1 := by
  unfold newR
  rw [if_pos hn]
  have hdb : ∀ x, db (⟨⟨n, []⟩, List.replicate n.toNat [], [], 0⟩ : TNet) x = [] := fun x => by
    unfold db
    simp only
    rw [List.getD_eq_getElem?_getD, List.getElem?_replicate]
    split <;> rfl
  refine ⟨⟨?_, fun x => by rw [hdb]; intro l hl; simp at hl, fun m hm => by simp at hm, fun m hm => by simp at hm⟩, fun _ e he => by simp at he⟩
  refine ⟨⟨by simp only; omega, by simp, fun i hi => by simp at hi⟩, by simp only; omega, fun i hi => by simp at hi, by simp only [List.length_replicate]; omega, by simp, by simp, fun i hi => ?_, fun i hi => by simp at hi⟩
  simp only [List.getElem_replicate]
  exact ⟨fun j hj => by simp at hj, fun j hj => by simp at hj⟩
/-! #### settling -/
theorem settle_fl : ∀ {f : Nat} {a : TNet}, Fl a → Fl (settleF f a).1 ∧ (Cov allS a → Cov allS (settleF f a).1) ∧ ((settleF f a).2 < f → (settleF f a).1.wires.length = 0)
  | 0, _, h => ⟨h, id, fun q => absurd q (by omega)⟩
  | f + 1, a, h => by
    by_cases hx : a.wires.length = 0
    · rw [settle_stop (.inl hx)]; exact ⟨h, id, fun _ => hx⟩
    · rw [settle_step hx]
      obtain ⟨d1, d2⟩ := del_fl (k := 0) h
      obtain ⟨i1, i2, i3⟩ := settle_fl (f := f) d1
      exact ⟨i1, fun q => i2 (d2 q), fun q => i3 (by simp only at q; omega)⟩
/-! #### agreement -/
def Le (a : TNet) (x y : Int) : Prop := ∀ l ∈ db a x, ∃ r ∈ db a y, geO r l
theorem Le.refl (a : TNet) (x : Int) : Le a x x := fun l hl => ⟨l, hl, geO_refl l⟩
theorem Le.trans {a : TNet} {x y z : Int} (h : Le a x y) (k : Le a y z) : Le a x z := fun l hl => by
  obtain ⟨r, r1, r2⟩ := h l hl
  obtain ⟨s, s1, s2⟩ := k r r1
  exact ⟨s, s1, geO_trans s2 r2⟩
theorem le_keys {a : TNet} {x y : Int} (hx : dbOk (db a x)) (hy : dbOk (db a y)) (h : Le a x y) (k : Le a y x) : dbSum (db a x) = dbSum (db a y) ∧ (db a x).length = (db a y).length := by
  refine sum_keys (keys_eq hx hy fun o => ?_)
  have one : ∀ {u v : Int}, dbOk (db a u) → dbOk (db a v) → Le a u v → Le a v u → ∀ l, lookL (db a u) o = some l → ∃ r, lookL (db a v) o = some r ∧ keyL r = keyL l := fun {u v} hu hv h1 h2 l hl => by
    obtain ⟨l1, l2⟩ := lookL_org hl
    obtain ⟨r, r1, r2⟩ := h1 l l1
    obtain ⟨s, s1, s2⟩ := h2 r r1
    have hs := (lookL_iff hu).2 ⟨s1, show s.origin = o by rw [s2.1, r2.1, l2]⟩
    rw [hl] at hs
    obtain rfl : l = s := by simpa using hs
    refine ⟨r, (lookL_iff hv).2 ⟨r1, by rw [r2.1, l2]⟩, ?_⟩
    unfold keyL
    have e1 := r2.1
    have : lsaSum r = lsaSum l := by
      have q1 := r2.2
      have q2 := s2.2
      unfold ge at q1 q2
      omega
    rw [e1, this]
  cases hl : lookL (db a x) o with
  | none =>
    cases hr : lookL (db a y) o with
    | none => rfl
    | some r =>
      obtain ⟨l, q, _⟩ := one hy hx k h r hr
      rw [hl] at q; cases q
  | some l =>
    obtain ⟨r, q1, q2⟩ := one hx hy h k l hl
    rw [q1]
    simp [q2]
theorem way_both {a : TNet} (h : ∀ e ∈ a.up.es, Le a e.1 e.2.1 ∧ Le a e.2.1 e.1) {x : Int} : ∀ {y m : Int}, Way a.up.es x y m → Le a x y ∧ Le a y x := by
  intro y m hw
  induction hw with
  | nil => exact ⟨Le.refl a _, Le.refl a _⟩
  | snoc _ he hx ih =>
    obtain ⟨h1, h2⟩ := h _ he
    rw [hx] at h1 h2
    exact ⟨ih.1.trans h1, h2.trans ih.2⟩
theorem agree_fl {a : TNet} (h : Fl a) (hc : Cov allS a) (hl : a.lost ≤ 0) (hw : a.wires.length = 0) : agreeR a := by
  have hw0 : a.wires = [] := List.eq_nil_of_length_eq_zero hw
  have one : ∀ e ∈ a.up.es, Le a e.1 e.2.1 := fun e he l hl' => by
    rcases hc hl e he trivial l hl' with q | ⟨m, q, _⟩
    · exact q
    · rw [hw0] at q; simp at q
  have both : ∀ e ∈ a.up.es, Le a e.1 e.2.1 ∧ Le a e.2.1 e.1 := fun e he => ⟨one e he, one _ (pairs_back h.ok.1 h.ok.2.2.1 e he)⟩
  have hn := h.ok.2.2.2.1
  refine ⟨h.ok, fun i hi j hj hf => ?_⟩
  have hi' : nodesIn a.up.n (i : Nat) := ⟨by omega, by omega⟩
  have hj' : nodesIn a.up.n (j : Nat) := ⟨by omega, by omega⟩
  obtain ⟨w1, w2⟩ := way_both both (far_way h.ok.1 hi' hj' hf)
  exact le_keys (dbOk_at h.ok hi').1 (dbOk_at h.ok hj').1 w1 w2

end Go.Proofs.YtohicpepcjgnaaaGreat
/-
Plain laws: how many messages a drawn net can have.
-/
namespace Go.Proofs.YtohicpepcjgnaaaGreat
open Go Go.Abs Go.Proofs

theorem sub_len : ∀ {L M : List Int}, L.Nodup → (∀ x ∈ L, x ∈ M) → L.length ≤ M.length
  | [], _, _, _ => by simp
  | x :: L, M, hn, hs => by
    have h1 := List.nodup_cons.1 hn
    have hx := hs x (by simp)
    have ih := sub_len (L := L) (M := M.erase x) h1.2 fun y hy => by
      have : y ≠ x := fun e => h1.1 (e ▸ hy)
      exact (List.mem_erase_of_ne this).2 (hs y (List.mem_cons_of_mem _ hy))
    rw [List.length_erase_of_mem hx] at ih
    have : 0 < M.length := List.length_pos_of_mem hx
    simp only [List.length_cons]
    omega
def nodesL (n : Int) : List Int := (List.range n.toNat).map fun (i : Nat) => (i : Int)
theorem mem_nodes {n x : Int} (h : nodesIn n x) : x ∈ nodesL n := by
  unfold nodesL
  rw [List.mem_map]
  exact ⟨x.toNat, by rw [List.mem_range]; unfold nodesIn at h; omega, by unfold nodesIn at h; omega⟩
theorem nodes_len (n : Int) : (nodesL n).length = n.toNat := by simp [nodesL]
theorem org_nodup {xs : List TLsa} (hd : dbOk xs) : (xs.map (·.origin)).Nodup := by
  rw [List.Nodup, List.pairwise_map]
  exact (db_pairL hd).imp fun h => by omega
def foreign (a : TNet) (x : Int) : Nat := ((db a x).filter fun l => decide (l.origin ≠ x)).length
structure Cnt (D : Nat) (a : TNet) : Prop where
  og : ∀ x, ∀ l ∈ db a x, nodesIn a.up.n l.origin
  ow : ∀ m ∈ a.wires, nodesIn a.up.n m.2.2.origin
  fo : ∀ x y, nodesIn a.up.n x → nodesIn a.up.n y → x ≠ y → foreign a x + foreign a y ≤ D
theorem Cnt.more {D : Nat} {Q : TMsg → Prop} {a b : TNet} (h : Cnt D a) (m : More Q a b) (hq : ∀ m, Q m → nodesIn a.up.n m.2.2.origin) : Cnt D b where
  og x l hl := by
    unfold db at hl; rw [m.dbs] at hl; rw [m.up]; exact h.og x l hl
  ow x hx := by
    rw [m.up]
    rcases m.new x hx with q | q
    · exact h.ow x q
    · exact hq x q
  fo x y hx hy hne := by
    rw [m.up] at hx hy
    have := h.fo x y hx hy hne
    unfold foreign db at this ⊢
    rw [m.dbs]; exact this
theorem for_set {a : TNet} {z : Int} {l : TLsa} (h : Fl a) (hz : nodesIn a.up.n z) (hl : lsaOk l) (ha : l.age = 0) {x : Int} (hx : nodesIn a.up.n x) : foreign (setDb a z l) x ≤ foreign a x + (if x = z ∧ l.origin ≠ z then 1 else 0) := by
  obtain ⟨k1, k2⟩ := dbOk_at h.ok hz
  unfold foreign
  rw [db_set ⟨hz.1, k2⟩ hx.1]
  by_cases e : x = z
  · subst e
    rw [if_pos rfl]
    have f1 := (inst_facts k1 (h.dy x) hl ha).1
    have hn : (((installR (db a x) l).1.filter fun l => decide (l.origin ≠ x)).map (·.origin)).Nodup := (org_nodup (install_ok (l := l) k1)).sublist ((List.filter_sublist ..).map _)
    by_cases e2 : l.origin = x
    · rw [if_neg (by simp [e2])]
      have := sub_len (M := ((db a x).filter fun l => decide (l.origin ≠ x)).map (·.origin)) hn fun o ho => by
        obtain ⟨r, hr, rfl⟩ := List.mem_map.1 ho
        obtain ⟨r1, r2⟩ := List.mem_filter.1 hr
        refine List.mem_map.2 ⟨r, List.mem_filter.2 ⟨?_, r2⟩, rfl⟩
        rcases f1 r r1 with q | q
        · exact q
        · rw [q.1] at r2; simp [e2] at r2
      simpa using this
    · rw [if_pos ⟨rfl, e2⟩]
      have := sub_len (M := l.origin :: ((db a x).filter fun l => decide (l.origin ≠ x)).map (·.origin)) hn fun o ho => by
        obtain ⟨r, hr, rfl⟩ := List.mem_map.1 ho
        obtain ⟨r1, r2⟩ := List.mem_filter.1 hr
        rcases f1 r r1 with q | q
        · exact List.mem_cons_of_mem _ (List.mem_map.2 ⟨r, List.mem_filter.2 ⟨q, r2⟩, rfl⟩)
        · rw [q.1]; simp
      simpa using this
  · rw [if_neg e]
    omega
theorem Cnt.set {D : Nat} {a : TNet} {z : Int} {l : TLsa} (h : Cnt D a) (hf : Fl a) (hz : nodesIn a.up.n z) (hl : lsaOk l) (ha : l.age = 0) (ho : nodesIn a.up.n l.origin) : Cnt (D + if l.origin ≠ z then 1 else 0) (setDb a z l) where
  og x r hr := by
    obtain ⟨k1, k2⟩ := dbOk_at hf.ok hz
    have key : ∀ x, 0 ≤ x → ∀ r ∈ db (setDb a z l) x, nodesIn a.up.n r.origin := fun x hx r hr => by
      rw [db_set ⟨hz.1, k2⟩ hx] at hr
      by_cases e : x = z
      · subst e
        rw [if_pos rfl] at hr
        rcases (inst_facts k1 (hf.dy x) hl ha).1 r hr with q | q
        · exact h.og x r q
        · rw [q.1]; exact ho
      · rw [if_neg e] at hr; exact h.og x r hr
    by_cases hx : 0 ≤ x
    · exact key x hx r hr
    · rw [db_out (by omega)] at hr; exact key 0 (by omega) r hr
  ow := h.ow
  fo x y hx hy hne := by
    have h1 := for_set hf hz hl ha hx
    have h2 := for_set hf hz hl ha hy
    have h3 := h.fo x y hx hy hne
    by_cases e1 : x = z
    · rw [if_neg (show ¬ (y = z ∧ l.origin ≠ z) from fun q => hne (e1.trans q.1.symm))] at h2
      by_cases e2 : l.origin = z
      · rw [if_neg (by simp [e2])] at h1 ⊢; omega
      · rw [if_pos ⟨e1, e2⟩] at h1; rw [if_pos e2]; omega
    · rw [if_neg fun q => e1 q.1] at h1
      by_cases e2 : y = z ∧ l.origin ≠ z
      · rw [if_pos e2] at h2; rw [if_pos e2.2]; omega
      · rw [if_neg e2] at h2; omega
theorem db_less {D : Nat} {a : TNet} (h : Cnt D a) (hf : Fl a) {x : Int} (hx : nodesIn a.up.n x) : (db a x).length ≤ a.up.n.toNat ∧ (db a x).length ≤ 1 + foreign a x := by
  obtain ⟨k1, k2⟩ := dbOk_at hf.ok hx
  have hn := org_nodup k1
  constructor
  · have := sub_len (M := nodesL a.up.n) hn fun o ho => by
      obtain ⟨r, hr, rfl⟩ := List.mem_map.1 ho
      exact mem_nodes (h.og x r hr)
    rw [nodes_len] at this
    simpa using this
  · have := sub_len (M := x :: ((db a x).filter fun l => decide (l.origin ≠ x)).map (·.origin)) hn fun o ho => by
      obtain ⟨r, hr, rfl⟩ := List.mem_map.1 ho
      by_cases e : r.origin = x
      · rw [e]; simp
      · exact List.mem_cons_of_mem _ (List.mem_map.2 ⟨r, List.mem_filter.2 ⟨hr, by simpa using e⟩, rfl⟩)
    unfold foreign
    simp at this ⊢
    omega
theorem db_two {D : Nat} {a : TNet} (h : Cnt D a) (hf : Fl a) (hn : a.up.n ≤ 5) {x y : Int} (hx : nodesIn a.up.n x) (hy : nodesIn a.up.n y) (hne : x ≠ y) : (db a x).length + (db a y).length ≤ min 10 (2 + D) := by
  have h1 := db_less h hf hx
  have h2 := db_less h hf hy
  have h3 := h.fo x y hx hy hne
  omega
/-! #### how many are sent -/
theorem send_len (a : TNet) (x y : Int) (l : TLsa) : (sendN a x y l).wires.length ≤ a.wires.length + 1 := by
  unfold sendN
  split <;> simp
def outs (x but : Int) (es : List TEdge) : List TEdge := es.filter fun e => decide (e.1 = x ∧ e.2.1 ≠ but)
theorem spread_len {x but : Int} {l : TLsa} : ∀ {es : List TEdge} {a : TNet}, (spreadL x but l es a).wires.length ≤ a.wires.length + (outs x but es).length
  | [], a => by simp [spreadL, outs]
  | e :: es, a => by
    have e0 : spreadL x but l (e :: es) a = spreadL x but l es (spreadS x but l a e) := rfl
    have ih := spread_len (x := x) (but := but) (l := l) (es := es) (a := spreadS x but l a e)
    rw [e0]
    unfold outs at ih ⊢
    by_cases hc : e.1 = x ∧ e.2.1 ≠ but
    · rw [List.filter_cons_of_pos (by simpa using hc), List.length_cons]
      have : spreadS x but l a e = sendN a x e.2.1 l := by unfold spreadS; rw [if_pos hc]
      rw [this] at ih ⊢
      have := send_len a x e.2.1 l
      omega
    · rw [List.filter_cons_of_neg (by simpa using hc)]
      have : spreadS x but l a e = a := by unfold spreadS; rw [if_neg hc]
      rw [this] at ih ⊢
      exact ih
theorem sends_len {x y : Int} : ∀ {ls : List TLsa} {a : TNet}, (sendsN x y ls a).wires.length ≤ a.wires.length + ls.length
  | [], a => by simp [sendsN]
  | l :: ls, a => by
    have e0 : sendsN x y (l :: ls) a = sendsN x y ls (sendN a x y l) := rfl
    have ih := sends_len (x := x) (y := y) (ls := ls) (a := sendN a x y l)
    have := send_len a x y l
    rw [e0, List.length_cons]
    omega
theorem outs_le {a : TNet} (h : Fl a) {x : Int} (hx : nodesIn a.up.n x) (but : Int) : (outs x but a.up.es).length + 1 + (if nodesIn a.up.n but ∧ but ≠ x then 1 else 0) ≤ a.up.n.toNat := by
  have hp : a.up.es.Pairwise elt := (graph_iff.1 h.ok.1).2.2.2
  have hn : ((outs x but a.up.es).map (·.2.1)).Nodup := by
    rw [List.Nodup, List.pairwise_map]
    refine (List.Pairwise.imp_of_mem ?_ (hp.filter _))
    intro e f he hf hlt
    have h1 := (List.mem_filter.1 he).2
    have h2 := (List.mem_filter.1 hf).2
    simp at h1 h2
    unfold elt at hlt
    omega
  have hm : ∀ o ∈ (outs x but a.up.es).map (·.2.1), nodesIn a.up.n o ∧ o ≠ x ∧ o ≠ but := fun o ho => by
    obtain ⟨e, he, rfl⟩ := List.mem_map.1 ho
    obtain ⟨e1, e2⟩ := List.mem_filter.1 he
    simp at e2
    obtain ⟨n1, n2, n3⟩ := h.nodes e e1
    exact ⟨n2, fun q => n3 (e2.1.trans q.symm), e2.2⟩
  by_cases hb : nodesIn a.up.n but ∧ but ≠ x
  · rw [if_pos hb]
    have := sub_len (L := but :: x :: (outs x but a.up.es).map (·.2.1)) (M := nodesL a.up.n) (by
      refine List.nodup_cons.2 ⟨fun q => ?_, List.nodup_cons.2 ⟨fun q => (hm _ q).2.1 rfl, hn⟩⟩
      rcases List.mem_cons.1 q with q | q
      · exact hb.2 q
      · exact (hm _ q).2.2 rfl) fun o ho => by
        rcases List.mem_cons.1 ho with rfl | ho
        · exact mem_nodes hb.1
        · rcases List.mem_cons.1 ho with rfl | ho
          · exact mem_nodes hx
          · exact mem_nodes (hm o ho).1
    rw [nodes_len] at this
    simpa using this
  · rw [if_neg hb]
    have := sub_len (L := x :: (outs x but a.up.es).map (·.2.1)) (M := nodesL a.up.n) (List.nodup_cons.2 ⟨fun q => (hm _ q).2.1 rfl, hn⟩) fun o ho => by
      rcases List.mem_cons.1 ho with rfl | ho
      · exact mem_nodes hx
      · exact mem_nodes (hm o ho).1
    rw [nodes_len] at this
    simpa using this

/-! #### the bound of a drawn net -/
def roof (i D : Nat) : Nat := 2 * D + (i - D) * (8 + min 10 (2 + D))
theorem roof_on : ∀ i, i < 29 → ∀ D, D ≤ i → roof i D + 8 + min 10 (2 + D) ≤ roof (i + 1) D ∧ roof i D + 2 ≤ roof (i + 1) (D + 1) := by decide
theorem roof_all : ∀ i, i ≤ 29 → ∀ D, D ≤ i → roof i D ≤ 394 := by decide
structure Cap (i D : Nat) (a : TNet) : Prop where
  le : D ≤ i
  fl : Fl a
  cnt : Cnt D a
  n5 : a.up.n ≤ 5
  ws : a.wires.length ≤ roof i D
theorem Cap.stay {i D : Nat} {a : TNet} (h : Cap i D a) (hi : i < 29) : Cap (i + 1) D a := ⟨by have := h.le; omega, h.fl, h.cnt, h.n5, by have := (roof_on i hi D h.le).1; have := h.ws; omega⟩
theorem ann_cnt {D : Nat} {a : TNet} {x : Int} (h : Cnt D a) (hf : Fl a) (hx : nodesIn a.up.n x) (hl : lsaOk (ownL a x)) : Cnt D (announceN a x) ∧ (announceN a x).wires.length + 1 ≤ a.wires.length + a.up.n.toNat := by
  have h1 := h.set hf hx hl (rfl : (ownL a x).age = 0) hx
  rw [if_neg (show ¬ (ownL a x).origin ≠ x from fun q => q rfl), Nat.add_zero] at h1
  have ea : announceN a x = spreadL x (-1) (ownL a x) a.up.es (setDb a x (ownL a x)) := rfl
  obtain ⟨m1, _⟩ := More.spread (x := x) (but := -1) (l := ownL a x) (es := a.up.es) (a := setDb a x (ownL a x))
  rw [ea]
  refine ⟨h1.more m1 ?_, ?_⟩
  · rintro m ⟨e, he, g1, g2, rfl⟩
    exact hx
  · have h2 := spread_len (x := x) (but := -1) (l := ownL a x) (es := a.up.es) (a := setDb a x (ownL a x))
    have h3 := outs_le hf hx (-1)
    have h4 : (setDb a x (ownL a x)).wires.length = a.wires.length := rfl
    omega
theorem tell_cnt {D : Nat} {a : TNet} {x y : Int} (h : Cnt D a) : Cnt D (tellN a x y) ∧ (tellN a x y).wires.length ≤ a.wires.length + (db a x).length := by
  obtain ⟨m1, _⟩ := More.tell (a := a) (x := x) (y := y)
  exact ⟨h.more m1 fun m hm => h.og x m.2.2 hm.2.2, sends_len⟩
theorem cap_setN {i D : Nat} {a : TNet} {x y c : Int} (h : Cap i D a) (hi : i < 29) (hx : nodesIn a.up.n x) (hy : nodesIn a.up.n y) (hne : x ≠ y) (hc : 0 ≤ c ∧ c ≤ 1000) (hs : setOk a x y c) : Cap (i + 1) D (setN a x y c) := by
  have hfl := (setN_fl h.fl hx hy hne hc hs).1
  obtain ⟨f1, _⟩ := at_fl h.fl hx hy hne hc
  have c1 : Cnt D (atN a x y c) := ⟨h.cnt.og, h.cnt.ow, h.cnt.fo⟩
  obtain ⟨f2, _⟩ := ann_fl (S := butS x y) f1 hx hs.1
  obtain ⟨c2, w2⟩ := ann_cnt c1 f1 hx hs.1
  have u2 := up_announce (atN a x y c) x
  have hy2 : nodesIn (announceN (atN a x y c) x).up.n y := by rw [u2]; exact hy
  obtain ⟨f3, _⟩ := ann_fl (S := butS x y) f2 hy2 hs.2
  obtain ⟨c3, w3⟩ := ann_cnt c2 f2 hy2 hs.2
  have u3 := up_announce (announceN (atN a x y c) x) y
  have n3 : (announceN (announceN (atN a x y c) x) y).up.n = a.up.n := by rw [u3, u2]; rfl
  have d3 := db_two c3 f3 (by rw [n3]; exact h.n5) (x := x) (y := y) (by rw [n3]; exact hx) (by rw [n3]; exact hy) hne
  have w2' : (announceN (atN a x y c) x).wires.length + 1 ≤ a.wires.length + a.up.n.toNat := w2
  have w3' : (announceN (announceN (atN a x y c) x) y).wires.length + 1 ≤ (announceN (atN a x y c) x).wires.length + a.up.n.toNat := by
    rw [u2] at w3; exact w3
  have rb := (roof_on i hi D h.le).1
  have hws := h.ws
  have hn := h.n5
  have hle := h.le
  have key : Cnt D (setN a x y c) ∧ (setN a x y c).up.n = a.up.n ∧ (setN a x y c).wires.length ≤ roof i D + 8 + min 10 (2 + D) := by
    unfold setN telledN
    split
    · obtain ⟨c4, w4⟩ := tell_cnt (x := x) (y := y) c3
      obtain ⟨c5, w5⟩ := tell_cnt (x := y) (y := x) c4
      have m4 := (More.tell (a := announceN (announceN (atN a x y c) x) y) (x := x) (y := y)).1
      have m5 := (More.tell (a := tellN (announceN (announceN (atN a x y c) x) y) x y) (x := y) (y := x)).1
      have e4 : db (tellN (announceN (announceN (atN a x y c) x) y) x y) y = db (announceN (announceN (atN a x y c) x) y) y := by unfold db; rw [m4.dbs]
      rw [e4] at w5
      refine ⟨c5, by rw [m5.up, m4.up, n3], ?_⟩
      omega
    · exact ⟨c3, n3, by omega⟩
  exact ⟨by omega, hfl, key.1, by rw [key.2.1]; exact hn, by have := key.2.2; omega⟩
theorem cap_ann {i D : Nat} {a : TNet} {x : Int} (h : Cap i D a) (hi : i < 29) (hx : nodesIn a.up.n x) (hl : lsaOk (ownL a x)) : Cap (i + 1) D (announceN a x) := by
  obtain ⟨c2, w2⟩ := ann_cnt h.cnt h.fl hx hl
  have rb := (roof_on i hi D h.le).1
  have hws := h.ws
  have hn := h.n5
  have hle := h.le
  exact ⟨by omega, (ann_fl (S := allS) h.fl hx hl).1, c2, by rw [up_announce]; exact hn, by omega⟩
theorem cap_off {i D : Nat} {a : TNet} {k : Nat} (h : Cap i D a) (hi : i < 29) : Cap (i + 1) D (offN a k) := by
  have := h.stay hi
  refine ⟨this.le, off_fl h.fl, ⟨h.cnt.og, fun m hm => h.cnt.ow m (List.mem_of_mem_eraseIdx hm), h.cnt.fo⟩, h.n5, ?_⟩
  have h2 : (offN a k).wires.length ≤ a.wires.length := List.length_eraseIdx_le ..
  have h3 := this.ws
  omega
theorem cap_del {i D : Nat} {a : TNet} {k : Nat} (h : Cap i D a) (hi : i < 29) : Cap (i + 1) (D + 1) (deliverN a k) := by
  have hfl := (del_fl (k := k) h.fl).1
  have rb := (roof_on i hi D h.le).2
  have hws := h.ws
  have hle := h.le
  have lift : ∀ {b : TNet} {E : Nat}, E ≤ D + 1 → Cnt E b → Cnt (D + 1) b := fun he hc => ⟨hc.og, hc.ow, fun x y hx hy hne => Nat.le_trans (hc.fo x y hx hy hne) he⟩
  revert hfl
  unfold deliverN
  cases hk : a.wires[k]? with
  | none => exact fun hfl => ⟨by omega, hfl, lift (by omega) h.cnt, h.n5, by simp only; omega⟩
  | some m =>
    simp only
    intro hfl
    have hmem := List.mem_of_getElem? hk
    have hlen : k < a.wires.length := (List.getElem?_eq_some_iff.1 hk).1
    have f0 := off_fl (k := k) h.fl
    have w0 : (offN a k).wires.length + 1 = a.wires.length := by simp [List.length_eraseIdx, hlen]; omega
    have c0 : Cnt D (offN a k) := ⟨h.cnt.og, fun m hm => h.cnt.ow m (List.mem_of_mem_eraseIdx hm), h.cnt.fo⟩
    have hmo : msgOk a.up.n m := by
      obtain ⟨i, hi, rfl⟩ := List.mem_iff_getElem.1 hmem
      exact h.fl.ok.2.2.2.2.2.2.2 i hi
    obtain ⟨n1, n2, n3, hl⟩ := hmo
    have hage := h.fl.wy m hmem
    have hor := h.cnt.ow m hmem
    unfold takeN at hfl ⊢
    by_cases hc : cost (offN a k).up.n (offN a k).up.es m.1 m.2.1 = 1000000
    · rw [if_pos hc] at hfl ⊢
      exact ⟨by omega, hfl, lift (by omega) c0, h.n5, by omega⟩
    rw [if_neg hc] at hfl ⊢
    have n2' : nodesIn (offN a k).up.n m.2.1 := n2
    have f1 := set_fl f0 n2' hl hage
    have c1 := c0.set f0 n2' hl hage hor
    have e1 : (⟨(offN a k).up, (offN a k).dbs.set m.2.1.toNat (installR ((offN a k).dbs.getD m.2.1.toNat []) m.2.2).1, (offN a k).wires, (offN a k).lost⟩ : TNet) = setDb (offN a k) m.2.1 m.2.2 := rfl
    rw [e1] at hfl ⊢
    have c1' : Cnt (D + 1) (setDb (offN a k) m.2.1 m.2.2) := lift (by split <;> omega) c1
    have w1 : (setDb (offN a k) m.2.1 m.2.2).wires.length + 1 = a.wires.length := w0
    unfold afterN at hfl ⊢
    split at hfl
    · rename_i q0
      rw [if_pos q0]
      obtain ⟨m1, _⟩ := More.spread (x := m.2.1) (but := m.1) (l := m.2.2) (es := a.up.es) (a := setDb (offN a k) m.2.1 m.2.2)
      have ea : spreadN (setDb (offN a k) m.2.1 m.2.2) m.2.1 m.1 m.2.2 = spreadL m.2.1 m.1 m.2.2 a.up.es (setDb (offN a k) m.2.1 m.2.2) := rfl
      rw [ea] at hfl ⊢
      have sl := spread_len (x := m.2.1) (but := m.1) (l := m.2.2) (es := a.up.es) (a := setDb (offN a k) m.2.1 m.2.2)
      have ol := outs_le h.fl n2 m.1
      rw [if_pos ⟨n1, n3⟩] at ol
      have hn := h.n5
      exact ⟨by omega, hfl, c1'.more m1 (fun w ⟨e, _, _, _, hw⟩ => by subst hw; exact hor), by rw [m1.up]; exact hn, by omega⟩
    · rename_i q0
      rw [if_neg q0]
      split at hfl
      · rename_i q2
        rw [if_pos q2]
        obtain ⟨m1, _⟩ := More.send (a := setDb (offN a k) m.2.1 m.2.2) (x := m.2.1) (y := m.1) (l := (findR (installR ((offN a k).dbs.getD m.2.1.toNat []) m.2.2).1 m.2.2.origin).1)
        have sl := send_len (setDb (offN a k) m.2.1 m.2.2) m.2.1 m.1 (findR (installR ((offN a k).dbs.getD m.2.1.toNat []) m.2.2).1 m.2.2.origin).1
        refine ⟨by omega, hfl, c1'.more m1 ?_, by rw [m1.up]; exact h.n5, by omega⟩
        rintro w rfl
        obtain ⟨k1, k2⟩ := dbOk_at f0.ok n2'
        obtain ⟨g1, g2, ⟨r', p1, p2⟩, g4⟩ := inst_facts k1 (f0.dy m.2.1) hl hage
        have hr := (lookL_iff (install_ok (l := m.2.2) k1)).2 ⟨p1, p2.1⟩
        have hf : (findR (installR (db (offN a k) m.2.1) m.2.2).1 m.2.2.origin).1 = r' := by rw [findR_lookL (install_ok k1), hr]
        have hf2 : (findR (installR ((offN a k).dbs.getD m.2.1.toNat []) m.2.2).1 m.2.2.origin).1 = r' := hf
        show nodesIn (setDb (offN a k) m.2.1 m.2.2).up.n (findR (installR ((offN a k).dbs.getD m.2.1.toNat []) m.2.2).1 m.2.2.origin).1.origin
        rw [hf2, p2.1]
        exact hor
      · rename_i q2
        rw [if_neg q2]
        exact ⟨by omega, hfl, c1', h.n5, by omega⟩
theorem cap_setR {i D : Nat} {a : TNet} {p q c : Int} (h : Cap i D a) (hi : i < 29) : Cap (i + 1) D (setR a p q c).1 := by
  unfold setR
  split
  · rename_i hh
    obtain ⟨m1, m2, m3⟩ := good_mm hh.1
    exact cap_setN h hi m1 m2 m3 hh.1.2.2.2.2.1 hh.2
  · exact h.stay hi
theorem cap_annR {i D : Nat} {a : TNet} {x : Int} (h : Cap i D a) (hi : i < 29) : Cap (i + 1) D (announceR a x).1 := by
  unfold announceR
  split
  · rename_i hh
    exact cap_ann h hi hh.2.1 hh.2.2
  · exact h.stay hi
theorem cap_loseR {i D : Nat} {a : TNet} {k : Int} (h : Cap i D a) (hi : i < 29) : Cap (i + 1) D (loseR a k).1 := by
  unfold loseR
  split
  · exact cap_off h hi
  · exact h.stay hi
theorem cap_delR {i D : Nat} {a : TNet} {k : Int} (h : Cap i D a) (hi : i < 29) : ∃ E, Cap (i + 1) E (deliverR a k).1 := by
  unfold deliverR
  split
  · exact ⟨_, cap_del h hi⟩
  · exact ⟨_, h.stay hi⟩
theorem cap_new {n : Int} (hn : 1 ≤ n ∧ n ≤ 5) : Cap 0 0 (newR n).1 := by
  have hf := (new_fl (n := n) (by omega)).1
  unfold newR at hf ⊢
  rw [if_pos (by omega)] at hf ⊢
  have hdb : ∀ x, db (⟨⟨n, []⟩, List.replicate n.toNat [], [], 0⟩ : TNet) x = [] := fun x => by
    unfold db
    simp only
    rw [List.getD_eq_getElem?_getD, List.getElem?_replicate]
    split <;> rfl
  refine ⟨Nat.le_refl _, hf, ⟨fun x l hl => by rw [hdb] at hl; simp at hl, fun m hm => by simp at hm, fun x y _ _ _ => by unfold foreign; rw [hdb, hdb]; simp⟩, hn.2, by simp⟩

end Go.Proofs.YtohicpepcjgnaaaGreat
