/-
Plain laws: what is known spreads; the invariant of a living net.
-/
import Derived.Test.YtohicpepcjgnaaaGreatFloodP
import Derived.Test.YtohicpepcjgnaaaGreatEdM
set_option linter.all false
namespace Go.Proofs.YtohicpepcjgnaaaGreat
open Go Go.Abs Go.Proofs

/-- What x knows y knows too, or a message tells it. -/
def Cv (a : TNet) (x y : Int) : Prop := ∀ l ∈ db a x, (∃ r ∈ db a y, geO r l) ∨ ∃ m ∈ a.wires, m.1 = x ∧ m.2.1 = y ∧ geO m.2.2 l
def Cov (S : Int → Int → Prop) (a : TNet) : Prop := a.lost ≤ 0 → ∀ e ∈ a.up.es, S e.1 e.2.1 → Cv a e.1 e.2.1
structure Fl (a : TNet) : Prop where
  ok : netOk a
  dy : ∀ x, young (db a x)
  wy : ∀ m ∈ a.wires, m.2.2.age = 0
  src : ∀ m ∈ a.wires, ∃ r ∈ db a m.1, geO r m.2.2
theorem Fl.lost {a : TNet} (h : Fl a) : 0 ≤ a.lost := h.ok.2.2.2.2.2.1.1
theorem Fl.nodes {a : TNet} (h : Fl a) : ∀ e ∈ a.up.es, nodesIn a.up.n e.1 ∧ nodesIn a.up.n e.2.1 ∧ e.1 ≠ e.2.1 := fun e he => by
  obtain ⟨i, hi, rfl⟩ := ed_mem he
  obtain ⟨g1, g2, g3, g4, g5⟩ := h.ok.1.2.2 i hi
  exact ⟨g1, g2, g3⟩
theorem Fl.more {Q : TMsg → Prop} {a b : TNet} (h : Fl a) (m : More Q a b) (hq : ∀ m, Q m → msgOk a.up.n m ∧ m.2.2.age = 0 ∧ ∃ r ∈ db a m.1, geO r m.2.2) : Fl b where
  ok := m.ok (fun x hx => (hq x hx).1) h.ok
  dy x := by unfold db; rw [m.dbs]; exact h.dy x
  wy x hx := by
    rcases m.new x hx with q | q
    · exact h.wy x q
    · exact (hq x q).2.1
  src x hx := by
    unfold db; rw [m.dbs]
    rcases m.new x hx with q | q
    · exact h.src x q
    · exact (hq x q).2.2
theorem Cov.more {Q : TMsg → Prop} {S : Int → Int → Prop} {a b : TNet} (h : Cov S a) (h0 : 0 ≤ a.lost) (m : More Q a b) : Cov S b := fun hb e he hs l hl => by
  have h1 := m.lost h0
  rw [m.up] at he
  unfold db at hl ⊢
  rw [m.dbs] at hl ⊢
  rcases h (h1.2 hb) e he hs l hl with q | ⟨w, q1, q2⟩
  · exact .inl q
  · exact .inr ⟨w, m.keep h0 hb w q1, q2⟩
/-! #### a database takes an advertisement -/
def setDb (a : TNet) (x : Int) (l : TLsa) : TNet := ⟨a.up, a.dbs.set x.toNat (installR (a.dbs.getD x.toNat []) l).1, a.wires, a.lost⟩
theorem db_set {a : TNet} {x y : Int} {l : TLsa} (hx : 0 ≤ x ∧ x.toNat < a.dbs.length) (hy : 0 ≤ y) : db (setDb a x l) y = if y = x then (installR (db a x) l).1 else db a y := by
  unfold db setDb
  simp only
  rw [List.getD_eq_getElem?_getD, List.getElem?_set]
  by_cases e : y = x
  · subst e
    rw [if_pos rfl, if_pos hx.2, if_pos rfl]
    rfl
  · rw [if_neg (by omega), if_neg e, List.getD_eq_getElem?_getD]
theorem dbOk_at {a : TNet} (h : netOk a) {x : Int} (hx : nodesIn a.up.n x) : dbOk (db a x) ∧ x.toNat < a.dbs.length := by
  obtain ⟨h1, h2, h3⟩ := db_at h hx
  exact ⟨by unfold db; rw [h2]; exact h3, h1⟩
theorem db_out {a : TNet} {x : Int} (hx : x < 0) : db a x = db a 0 := by
  unfold db; rw [show x.toNat = (0 : Int).toNat by omega]
theorem set_le {a : TNet} {x : Int} {l : TLsa} (h : Fl a) (hx : nodesIn a.up.n x) (hl : lsaOk l) (ha : l.age = 0) (y : Int) : (∀ r ∈ db a y, ∃ r' ∈ db (setDb a x l) y, geO r' r) := by
  obtain ⟨k1, k2⟩ := dbOk_at h.ok hx
  have key : ∀ z, 0 ≤ z → ∀ r ∈ db a z, ∃ r' ∈ db (setDb a x l) z, geO r' r := fun z hz r hr => by
    rw [db_set ⟨hx.1, k2⟩ hz]
    by_cases e : z = x
    · subst e; rw [if_pos rfl]; exact (inst_facts k1 (h.dy z) hl ha).2.1 r hr
    · rw [if_neg e]; exact ⟨r, hr, geO_refl r⟩
  by_cases hy : 0 ≤ y
  · exact key y hy
  · rw [db_out (by omega), db_out (a := setDb a x l) (by omega)]; exact key 0 (by omega)
theorem set_fl {a : TNet} {x : Int} {l : TLsa} (h : Fl a) (hx : nodesIn a.up.n x) (hl : lsaOk l) (ha : l.age = 0) : Fl (setDb a x l) where
  ok := by
    obtain ⟨k1, k2⟩ := dbOk_at h.ok hx
    exact netOk_db h.ok (install_ok k1)
  dy y := by
    obtain ⟨k1, k2⟩ := dbOk_at h.ok hx
    have key : ∀ z, 0 ≤ z → young (db (setDb a x l) z) := fun z hz => by
      rw [db_set ⟨hx.1, k2⟩ hz]
      split
      · exact inst_young (h.dy x) ha k1 hl
      · exact h.dy z
    by_cases hy : 0 ≤ y
    · exact key y hy
    · rw [db_out (by omega)]; exact key 0 (by omega)
  wy := h.wy
  src m hm := by
    obtain ⟨r, r1, r2⟩ := h.src m hm
    obtain ⟨r', q1, q2⟩ := set_le h hx hl ha m.1 r r1
    exact ⟨r', q1, geO_trans q2 r2⟩
/-- Coverage of all but what is new at x. -/
theorem set_cv {a : TNet} {x : Int} {l : TLsa} (h : Fl a) (hx : nodesIn a.up.n x) (hl : lsaOk l) (ha : l.age = 0) {y z : Int} (hy : 0 ≤ y) (hc : Cv a y z) (r : TLsa) (hr : r ∈ db (setDb a x l) y) (hn : ¬ (y = x ∧ r = l ∧ (installR (db a x) l).2 = 0)) :
    (∃ r' ∈ db (setDb a x l) z, geO r' r) ∨ ∃ m ∈ (setDb a x l).wires, m.1 = y ∧ m.2.1 = z ∧ geO m.2.2 r := by
  obtain ⟨k1, k2⟩ := dbOk_at h.ok hx
  have hold : r ∈ db a y := by
    rw [db_set ⟨hx.1, k2⟩ hy] at hr
    by_cases e : y = x
    · subst e
      rw [if_pos rfl] at hr
      rcases (inst_facts k1 (h.dy y) hl ha).1 r hr with q | q
      · exact q
      · exact absurd ⟨rfl, q⟩ hn
    · rwa [if_neg e] at hr
  rcases hc r hold with ⟨r', q1, q2⟩ | q
  · obtain ⟨r2, p1, p2⟩ := set_le h hx hl ha z r' q1
    exact .inl ⟨r2, p1, geO_trans p2 q2⟩
  · exact .inr q
/-! #### announcements -/
theorem own_code {a : TNet} {x : Int} (h : Fl a) (hx : nodesIn a.up.n x) (hl : lsaOk (ownL a x)) : (installR (db a x) (ownL a x)).2 = 0 := by
  obtain ⟨k1, k2⟩ := dbOk_at h.ok hx
  have ho := offer_lookL k1 (ownL a x)
  rw [inst_of k1 hl]
  have hs : (ownL a x).seq = nextSeq (db a x) x := rfl
  have hor : (ownL a x).origin = x := rfl
  have : offerR (db a x) (ownL a x) = 0 := by
    rw [hor] at ho
    rw [ho]
    cases hk : lookL (db a x) x with
    | none => simp only; rw [if_neg (by show ¬ (0 : Int) = 60; omega)]
    | some r =>
      simp only
      have hr := lookL_org hk
      have hf : findR (db a x) x = (r, true) := by rw [findR_lookL k1, hk]
      have h1 : newerR (ownL a x) r = 1 := by
        rw [newer_one rfl (h.dy x r hr.1)]
        unfold ge
        rw [hs]
        unfold nextSeq
        rw [hf]
        simp
        omega
      rw [if_pos h1]
  rw [if_pos this]
theorem msg_of {a : TNet} {x y : Int} {l : TLsa} (h : Fl a) (he : ∃ e ∈ a.up.es, e.1 = x ∧ e.2.1 = y) (hl : lsaOk l) : msgOk a.up.n (x, y, l) := by
  obtain ⟨e, he, rfl, rfl⟩ := he
  obtain ⟨g1, g2, g3⟩ := h.nodes e he
  exact ⟨g1, g2, g3, hl⟩
theorem ann_fl {S : Int → Int → Prop} {a : TNet} {x : Int} (h : Fl a) (hx : nodesIn a.up.n x) (hl : lsaOk (ownL a x)) : Fl (announceN a x) ∧ (Cov S a → Cov S (announceN a x)) := by
  have hc := own_code h hx hl
  have h1 := set_fl h hx hl (rfl : (ownL a x).age = 0)
  obtain ⟨k1, k2⟩ := dbOk_at h.ok hx
  have hm := (inst_facts k1 (h.dy x) hl (rfl : (ownL a x).age = 0)).2.2.2 hc
  have hdx : ownL a x ∈ db (setDb a x (ownL a x)) x := by rw [db_set ⟨hx.1, k2⟩ hx.1, if_pos rfl]; exact hm
  have ea : announceN a x = spreadL x (-1) (ownL a x) a.up.es (setDb a x (ownL a x)) := rfl
  obtain ⟨m1, m2⟩ := More.spread (x := x) (but := -1) (l := ownL a x) (es := a.up.es) (a := setDb a x (ownL a x))
  rw [ea]
  refine ⟨h1.more m1 ?_, fun hcov => ?_⟩
  · rintro m ⟨e, he, g1, g2, rfl⟩
    exact ⟨msg_of h1 ⟨e, he, g1, rfl⟩ hl, rfl, ownL a x, hdx, geO_refl _⟩
  · intro hb e he hs r hr
    have l1 := m1.lost h1.lost
    have e1 : e ∈ a.up.es := by rw [m1.up] at he; exact he
    have nd := h.nodes e e1
    have hdb : ∀ y, db (spreadL x (-1) (ownL a x) a.up.es (setDb a x (ownL a x))) y = db (setDb a x (ownL a x)) y := fun y => by unfold db; rw [m1.dbs]
    rw [hdb] at hr ⊢
    by_cases hn : e.1 = x ∧ r = ownL a x ∧ (installR (db a x) (ownL a x)).2 = 0
    · refine .inr ⟨_, m2 h1.lost hb e e1 hn.1 (by have := nd.2.1.1; omega), hn.1.symm, rfl, ?_⟩
      rw [hn.2.1]; exact geO_refl _
    · rcases set_cv h hx hl rfl nd.1.1 (hcov (l1.2 hb) e e1 hs) r hr hn with q | ⟨w, q1, q2⟩
      · exact .inl q
      · exact .inr ⟨w, m1.keep h1.lost hb w q1, q2⟩
/-! #### deliveries -/
theorem off_fl {a : TNet} {k : Nat} (h : Fl a) : Fl (offN a k) where
  ok := netOk_off h.ok
  dy := h.dy
  wy m hm := h.wy m (List.mem_of_mem_eraseIdx hm)
  src m hm := h.src m (List.mem_of_mem_eraseIdx hm)
def allS : Int → Int → Prop := fun _ _ => True
theorem mem_erase {α : Type} {xs : List α} {k : Nat} {m w : α} (hk : xs[k]? = some m) (hw : w ∈ xs) : w = m ∨ w ∈ xs.eraseIdx k := by
  obtain ⟨i, hi, rfl⟩ := List.mem_iff_getElem.1 hw
  by_cases e : i = k
  · subst e
    rw [List.getElem?_eq_getElem hi] at hk
    exact .inl (by simpa using hk)
  · refine .inr (List.mem_eraseIdx_iff_getElem.2 ⟨i, hi, e, rfl⟩)
theorem edge_up {a : TNet} {x y : Int} (h : netOk a) (hne : x ≠ y) (hc : ¬ cost a.up.n a.up.es x y = 1000000) : (∃ e ∈ a.up.es, e.1 = x ∧ e.2.1 = y) ∧ ∃ e ∈ a.up.es, e.1 = y ∧ e.2.1 = x := by
  rw [far_iff h.1 hne] at hc
  have : ∃ e ∈ a.up.es, e.1 = x ∧ e.2.1 = y := Classical.byContradiction fun q => hc fun e he hh => q ⟨e, he, hh⟩
  refine ⟨this, ?_⟩
  obtain ⟨e, he, rfl, rfl⟩ := this
  exact ⟨_, pairs_back h.1 h.2.2.1 e he, rfl, rfl⟩
theorem del_fl {a : TNet} {k : Nat} (h : Fl a) : Fl (deliverN a k) ∧ (Cov allS a → Cov allS (deliverN a k)) := by
  unfold deliverN
  cases hk : a.wires[k]? with
  | none => exact ⟨h, id⟩
  | some m =>
    simp only
    have hmem := List.mem_of_getElem? hk
    have h0 := off_fl (k := k) h
    have hmo : msgOk a.up.n m := by
      obtain ⟨i, hi, rfl⟩ := List.mem_iff_getElem.1 hmem
      exact h.ok.2.2.2.2.2.2.2 i hi
    obtain ⟨n1, n2, n3, hl⟩ := hmo
    have hage := h.wy m hmem
    obtain ⟨s1, s2, s3⟩ := h.src m hmem
    unfold takeN
    by_cases hc : cost (offN a k).up.n (offN a k).up.es m.1 m.2.1 = 1000000
    · rw [if_pos hc]
      refine ⟨h0, fun hcov hb e he _ l hl' => ?_⟩
      rcases hcov hb e he trivial l hl' with q | ⟨w, q1, q2, q3, q4⟩
      · exact .inl q
      · rcases mem_erase hk q1 with rfl | q
        · have hc2 : cost a.up.n a.up.es w.1 w.2.1 = 1000000 := hc
          rw [far_iff h.ok.1 n3] at hc2
          exact absurd ⟨q2.symm, q3.symm⟩ (hc2 e he)
        · exact .inr ⟨w, q, q2, q3, q4⟩
    rw [if_neg hc]
    obtain ⟨up1, up2⟩ := edge_up h.ok n3 hc
    have n2' : nodesIn (offN a k).up.n m.2.1 := n2
    obtain ⟨k1, k2⟩ := dbOk_at h0.ok n2'
    have h1 := set_fl h0 n2' hl hage
    obtain ⟨f1, f2, f3, f4⟩ := inst_facts k1 (h0.dy m.2.1) hl hage
    have e1 : (⟨(offN a k).up, (offN a k).dbs.set m.2.1.toNat (installR ((offN a k).dbs.getD m.2.1.toNat []) m.2.2).1, (offN a k).wires, (offN a k).lost⟩ : TNet) = setDb (offN a k) m.2.1 m.2.2 := rfl
    rw [e1]
    have edb : db (setDb (offN a k) m.2.1 m.2.2) m.2.1 = (installR (db (offN a k) m.2.1) m.2.2).1 := by rw [db_set ⟨n2.1, k2⟩ n2.1, if_pos rfl]
    -- coverage of all but what is new
    have cv1 : Cov allS a → (setDb (offN a k) m.2.1 m.2.2).lost ≤ 0 → ∀ e ∈ a.up.es, ∀ r ∈ db (setDb (offN a k) m.2.1 m.2.2) e.1, ¬ (e.1 = m.2.1 ∧ r = m.2.2 ∧ (installR (db (offN a k) m.2.1) m.2.2).2 = 0) → (∃ r' ∈ db (setDb (offN a k) m.2.1 m.2.2) e.2.1, geO r' r) ∨ ∃ w ∈ (setDb (offN a k) m.2.1 m.2.2).wires, w.1 = e.1 ∧ w.2.1 = e.2.1 ∧ geO w.2.2 r := by
      intro hcov hb e he r hr hn
      have nd := h.nodes e he
      by_cases hm2 : e.1 = m.1 ∧ e.2.1 = m.2.1
      · -- along the message
        have hold : r ∈ db a e.1 := by
          rw [db_set ⟨n2.1, k2⟩ nd.1.1, if_neg (by rw [hm2.1]; exact n3)] at hr
          exact hr
        rcases hcov hb e he trivial r hold with ⟨r', q1, q2⟩ | ⟨w, q1, q2, q3, q4⟩
        · obtain ⟨r2, p1, p2⟩ := set_le h0 n2' hl hage e.2.1 r' q1
          exact .inl ⟨r2, p1, geO_trans p2 q2⟩
        · rcases mem_erase hk q1 with rfl | q
          · obtain ⟨r', p1, p2⟩ := f3
            refine .inl ⟨r', ?_, geO_trans p2 q4⟩
            rw [hm2.2, edb]; exact p1
          · exact .inr ⟨w, q, q2, q3, q4⟩
      · have hcv : Cv (offN a k) e.1 e.2.1 := fun l' hl' => by
          rcases hcov hb e he trivial l' hl' with q | ⟨w, q1, q2, q3, q4⟩
          · exact .inl q
          · rcases mem_erase hk q1 with rfl | q
            · exact absurd ⟨q2.symm, q3.symm⟩ hm2
            · exact .inr ⟨w, q, q2, q3, q4⟩
        exact set_cv h0 n2' hl hage nd.1.1 hcv r hr hn
    generalize hcode : (installR ((offN a k).dbs.getD m.2.1.toNat []) m.2.2).2 = code
    have hcode' : (installR (db (offN a k) m.2.1) m.2.2).2 = code := hcode
    unfold afterN
    by_cases c0 : code = 0
    · rw [if_pos c0]
      have hm := f4 (by rw [hcode']; exact c0)
      obtain ⟨m1, m2⟩ := More.spread (x := m.2.1) (but := m.1) (l := m.2.2) (es := a.up.es) (a := setDb (offN a k) m.2.1 m.2.2)
      have ea : spreadN (setDb (offN a k) m.2.1 m.2.2) m.2.1 m.1 m.2.2 = spreadL m.2.1 m.1 m.2.2 a.up.es (setDb (offN a k) m.2.1 m.2.2) := rfl
      rw [ea]
      refine ⟨h1.more m1 ?_, fun hcov => ?_⟩
      · rintro w ⟨e, he, g1, g2, rfl⟩
        exact ⟨msg_of h1 ⟨e, he, g1, rfl⟩ hl, hage, m.2.2, by rw [edb]; exact hm, geO_refl _⟩
      · intro hb e he _ r hr
        have l1 := m1.lost h1.lost
        have he1 : e ∈ a.up.es := by rw [m1.up] at he; exact he
        have hdb : ∀ y, db (spreadL m.2.1 m.1 m.2.2 a.up.es (setDb (offN a k) m.2.1 m.2.2)) y = db (setDb (offN a k) m.2.1 m.2.2) y := fun y => by unfold db; rw [m1.dbs]
        rw [hdb] at hr ⊢
        by_cases hn : e.1 = m.2.1 ∧ r = m.2.2 ∧ (installR (db (offN a k) m.2.1) m.2.2).2 = 0
        · by_cases hb2 : e.2.1 = m.1
          · obtain ⟨r', p1, p2⟩ := set_le h0 n2' hl hage m.1 s1 s2
            refine .inl ⟨r', by rw [hb2]; exact p1, ?_⟩
            rw [hn.2.1]; exact geO_trans p2 s3
          · refine .inr ⟨_, m2 h1.lost hb e he1 hn.1 hb2, hn.1.symm, rfl, ?_⟩
            rw [hn.2.1]; exact geO_refl _
        · rcases cv1 hcov (l1.2 hb) e he1 r hr hn with q | ⟨w, q1, q2⟩
          · exact .inl q
          · exact .inr ⟨w, m1.keep h1.lost hb w q1, q2⟩
    · rw [if_neg c0]
      have cvb : Cov allS a → Cov allS (setDb (offN a k) m.2.1 m.2.2) := fun hcov hb e he _ r hr => cv1 hcov hb e he r hr fun q => c0 (hcode' ▸ q.2.2)
      by_cases c2 : code = 2
      · rw [if_pos c2]
        obtain ⟨q1, q2⟩ := More.send (a := setDb (offN a k) m.2.1 m.2.2) (x := m.2.1) (y := m.1) (l := (findR (installR ((offN a k).dbs.getD m.2.1.toNat []) m.2.2).1 m.2.2.origin).1)
        have hfo : ∃ r, lookL (installR (db (offN a k) m.2.1) m.2.2).1 m.2.2.origin = some r := by
          obtain ⟨r', p1, p2⟩ := f3
          exact ⟨r', (lookL_iff (install_ok k1)).2 ⟨p1, p2.1⟩⟩
        obtain ⟨r, hr⟩ := hfo
        have hf : (findR (installR (db (offN a k) m.2.1) m.2.2).1 m.2.2.origin).1 = r := by rw [findR_lookL (install_ok k1), hr]
        have hf2 : (findR (installR ((offN a k).dbs.getD m.2.1.toNat []) m.2.2).1 m.2.2.origin).1 = r := hf
        rw [hf2] at q1 ⊢
        have hrm := (lookL_org hr).1
        refine ⟨h1.more q1 ?_, fun hcov => (cvb hcov).more h1.lost q1⟩
        rintro w rfl
        refine ⟨msg_of h1 ?_ (mem_okL (install_ok k1) hrm), inst_young (h0.dy m.2.1) hage k1 hl r hrm, r, by rw [edb]; exact hrm, geO_refl _⟩
        exact up2
      · rw [if_neg c2]
        exact ⟨h1, cvb⟩

end Go.Proofs.YtohicpepcjgnaaaGreat
