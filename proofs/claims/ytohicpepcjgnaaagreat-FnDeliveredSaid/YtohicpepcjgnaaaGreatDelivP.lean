/-
Plain laws: what deliveries keep.
-/
import Derived.Test.YtohicpepcjgnaaaGreatSpreadC
import Derived.Test.YtohicpepcjgnaaaGreatDoubleC
set_option linter.all false
namespace Go.Proofs.YtohicpepcjgnaaaGreat
open Go Go.Abs Go.Proofs

theorem find_put {xs : List TLsa} {l : TLsa} (hd : dbOk xs) (hl : lsaOk l) : findR (putL l xs) l.origin = (l, true) := by
  have hok := putL_ok hd hl
  obtain ⟨i, h1, h2, h3⟩ := split_at xs hd l.origin
  by_cases hf : i < xs.length ∧ og xs i = l.origin
  · have e := putL_set (l := l) hd hf.1 hf.2
    rw [e] at hok ⊢
    have hi : i < (xs.set i l).length := by simpa using hf.1
    have := findR_at (o := l.origin) hok hi (by rw [og_get hi]; simp)
    rw [this]
    simp
  · have h4 := split_lt hd h3 hf
    have e := putL_put (l := l) hd h1 h2 h4
    rw [e] at hok ⊢
    have hi : i < (putAt xs i l).length := by rw [putAt_len h1]; omega
    have hg : (putAt xs i l)[i]? = some l := by rw [putAt_get h1]; simp
    have hg' : (putAt xs i l)[i] = l := by rw [List.getElem?_eq_getElem hi] at hg; exact Option.some.inj hg
    have := findR_at (o := l.origin) hok hi (by rw [og_opt hg])
    rw [this, hg']
theorem offer_in (xs : List TLsa) (l : TLsa) : offerR xs l = 0 ∨ offerR xs l = 1 ∨ offerR xs l = 2 := by
  unfold offerR
  repeat' split
  all_goals simp
theorem offer_two {xs : List TLsa} {l : TLsa} (h : offerR xs l = 2) : (findR xs l.origin).2 = true := by
  unfold offerR at h
  split at h
  · assumption
  · split at h <;> omega
theorem inst_of {xs : List TLsa} {l : TLsa} (hd : dbOk xs) (hl : lsaOk l) : installR xs l = if offerR xs l = 0 then (putL l xs, 0) else (xs, offerR xs l) := by
  unfold installR
  rw [if_pos ⟨hd, hl⟩]
theorem netOk_off {a : TNet} {k : Nat} (h : netOk a) : netOk (offN a k) := by
  obtain ⟨h1, h2, h3, h4, h5, h6, h7, h8⟩ := h
  have hle : (a.wires.eraseIdx k).length ≤ a.wires.length := List.length_eraseIdx_le ..
  refine ⟨h1, h2, h3, h4, by simp only [offN]; omega, h6, h7, fun i hi => ?_⟩
  have hm : (a.wires.eraseIdx k)[i] ∈ a.wires := List.mem_of_mem_eraseIdx (List.getElem_mem hi)
  obtain ⟨j, hj, e⟩ := List.mem_iff_getElem.1 hm
  show msgOk a.up.n (a.wires.eraseIdx k)[i]
  rw [← e]
  exact h8 j hj
theorem netOk_send {a : TNet} {x y : Int} {l : TLsa} (h : netOk a) (hm : msgOk a.up.n (x, y, l)) : netOk (sendN a x y l) := by
  obtain ⟨h1, h2, h3, h4, h5, h6, h7, h8⟩ := h
  unfold sendN
  split
  · refine ⟨h1, h2, h3, h4, by simp; omega, h6, h7, fun i hi => ?_⟩
    have hi' : i < a.wires.length + 1 := by simpa using hi
    by_cases e : i < a.wires.length
    · simp only [List.getElem_append_left e]; exact h8 i e
    · have e2 : i = a.wires.length := by omega
      subst e2
      simp only [List.getElem_append_right (Nat.le_refl _)]
      simpa using hm
  · exact ⟨h1, h2, h3, h4, h5, by simp; omega, h7, h8⟩
theorem netOk_spread {x but : Int} {l : TLsa} (hl : lsaOk l) : ∀ {es : List TEdge} {a : TNet}, netOk a → (∀ e ∈ es, e ∈ a.up.es) → netOk (spreadL x but l es a)
  | [], _, h, _ => h
  | e :: es, a, h, hs => by
    have he := hs e (by simp)
    have hk : (0 ≤ e.1 ∧ e.1 < a.up.n) ∧ (0 ≤ e.2.1 ∧ e.2.1 < a.up.n) ∧ e.1 ≠ e.2.1 := by
      obtain ⟨i, hi, rfl⟩ := ed_mem he
      have := h.1.2.2 i hi
      exact ⟨this.1, this.2.1, this.2.2.1⟩
    have h1 : netOk (spreadS x but l a e) := by
      unfold spreadS
      split
      · rename_i q
        refine netOk_send h ⟨?_, hk.2.1, ?_, hl⟩
        · rw [← q.1]; exact hk.1
        · rw [← q.1]; exact hk.2.2
      · exact h
    refine netOk_spread hl (es := es) h1 fun f hf => ?_
    rw [(spreadS_fits x but l a e).up]
    exact hs f (List.mem_cons_of_mem _ hf)
theorem db_at {a : TNet} (h : netOk a) {x : Int} (hx : 0 ≤ x ∧ x < a.up.n) : ∃ hr : x.toNat < a.dbs.length, a.dbs.getD x.toNat [] = a.dbs[x.toNat] ∧ dbOk a.dbs[x.toNat] := by
  have h4 := h.2.2.2.1
  have hr : x.toNat < a.dbs.length := by omega
  exact ⟨hr, by rw [List.getD_eq_getElem?_getD, List.getElem?_eq_getElem hr]; rfl, h.2.2.2.2.2.2.1 _ hr⟩
theorem netOk_db {a : TNet} {r : Nat} {db : List TLsa} (h : netOk a) (hd : dbOk db) : netOk ⟨a.up, a.dbs.set r db, a.wires, a.lost⟩ := by
  obtain ⟨h1, h2, h3, h4, h5, h6, h7, h8⟩ := h
  refine ⟨h1, h2, h3, by simpa using h4, h5, h6, fun i hi => ?_, h8⟩
  by_cases e : r = i
  · subst e; simp; exact hd
  · simp [e]; exact h7 i (by simpa using hi)
theorem netOk_take {a : TNet} {m : TMsg} (h : netOk a) (hm : msgOk a.up.n m) : netOk (takeN a m) := by
  unfold takeN
  split
  · exact h
  · obtain ⟨hr, he, hd⟩ := db_at h hm.2.1
    have h2 : netOk ⟨a.up, a.dbs.set m.2.1.toNat (installR (a.dbs.getD m.2.1.toNat []) m.2.2).1, a.wires, a.lost⟩ := netOk_db h (by rw [he]; exact install_ok hd)
    unfold afterN
    split
    · exact netOk_spread hm.2.2.2 h2 fun e he => he
    · split
      · rename_i q1 q2
        rw [he] at q2 ⊢
        have hin := inst_of hd hm.2.2.2
        have ho : offerR a.dbs[m.2.1.toNat] m.2.2 = 2 := by
          rw [hin] at q2
          split at q2
          · simp at q2
          · exact q2
        have hf := findR_ok hd (offer_two ho)
        refine netOk_send (by rw [he] at h2; exact h2) ⟨hm.2.1, hm.1, Ne.symm hm.2.2.1, ?_⟩
        rw [hin, if_neg (by omega)]
        exact hf.1
      · exact h2
theorem netOk_deliver {a : TNet} {k : Nat} (h : netOk a) : netOk (deliverN a k) := by
  unfold deliverN
  split
  · rename_i m hm
    obtain ⟨hk, rfl⟩ := List.getElem?_eq_some_iff.1 hm
    exact netOk_take (netOk_off h) (h.2.2.2.2.2.2.2 k hk)
  · exact h
theorem deliverR_sz {a : TNet} {k : Int} (h : bNet a) : bNet (deliverR a k).1 := by
  unfold deliverR
  split
  · rename_i hh
    exact small_sz (small_of (netOk_deliver hh.1))
  · exact h
end Go.Proofs.YtohicpepcjgnaaaGreat
