/-
Contracts: a delivery in place.
-/
import Derived.Test.YtmbekckgpbmdkaaGreatDelivP
set_option linter.all false
namespace Go.Proofs.YtmbekckgpbmdkaaGreat
open Go Go.Abs Go.Proofs

/-- A message is taken out: what it holds, below; the other messages, above. -/
theorem wires_take {b : Bool} {xs : List TMsg} {u : V} {k : Nat} {H0 Ho : Heap} (hu : Dp (wiresT b) H0 xs [u] Ho) (hk : k < xs.length) :
    ∃ rows r He Hm, rows.length = xs.length ∧ (∀ x ∈ rows, x.length = 7) ∧ rows[k]? = some r ∧ Dp (msgT b) H0 xs[k] r He ∧ Held Hm 7 rows u Ho ∧
      ∀ v H'', Held Hm 7 (rows.eraseIdx k) v H'' → Dp (wiresT b) He (xs.eraseIdx k) [v] H'' := by
  obtain ⟨rows, A, e, B, hl, hw, o1, ⟨r, o2, o3⟩, o4, hc⟩ := dpS_open hu hk
  have hp : (A ++ e ++ B ++ [(⟨7, rows, u⟩ : Ent)]).Perm (e ++ (A ++ B ++ [(⟨7, rows, u⟩ : Ent)])) := perm_mid.trans List.perm_append_comm
  obtain ⟨He, c1, c2⟩ := Chain.append.1 (hc.perm hp)
  obtain ⟨Hm, c3, c4⟩ := Chain.append.1 c2
  refine ⟨rows, r, He, Hm, hl, hw, o2, ⟨e, o3, c1⟩, Chain.one.1 c4, fun v H'' q => ?_⟩
  refine ⟨_, ⟨v, rows.eraseIdx k, A ++ B, rfl, fun x hx => hw x (List.mem_of_mem_eraseIdx hx), ?_, rfl⟩, Chain.append.2 ⟨Hm, c3, Chain.one.2 q⟩⟩
  rw [List.eraseIdx_eq_take_drop_succ, List.eraseIdx_eq_take_drop_succ]
  exact o1.append o4
/-- What a delivery needs of a net without the message. -/
theorem NB.rows {c : Bool} {H0 H : Heap} {o : Nat} {a : TNet} {e d w : V} (h : NB c H0 o a e d w H) : Rd H 3 e (a.up.es.map enEdge) ∧ (dbsT c).rd H a.dbs [d] := by
  obtain ⟨H1, H2, q1, q2, q3⟩ := nb_parts h
  refine ⟨((q1.sl ?_).1.mono q2.sub).mono q3.sub, (dbsT c).mono q2.rd q3.sub⟩
  intro r hr
  obtain ⟨x, _, rfl⟩ := List.mem_map.1 hr
  rfl
theorem DB.box {c : Bool} {H1 H : Heap} {o r : Nat} {rows : List (List V)} {xs : List TLsa} (h : DB c H1 o rows r xs H) : ∃ v, H o = some ⟨1, rows.set r [v]⟩ ∧ r < rows.length ∧ (dbT c).rd H xs [v] ∧ okV v := by
  obtain ⟨v, _, h2, h3⟩ := h
  exact ⟨v, h3.sub _ _ (upd_eq _ _ _), h2, h3.rd, dpS_cell h3⟩
theorem NB.sends {c : Bool} {H0 Y1 Y2 H : Heap} {o : Nat} {a a' : TNet} {e d : V} (hf : Fits a a') (h1 : Held H0 3 (a.up.es.map enEdge) e Y1) (h2 : Dp (dbsT c) Y1 a.dbs [d] Y2) (h : NW c Y2 o a' e d H) : ∃ w, NB c H0 o a' e d w H := by
  rw [← hf.up] at h1
  rw [← hf.dbs] at h2
  exact NB.join h1 h2 h
theorem spread_fits {a : TNet} {x but : Int} {l : TLsa} : Fits a (spreadN a x but l) := spreadL_fits ..
theorem idx_own {H : Heap} {o n w : Nat} {cap : Option Nat} {k : IntKind} {i : Int} {rows : List (List V)} (ho : H o = some ⟨w, rows⟩) (h0 : 0 ≤ i) (h1 : i.toNat < n) : aIndex H w (.slice o 0 n cap) (.int k i) = some (.ptr o i.toNat 0) := by
  have : i < (n : Int) := by omega
  simp [aIndex, ho, h0, this]
theorem DB.pt {c : Bool} {H1 H Hb : Heap} {o r n : Nat} {cap : Option Nat} {k : IntKind} {i : Int} {rows : List (List V)} {xs : List TLsa} (h : DB c H1 o rows r xs H) (hs : Abs.sub H Hb) (h0 : 0 ≤ i) (h1 : i.toNat < n) : aIndex Hb 1 (.slice o 0 n cap) (.int k i) = some (.ptr o i.toNat 0) := by
  obtain ⟨v, h2, _⟩ := h.box
  exact idx_own (hs _ _ h2) h0 h1
theorem DB.ld {c : Bool} {H1 H : Heap} {o r : Nat} {rows : List (List V)} {xs : List TLsa} (h : DB c H1 o rows r xs H) : ∃ v, (dbT c).rd H xs [v] ∧ okV v ∧ ∀ Hb, Abs.sub H Hb → ∀ f, aLd f 1 Hb (.ptr o r 0) = partOf f 1 [v] 0 := by
  obtain ⟨v, h2, h3, h4, h5⟩ := h.box
  exact ⟨v, h4, h5, fun Hb hs f => row_ld (hs _ _ h2) h3 f⟩
end Go.Proofs.YtmbekckgpbmdkaaGreat
