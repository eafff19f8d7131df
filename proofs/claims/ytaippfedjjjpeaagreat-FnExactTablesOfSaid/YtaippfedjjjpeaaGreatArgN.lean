/-
Nets from without.
-/
import Derived.Test.YtaippfedjjjpeaaGreatArgD
import Derived.Test.YtaippfedjjjpeaaGreatNets
set_option linter.all false
namespace Go.Proofs.YtaippfedjjjpeaaGreat
open Go Go.Abs Go.Proofs

theorem rows_rd {α : Type} {T : Ty α} {Q : α → Prop} {rows : List (List V)} (each : ∀ row ∈ rows, ∃ a : α, (∀ H, T.rd H a row) ∧ Q a) : ∃ xs : List α, (∀ H, All2 (T.rd H) xs rows) ∧ ∀ a ∈ xs, Q a := by
  induction rows with
  | nil => exact ⟨[], fun H => .nil, by simp⟩
  | cons r rows ih =>
    obtain ⟨a, h1, h2⟩ := each r (by simp)
    obtain ⟨xs, h3, h4⟩ := ih fun row hm => each row (List.mem_cons_of_mem _ hm)
    exact ⟨a :: xs, fun H => .cons (h1 H) (h3 H), fun x hx => by
      rcases List.mem_cons.1 hx with rfl | hx
      · exact h2
      · exact h4 x hx⟩
theorem slice_rd {α : Type} {T : Ty α} {Q : α → Prop} {rows : List (List V)} (hl : rows.length ≤ maxLen) (each : ∀ row ∈ rows, ∃ a : α, (∀ H, T.rd H a row) ∧ Q a) : ∃ xs : List α, (∀ H, (sliceT true T).rd H xs [.ro rows]) ∧ xs.length ≤ 9223372036854775807 ∧ ∀ a ∈ xs, Q a := by
  obtain ⟨xs, h1, h2⟩ := rows_rd each
  have hlen := (h1 (fun _ => none)).len
  refine ⟨xs, fun H => ⟨_, rows, rfl, ⟨Rd.ro fun r hm => ?_, by simp⟩, h1 H⟩, by simp [maxLen] at hl; omega, h2⟩
  obtain ⟨a, h3, _⟩ := each r hm
  exact T.len (h3 (fun _ => none))
theorem net_of {ed db ms e f g : TypeId} {x : List V} (c : CTs P 8 [.int .i64, .slice ed, .slice db, .slice ms, .int .i64] x) (hed : flat P 8 ed = some [.int .i64, .int .i64, .int .i64]) (hdb : flat P 8 db = some [.slice e])
    (hms : flat P 8 ms = some [.int .i64, .int .i64, .int .i64, .int .i64, .int .i64, .slice f, .slice g]) (he : flat P 8 e = some [.int .i64, .int .i64, .int .i64, .slice f, .slice g]) (hf : flat P 8 f = some [.int .i64, .int .i64]) (hg : flat P 8 g = some [.int .i64, .int .i64, .int .i64]) :
    ∃ (a : TNet) (q d w : V), x = netRow a q d w ∧ (∀ H, (netT true).rd H a (netRow a q d w)) ∧ hugeNet a := by
  obtain ⟨_, _, rfl, k0, c⟩ := CTs_cons c
  obtain ⟨_, _, rfl, k1, c⟩ := CTs_cons c
  obtain ⟨_, _, rfl, k2, c⟩ := CTs_cons c
  obtain ⟨_, _, rfl, k3, c⟩ := CTs_cons c
  obtain ⟨_, _, rfl, k4, c⟩ := CTs_cons c
  obtain rfl := CTs_nil c
  obtain ⟨n, rfl, _⟩ := CT_int k0
  obtain ⟨lost, rfl, _⟩ := CT_int k4
  obtain ⟨es, rfl, h1⟩ := Edges_of hed k1
  obtain ⟨r2, rfl, hl2, hr2⟩ := CT_slice hdb k2
  obtain ⟨r3, rfl, hl3, hr3⟩ := CT_slice hms k3
  obtain ⟨dbs, h2, h2', h2''⟩ := slice_rd (T := dbT true) (Q := bigD) hl2 fun row hm => by
    obtain ⟨_, _, rfl, k, c⟩ := CTs_cons (hr2 row hm)
    obtain rfl := CTs_nil c
    obtain ⟨r, rfl, hl, hr⟩ := CT_slice he k
    obtain ⟨xs, q1, q2, q3⟩ := slice_rd (T := lsaT true) (Q := big) hl fun row hm => lsa_cells (hr row hm) hf hg
    exact ⟨xs, q1, q2, q3⟩
  obtain ⟨ws, h3, h3', h3''⟩ := slice_rd (T := msgT true) (Q := bigM) hl3 fun row hm => by
    obtain ⟨_, _, rfl, k0, c1⟩ := CTs_cons (hr3 row hm)
    obtain ⟨_, _, rfl, k1, c2⟩ := CTs_cons c1
    obtain ⟨x, rfl, _⟩ := CT_int k0
    obtain ⟨y, rfl, _⟩ := CT_int k1
    obtain ⟨a, q1, q2⟩ := lsa_cells c2 hf hg
    exact ⟨(x, y, a), fun H => ⟨_, rfl, q1 H⟩, q2⟩
  exact ⟨⟨⟨n, es⟩, dbs, ws, lost⟩, _, _, _, rfl, fun H => ⟨_, _, _, rfl, ⟨Rd.ro enEdge_len, by simp⟩, h2 H, h3 H⟩, h1, ⟨h2', h2''⟩, h3', h3''⟩
end Go.Proofs.YtaippfedjjjpeaaGreat
