/-
Advertisements and databases from without.
-/
import Derived.Test.YtaippfedjjjpeaaGreatLsas
set_option linter.all false
namespace Go.Proofs.YtaippfedjjjpeaaGreat
open Go Go.Abs Go.Proofs

theorem int_of {x : List V} (c : CTs P 8 [.int .i64] x) : ∃ (n : Int), x = [.int .i64 n] := by
  obtain ⟨_, _, rfl, k0, c⟩ := CTs_cons c
  obtain rfl := CTs_nil c
  obtain ⟨n, rfl, _⟩ := CT_int k0
  exact ⟨n, rfl⟩
abbrev big (a : TLsa) : Prop := a.links.length ≤ 9223372036854775807 ∧ a.stubs.length ≤ 9223372036854775807
theorem lsa_cells {n : Nat} {f g : TypeId} {x : List V} (c : CTs P (n + 1) [.int .i64, .int .i64, .int .i64, .slice f, .slice g] x) (hf : flat P 8 f = some [.int .i64, .int .i64]) (hg : flat P 8 g = some [.int .i64, .int .i64, .int .i64]) :
    ∃ a : TLsa, (∀ H, (lsaT true).rd H a x) ∧ big a := by
  obtain ⟨_, _, rfl, k0, c⟩ := CTs_cons c
  obtain ⟨_, _, rfl, k1, c⟩ := CTs_cons c
  obtain ⟨_, _, rfl, k2, c⟩ := CTs_cons c
  obtain ⟨_, _, rfl, k3, c⟩ := CTs_cons c
  obtain ⟨_, _, rfl, k4, c⟩ := CTs_cons c
  obtain rfl := CTs_nil c
  obtain ⟨o, rfl, _⟩ := CT_int k0
  obtain ⟨s, rfl, _⟩ := CT_int k1
  obtain ⟨t, rfl, _⟩ := CT_int k2
  obtain ⟨ls, rfl, h1⟩ := Links_of hf k3
  obtain ⟨ss, rfl, h2⟩ := Stubs_of hg k4
  exact ⟨⟨o, s, t, ls, ss⟩, fun H => ⟨_, _, rfl, ⟨Rd.ro enLink_len, by simp⟩, ⟨Rd.ro enStub_len, by simp⟩⟩, h1, h2⟩
theorem lsas_rows {rows : List (List V)} (each : ∀ row ∈ rows, ∃ a : TLsa, (∀ H, (lsaT true).rd H a row) ∧ big a) : ∃ xs : List TLsa, (∀ H, All2 ((lsaT true).rd H) xs rows) ∧ ∀ a ∈ xs, big a := by
  induction rows with
  | nil => exact ⟨[], fun H => .nil, by simp⟩
  | cons r rows ih =>
    obtain ⟨a, h1, h2⟩ := each r (by simp)
    obtain ⟨xs, h3, h4⟩ := ih fun row hm => each row (List.mem_cons_of_mem _ hm)
    exact ⟨a :: xs, fun H => .cons (h1 H) (h3 H), fun x hx => by
      rcases List.mem_cons.1 hx with rfl | hx
      · exact h2
      · exact h4 x hx⟩
theorem db_of {e f g : TypeId} {x : List V} (c : CTs P 8 [.slice e] x) (he : flat P 8 e = some [.int .i64, .int .i64, .int .i64, .slice f, .slice g]) (hf : flat P 8 f = some [.int .i64, .int .i64]) (hg : flat P 8 g = some [.int .i64, .int .i64, .int .i64]) :
    ∃ (w : V) (xs : List TLsa), x = [w] ∧ (∀ H, (dbT true).rd H xs [w]) ∧ xs.length ≤ 9223372036854775807 ∧ ∀ a ∈ xs, big a := by
  obtain ⟨_, _, rfl, k0, c⟩ := CTs_cons c
  obtain rfl := CTs_nil c
  obtain ⟨rows, rfl, hl, hr⟩ := CT_slice he k0
  obtain ⟨xs, h1, h2⟩ := lsas_rows (rows := rows) fun row hm => lsa_cells (hr row hm) hf hg
  have hlen := (h1 (fun _ => none)).len
  refine ⟨_, xs, rfl, fun H => ⟨_, rows, rfl, ⟨Rd.ro fun r hm => ?_, by simp⟩, h1 H⟩, by simp [maxLen] at hl; omega, h2⟩
  obtain ⟨a, h3, _⟩ := lsa_cells (hr r hm) hf hg
  exact (lsaT true).len (h3 (fun _ => none))
theorem lsa_of {f g : TypeId} {x : List V} (c : CTs P 8 [.int .i64, .int .i64, .int .i64, .slice f, .slice g] x) (hf : flat P 8 f = some [.int .i64, .int .i64]) (hg : flat P 8 g = some [.int .i64, .int .i64, .int .i64]) :
    ∃ (a : TLsa) (l s : V), x = lsaRow a l s ∧ (∀ H, (lsaT true).rd H a (lsaRow a l s)) ∧ big a := by
  obtain ⟨a, h1, h2⟩ := lsa_cells c hf hg
  obtain ⟨l, s, rfl, _⟩ := h1 (fun _ => none)
  exact ⟨a, l, s, rfl, h1, h2⟩
end Go.Proofs.YtaippfedjjjpeaaGreat
