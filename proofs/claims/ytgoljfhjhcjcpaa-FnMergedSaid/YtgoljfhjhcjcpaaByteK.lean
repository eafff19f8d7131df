/-
Contracts of the laws' helpers over bytes; bytes from without.
-/
import Derived.Test.YtgoljfhjhcjcpaaTakeP
set_option linter.all false
namespace Go.Proofs.Ytgoljfhjhcjcpaa
open Go Go.Abs Go.Proofs

abbrev bytesT (b : Bool) : Ty (List Int) := sliceT b (flatT 1 enB (fun _ => rfl))
def bByteS (xs : List Int) : Prop := xs.length ≤ 1048576
theorem sB_ByteS {xs : List Int} (h : bByteS xs) : xs.length ≤ 10000000 := by unfold bByteS at h; omega
def mkBy (k : Int) (n : Nat) : List Int := (List.range n).map fun i => (k + (i : Nat)) % 256
@[simp] theorem mkBy_len (k : Int) (n : Nat) : (mkBy k n).length = n := by simp [mkBy]
theorem bytes_ofI {e : TypeId} {x : V} (hf : flat P 8 e = some [.int .u8]) (c : CT P 8 (.slice e) x) : ∃ xs : List Int, x = .ro (xs.map enB) ∧ (∀ c ∈ xs, isB c) ∧ xs.length ≤ 9223372036854775807 := by
  obtain ⟨rows, rfl, hl, h⟩ := CT_slice hf c
  have key : ∀ rows : List (List V), (∀ row ∈ rows, CTs P 7 [.int .u8] row) → ∃ xs : List Int, rows = xs.map enB ∧ ∀ c ∈ xs, isB c := by
    intro rows
    induction rows with
    | nil => exact fun _ => ⟨[], rfl, by simp⟩
    | cons r rows ih =>
      intro h
      obtain ⟨xs, rfl, hx⟩ := ih fun row hr => h row (List.mem_cons_of_mem _ hr)
      obtain ⟨y, ys, rfl, k0, c'⟩ := CTs_cons (h r (by simp))
      obtain rfl := CTs_nil c'
      obtain ⟨n, rfl, hw⟩ := CT_int k0
      refine ⟨n :: xs, rfl, fun z hz => ?_⟩
      rcases List.mem_cons.1 hz with rfl | hz
      · simp [Lit.wf] at hw
        have h0 : IntKind.u8.min = 0 := by decide
        have h1 : IntKind.u8.max = 255 := by decide
        unfold isB
        omega
      · exact hx z hz
  obtain ⟨xs, rfl, hx⟩ := key rows h
  exact ⟨xs, rfl, hx, by simp [maxLen] at hl; omega⟩
theorem bytes_of1 {e : TypeId} {x : List V} (hf : flat P 8 e = some [.int .u8]) (c : CTs P 8 [.slice e] x) : ∃ xs : List Int, x = [.ro (xs.map enB)] ∧ (∀ c ∈ xs, isB c) ∧ xs.length ≤ 9223372036854775807 := by
  obtain ⟨_, _, rfl, k0, c⟩ := CTs_cons c
  obtain rfl := CTs_nil c
  obtain ⟨xs, rfl, h1, h2⟩ := bytes_ofI hf k0
  exact ⟨xs, rfl, h1, h2⟩
end Go.Proofs.Ytgoljfhjhcjcpaa
