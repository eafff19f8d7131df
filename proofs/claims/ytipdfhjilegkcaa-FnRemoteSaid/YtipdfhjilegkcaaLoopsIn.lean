/-
LoopsIn, both forms: the starts whose walk never ends.
-/
import Derived.Test.YtipdfhjilegkcaaInts
set_option linter.all false
namespace Go.Proofs.Ytipdfhjilegkcaa
open Go Go.Abs Go.Proofs

def live (n : Nat) (d a : Int) : Prop := a ≠ d ∧ 0 ≤ a ∧ a ≤ n - 1
instance (n : Nat) (d a : Int) : Decidable (live n d a) := by unfold live; infer_instance
def walk (hops : List Int) (d : Int) : Nat → Int → Int
  | 0, a => a
  | m + 1, a => if live hops.length d a then walk hops d m (hops.getD a.toNat 0) else a
def loopsTo (hops : List Int) (d : Int) (x : Nat) : List Int := ((List.range x).filter fun (i : Nat) => decide (live hops.length d (walk hops d (hops.length + 1) (i : Int)))).map fun (i : Nat) => (i : Int)

theorem loopsTo_succ (hops : List Int) (d : Int) (x : Nat) : loopsTo hops d (x + 1) = loopsTo hops d x ++ (if live hops.length d (walk hops d (hops.length + 1) x) then [(x : Int)] else []) := by
  unfold loopsTo
  rw [List.range_succ, List.filter_append, List.map_append]
  by_cases h : live hops.length d (walk hops d (hops.length + 1) x) <;> simp [h]
def loopsIn (hops : List Int) (d : Int) : List Int := if 10 < hops.length then [] else loopsTo hops d hops.length

def InvLoopA (H : Heap) (hops : List Int) (d : Int) (n : Nat) (ys : List V) (Hc : Heap) : Prop :=
  ∃ x u, x ≤ hops.length ∧ ys = [u, .int .i64 (x : Nat)] ∧ n = hops.length - x ∧ Own H 1 ((loopsTo hops d x).map ri) u Hc
def InvLoopB (Hc : Heap) (hops : List Int) (d : Int) (m x n : Nat) (ys : List V) (Hd : Heap) : Prop :=
  ∃ k a, k ≤ m ∧ ys = [.int .i64 a, .int .i64 (k : Nat)] ∧ n = m - k ∧ Hd = Hc ∧ walk hops d (m - k) a = walk hops d m x

theorem walk_dead {hops : List Int} {d a : Int} (h : ¬ live hops.length d a) : ∀ m, walk hops d m a = a
  | 0 => rfl
  | m + 1 => by simp [walk, h]
theorem walk_next {hops : List Int} {d a : Int} {m k : Nat} (hk : k < m) (h : live hops.length d a) : walk hops d (m - (k + 1)) (hops.getD a.toNat 0) = walk hops d (m - k) a := by
  rw [show m - k = (m - (k + 1)) + 1 by omega]
  simp [walk, h]
theorem nextB {H : Heap} {hops : List Int} {d a : Int} {v : V} {m x k : Nat} (hv : Rd H 1 v (hops.map ri)) (hk : k < m) (hl : live hops.length d a) (hw : walk hops d (m - k) a = walk hops d m x) :
    bnd (aIndex H 1 v (.int .i64 a)) fun t => bnd (aLd false 1 H t) fun u => ∃ n, n < m - k ∧ Shr (InvLoopB H hops d m x n [u, .int .i64 ((k : Int) + 1)]) H := by
  have h0 := hl.2.1
  have h1 := hl.2.2
  refine hv.idx h0 (by simp; omega) fun p hp => ?_
  have ha : a.toNat < hops.length := by omega
  rw [hp.ld, getD_map_ri ha]
  simp
  exact ⟨m - (k + 1), by omega, Shr.of ⟨k + 1, hops[a.toNat], by omega, by simp, rfl, rfl, by
    rw [← hw, ← walk_next hk hl]; simp [ha]⟩⟩

theorem skipA {H Hd : Heap} {hops : List Int} {d : Int} {x : Nat} {u : V} (hu : Own H 1 ((loopsTo hops d x).map ri) u Hd) (hlt : x < hops.length) (hn : ¬ live hops.length d (walk hops d (hops.length + 1) x)) :
    ∃ n8, n8 < hops.length - x ∧ Shr (InvLoopA H hops d n8 [u, .int .i64 ((x : Int) + 1)]) Hd :=
  ⟨hops.length - (x + 1), by omega, Shr.of ⟨x + 1, u, by omega, by simp, rfl, by rw [loopsTo_succ, if_neg hn]; simpa using hu⟩⟩
theorem loopsTo_le (hops : List Int) (d : Int) (x : Nat) : (loopsTo hops d x).length ≤ x := by
  unfold loopsTo
  rw [List.length_map]
  exact Nat.le_trans (List.length_filter_le _ _) (by simp)
theorem appA {H Hd : Heap} {hops : List Int} {d : Int} {x : Nat} {u : V} (hu : Own H 1 ((loopsTo hops d x).map ri) u Hd) (hlt : x < hops.length) (hs : hops.length ≤ 10) (hn : live hops.length d (walk hops d (hops.length + 1) x)) {o : Nat} (ho : Hd o = none) :
    appendK (upd Hd o ⟨1, [ri x]⟩) 1 8 u [ri x] fun v H' => ∃ n8, n8 < hops.length - x ∧ Shr (InvLoopA H hops d n8 [v, .int .i64 ((x : Int) + 1)]) H' := by
  refine hu.append (sub_fresh ho) (by simp) ?_ fun v' H' H'' ho' hs' => ⟨hops.length - (x + 1), by omega, H'', hs', x + 1, v', by omega, by simp, rfl, ?_⟩
  · have := loopsTo_le hops d x
    simp; omega
  · rw [loopsTo_succ, if_pos hn]; simpa using ho'

/-- The walk without an end. -/
def steps (hops : List Int) : Nat → Int → Int
  | 0, a => a
  | m + 1, a => steps hops m (hops.getD a.toNat 0)
theorem steps_add (hops : List Int) : ∀ (m k : Nat) (a : Int), steps hops (m + k) a = steps hops k (steps hops m a)
  | 0, k, a => by simp [steps]
  | m + 1, k, a => by rw [show m + 1 + k = (m + k) + 1 by omega]; simp only [steps]; exact steps_add hops m k _
theorem walk_mono {hops : List Int} {d : Int} : ∀ {m : Nat} {a : Int}, live hops.length d (walk hops d (m + 1) a) → live hops.length d (walk hops d m a)
  | 0, a, h => by
    by_cases hl : live hops.length d a
    · exact hl
    · rw [walk_dead hl] at h; exact absurd h hl
  | m + 1, a, h => by
    by_cases hl : live hops.length d a
    · simp only [walk, if_pos hl] at h ⊢
      exact walk_mono (m := m) (by simpa only [walk] using h)
    · rw [walk_dead hl] at h; exact absurd h hl
theorem walk_steps {hops : List Int} {d : Int} : ∀ {m : Nat} {a : Int}, live hops.length d (walk hops d m a) → ∀ j, j ≤ m → live hops.length d (steps hops j a)
  | m, a, h, 0, _ => by
    by_cases hl : live hops.length d a
    · exact hl
    · rw [walk_dead hl] at h; exact absurd h hl
  | 0, a, h, j + 1, hj => by omega
  | m + 1, a, h, j + 1, hj => by
    by_cases hl : live hops.length d a
    · simp only [walk, if_pos hl] at h
      exact walk_steps h j (by omega)
    · rw [walk_dead hl] at h; exact absurd h hl
theorem steps_walk {hops : List Int} {d : Int} : ∀ {m : Nat} {a : Int}, (∀ j, j < m → live hops.length d (steps hops j a)) → walk hops d m a = steps hops m a
  | 0, a, _ => rfl
  | m + 1, a, h => by
    have h0 : live hops.length d a := h 0 (by omega)
    simp only [walk, if_pos h0, steps]
    exact steps_walk fun j hj => h (j + 1) (by omega)
/-- A walk that is live behind as many steps as there are nodes never ends. -/
theorem walk_live (hops : List Int) (d : Int) (x : Int) : live hops.length d (walk hops d (hops.length + 1) x) ↔ live hops.length d (walk hops d hops.length x) := by
  refine ⟨walk_mono, fun h => ?_⟩
  have hs := walk_steps h
  rw [steps_walk fun j hj => hs j (by omega)]
  obtain ⟨i, j, h1, h2, h3⟩ := pigeon hops.length (fun j => (steps hops j x).toNat) fun j hj => by
    have := hs j hj
    unfold live at this
    omega
  have hi := hs i (by omega)
  have hj := hs j h2
  have he : steps hops i x = steps hops j x := by unfold live at hi hj; omega
  have e : steps hops (hops.length + 1) x = steps hops (i + (hops.length + 1 - j)) x := by
    rw [show hops.length + 1 = j + (hops.length + 1 - j) by omega, steps_add hops, ← he, ← steps_add hops]
    congr 1; omega
  rw [e]
  exact hs _ (by omega)

theorem loopsIn_le (hops : List Int) (d : Int) : (loopsIn hops d).length ≤ 10 := by
  unfold loopsIn
  split
  · simp
  · exact Nat.le_trans (loopsTo_le _ _ _) (by omega)

end Go.Proofs.Ytipdfhjilegkcaa
