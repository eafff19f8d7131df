/-
The abstract layer, part E: reading and writing rows of cells.
-/
import Derived.Test.YtgiogphdnpeddaaGreatAbsD
set_option linter.all false
namespace Go.Abs
open Go.RowKit (Below)

section
variable {P : Program} {w0 : World} {base : Nat} {ι : Nat → Option Place} {G : Heap} {w : World}

/-- The cells of one row, from (b, off) on. -/
def RowRel (w0 : World) (base : Nat) (ι : Nat → Option Place) (w : World) (b off : Nat) (row : List V) : Prop :=
  ∀ (j : Nat) (v : V), row[j]? = some v → ∃ cv, w.cell? ⟨b, off + j, none⟩ = some cv ∧ RelV w0 base ι v cv

theorem addr_add (b off n : Nat) : (⟨b, off, none⟩ : Addr).add n = ⟨b, off + n, none⟩ := by
  unfold Addr.add; split <;> simp_all

theorem cell_of_heap {w : World} {b : Nat} {cells : Array Value} {ty : TypeId} (h : w.heap[b]? = some (.cells cells ty (0, 0))) (i : Nat) : w.cell? ⟨b, i, none⟩ = cells[i]? := by
  simp [World.cell?, h]

theorem RelH.row (h : RelH w0 base ι G w) {o r : Nat} {ob : Ob} {row : List V} {p : Place} (hG : G o = some ob) (hr : ob.rows[r]? = some row) (hp : ι o = some p) :
    RowRel w0 base ι w p.blk (r * p.w) row ∧ row.length = ob.w ∧ p.w = ob.w := by
  obtain ⟨p', cells, ty, h1, h2, h3, h4, h5, h6⟩ := h.get hG
  rw [hp] at h1; cases h1
  refine ⟨fun j v hj => ?_, (h6.2.1 r row hr).1, h2⟩
  obtain ⟨cv, hc, hv⟩ := (h6.2.1 r row hr).2 j v hj
  exact ⟨cv, by rw [cell_of_heap h4, h2]; exact hc, hv.1⟩

theorem RelH.rowW (h : RelH w0 base ι G w) {row : List V} {b off : Nat} {f : Nat → Value} (hb : b < base) (hcell : ∀ j, j < row.length → w0.cell? ⟨b, off + j, none⟩ = some (f j))
    (hrel : ∀ j (hj : j < row.length), RelV w0 base ι (row[j]) (f j)) : RowRel w0 base ι w b off row := by
  intro j v hj
  obtain ⟨hlt, rfl⟩ := List.getElem?_eq_some_iff.1 hj
  exact ⟨f j, by rw [h.low.cell (p := ⟨b, off + j, none⟩) hb]; exact hcell j hlt, hrel j hlt⟩

theorem run_isAgg {t : TypeId} {b : Bool} (h : tAgg P t = some b) (w : World) : (isAgg t).run P w = .ok b w := by
  unfold tAgg at h
  unfold isAgg
  split at h
  · rename_i hu; cases h; simp [underlying, hu]
  · rename_i hu; cases h; simp [underlying, hu]
  · rename_i d h1 h2 hu; cases h
    cases d <;> first | (simp [underlying, hu]; done) | (exact (h1 _ rfl).elim) | (exact (h2 _ _ rfl).elim)
  · cases h

theorem run_sizeOf {t : TypeId} {n : Nat} (h : tSize P t = some n) (w : World) : (sizeOf t).run P w = .ok n w := by
  unfold tSize at h
  split at h
  · rename_i i hi; cases h; simp [sizeOf, typeInfo, hi]
  · cases h

theorem run_loadCells_rel {b off n c : Nat} {row : List V} (hr : RowRel w0 base ι w b off row) (hc : c + n ≤ row.length) :
    ∃ cvs : List Value, (loadCells ⟨b, off + c, none⟩ n).run P w = .ok cvs.toArray w ∧ RelL w0 base ι ((row.drop c).take n) cvs := by
  have key : ∀ j, j < n → ∃ cv, w.cell? ⟨b, off + (c + j), none⟩ = some cv ∧ ∃ v, row[c + j]? = some v ∧ RelV w0 base ι v cv := fun j hj => by
    have hlt : c + j < row.length := by omega
    obtain ⟨cv, h1, h2⟩ := hr (c + j) row[c + j] (by simp [hlt])
    exact ⟨cv, h1, _, by simp [hlt], h2⟩
  let f : Nat → Value := fun j => (w.cell? ⟨b, off + (c + j), none⟩).getD undef
  refine ⟨(List.range n).map f, run_loadCells w ⟨b, off + c, none⟩ n f (fun j hj => ?_), by simp; omega, fun j v cv h1 h2 => ?_⟩
  · obtain ⟨cv, h1, _⟩ := key j hj
    rw [addr_add, show off + c + j = off + (c + j) by omega]
    simp [f, h1]
  · have hj : j < n := by
      have := (List.getElem?_eq_some_iff.1 h2).1; simpa using this
    obtain ⟨cv', q1, v', q2, q3⟩ := key j hj
    have e1 : v = v' := by
      rw [List.getElem?_take, if_pos hj, List.getElem?_drop] at h1
      rw [h1] at q2; cases q2; rfl
    have e2 : cv = cv' := by
      simp [hj, f, q1] at h2; exact h2.symm
    rw [e1, e2]; exact q3

theorem ldc_sound {t : TypeId} {b off c : Nat} {row : List V} {v : V} (hr : RowRel w0 base ι w b off row) (h : ldc P t row c = some v) :
    ∃ cv, (loadVar t ⟨b, off + c, none⟩).run P w = .ok cv w ∧ RelV w0 base ι v cv := by
  unfold ldc at h
  split at h
  · rename_i ag sz h1 h2
    cases ag with
    | true =>
      simp only [partOf] at h
      split at h
      · rename_i hc; cases h
        obtain ⟨cvs, q1, q2⟩ := run_loadCells_rel (P := P) hr hc
        exact ⟨.agg cvs.toArray, by simp only [loadVar, Sem.run_bind, run_isAgg h1, Result.andThen_ok, if_true, run_sizeOf h2, q1]; rfl, relV_agg q2⟩
      · cases h
    | false =>
      simp only [partOf] at h
      obtain ⟨cv, q1, q2⟩ := hr c v h
      exact ⟨cv, by simp only [loadVar, Sem.run_bind, run_isAgg h1, Result.andThen_ok, Bool.false_eq_true, if_false, run_load, q1], q2⟩
  · cases h

/-! #### writing -/

theorem oneCell_of {v : V} {cv : Value} (h : RelV w0 base ι v cv) (hk : cellOk v = true) : cv.oneCell' = true := by
  cases h <;> first | rfl | (simp [cellOk] at hk)

theorem CellRel.one {v : V} {cv : Value} (h : CellRel w0 base ι v cv) : cv.oneCell' = true := by
  obtain ⟨h1, h2 | h2⟩ := h
  · exact oneCell_of h1 h2
  · exact h2.2
theorem splice_one {l xs : List Value} {k m : Nat} (hl : ∀ (i : Nat) cv, l[i]? = some cv → cv.oneCell' = true) (hx : ∀ v ∈ xs, v.oneCell' = true) (i : Nat) (cv : Value) (h : (l.take k ++ xs ++ l.drop m).toArray[i]? = some cv) : cv.oneCell' = true := by
  have hm : cv ∈ l.take k ++ xs ++ l.drop m := by
    have := List.mem_of_getElem? (l := l.take k ++ xs ++ l.drop m) (i := i) (by simpa using h)
    exact this
  have hin : ∀ v ∈ l, v.oneCell' = true := fun v hv => by
    obtain ⟨j, hj⟩ := List.mem_iff_getElem?.1 hv
    exact hl j v hj
  rcases List.mem_append.1 hm with hm | hm
  · rcases List.mem_append.1 hm with hm | hm
    · exact hin _ (List.mem_of_mem_take hm)
    · exact hx _ hm
  · exact hin _ (List.mem_of_mem_drop hm)

theorem relL_oneCell {vs : List V} {cvs : List Value} (h : RelL w0 base ι vs cvs) (hk : vs.all cellOk = true) : ∀ v ∈ cvs, v.oneCell' = true := by
  intro cv hm
  obtain ⟨i, hi, rfl⟩ := List.getElem_of_mem hm
  have hi' : i < vs.length := by rw [h.1]; exact hi
  refine oneCell_of (h.2 i vs[i] cvs[i] (by simp [hi']) (by simp [hi])) ?_
  exact List.all_eq_true.1 hk _ (List.getElem_mem hi')

theorem splice_get (l xs : List Value) (k : Nat) (hk : k ≤ l.length) (i : Nat) :
    (l.take k ++ xs ++ l.drop (k + xs.length))[i]? = if i < k then l[i]? else if i < k + xs.length then xs[i - k]? else l[i]? := by
  have hk' : (l.take k).length = k := by simp; omega
  by_cases h1 : i < k
  · rw [if_pos h1, List.append_assoc, List.getElem?_append_left (by omega), List.getElem?_take, if_pos h1]
  · rw [if_neg h1]
    by_cases h2 : i < k + xs.length
    · rw [if_pos h2, List.append_assoc, List.getElem?_append_right (by omega), hk', List.getElem?_append_left (by omega)]
    · rw [if_neg h2, List.append_assoc, List.getElem?_append_right (by omega), hk', List.getElem?_append_right (by omega), List.getElem?_drop]
      congr 1; omega

theorem splice_len (l xs : List Value) (k : Nat) (hk : k + xs.length ≤ l.length) : (l.take k ++ xs ++ l.drop (k + xs.length)).length = l.length := by
  simp; omega

/-- Rows of cells spliced in, whole rows: from row k on. -/
theorem RowsRel.splice {ob : Ob} {cells : Array Value} (h : RowsRel w0 base ι ob cells) {k : Nat} {xs tail : List (List V)} {flat : List Value}
    (hk : k ≤ ob.rows.length) (hflat : flat.length = xs.length * ob.w) (hfit : (k + xs.length + tail.length) * ob.w ≤ cells.size)
    (hx : ∀ r row, xs[r]? = some row → row.length = ob.w ∧ ∀ (c : Nat) v, row[c]? = some v → ∃ cv, flat[r * ob.w + c]? = some cv ∧ CellRel w0 base ι v cv)
    (ht : ∀ (r : Nat) row, tail[r]? = some row → ob.rows[k + xs.length + r]? = some row) (hone : ∀ v ∈ flat, v.oneCell' = true) :
    RowsRel w0 base ι ⟨ob.w, ob.rows.take k ++ xs ++ tail⟩ (cells.toList.take (k * ob.w) ++ flat ++ cells.toList.drop (k * ob.w + flat.length)).toArray := by
  have hkw : k * ob.w ≤ cells.size := Nat.le_trans (Nat.mul_le_mul_right _ hk) h.1
  have hkx : (k + xs.length) * ob.w ≤ cells.size := Nat.le_trans (Nat.mul_le_mul_right _ (by omega)) hfit
  rw [Nat.add_mul] at hkx
  have hlen : (cells.toList.take (k * ob.w) ++ flat ++ cells.toList.drop (k * ob.w + flat.length)).length = cells.size := by
    rw [splice_len _ _ _ (by rw [hflat]; simpa using hkx)]; simp
  have hkl : (ob.rows.take k).length = k := by simp; omega
  refine ⟨?_, fun r row hr => ?_, splice_one (fun i cv hi => h.2.2 i cv (by simpa using hi)) hone⟩
  · simp only [List.size_toArray, hlen]
    have : (ob.rows.take k ++ xs ++ tail).length = k + xs.length + tail.length := by simp; omega
    rw [this]; exact hfit
  · have get : ∀ i, (cells.toList.take (k * ob.w) ++ flat ++ cells.toList.drop (k * ob.w + flat.length)).toArray[i]? =
        if i < k * ob.w then cells[i]? else if i < k * ob.w + flat.length then flat[i - k * ob.w]? else cells[i]? := fun i => by
      have := splice_get cells.toList flat (k * ob.w) (by simpa using hkw) i
      simpa using this
    by_cases h1 : r < k
    · rw [List.append_assoc, List.getElem?_append_left (by omega), List.getElem?_take, if_pos h1] at hr
      obtain ⟨q1, q2⟩ := h.2.1 r row hr
      refine ⟨q1, fun c v hc => ?_⟩
      obtain ⟨cv, e1, e2⟩ := q2 c v hc
      refine ⟨cv, ?_, e2⟩
      have hcl : c < ob.w := by rw [← q1]; exact (List.getElem?_eq_some_iff.1 hc).1
      have hlt : r * ob.w + c < k * ob.w := by
        have := Nat.mul_le_mul_right ob.w (show r + 1 ≤ k by omega)
        rw [Nat.add_mul] at this; omega
      dsimp only; rw [get, if_pos hlt]; exact e1
    · by_cases h2 : r < k + xs.length
      · rw [List.append_assoc, List.getElem?_append_right (by omega), hkl, List.getElem?_append_left (by omega)] at hr
        obtain ⟨q1, q2⟩ := hx (r - k) row hr
        refine ⟨q1, fun c v hc => ?_⟩
        obtain ⟨cv, e1, e2⟩ := q2 c v hc
        refine ⟨cv, ?_, e2⟩
        have hcl : c < ob.w := by rw [← q1]; exact (List.getElem?_eq_some_iff.1 hc).1
        have hge : k * ob.w ≤ r * ob.w := Nat.mul_le_mul_right _ (by omega)
        have hsub : r * ob.w + c - k * ob.w = (r - k) * ob.w + c := by rw [Nat.sub_mul]; omega
        have hlt : r * ob.w + c < k * ob.w + flat.length := by
          rw [hflat]
          have := Nat.mul_le_mul_right ob.w (show r + 1 ≤ k + xs.length by omega)
          rw [Nat.add_mul, Nat.add_mul] at this; omega
        dsimp only; rw [get, if_neg (by omega), if_pos hlt, hsub]; exact e1
      · rw [List.append_assoc, List.getElem?_append_right (by omega), hkl, List.getElem?_append_right (by omega)] at hr
        have hr' := ht _ row hr
        rw [show k + xs.length + (r - k - xs.length) = r by omega] at hr'
        obtain ⟨q1, q2⟩ := h.2.1 r row hr'
        refine ⟨q1, fun c v hc => ?_⟩
        obtain ⟨cv, e1, e2⟩ := q2 c v hc
        refine ⟨cv, ?_, e2⟩
        have hge : (k + xs.length) * ob.w ≤ r * ob.w := Nat.mul_le_mul_right _ (by omega)
        rw [Nat.add_mul] at hge
        dsimp only; rw [get, if_neg (by omega), if_neg (by rw [hflat]; omega)]; exact e1

/-- Some cells of one row written. -/
theorem RowsRel.store {ob : Ob} {cells : Array Value} (h : RowsRel w0 base ι ob cells) {r c : Nat} {row : List V} {vs : List V} {cvs : List Value}
    (hr : ob.rows[r]? = some row) (hc : c + vs.length ≤ row.length) (hv : RelL w0 base ι vs cvs) (hok : vs.all cellOk = true) :
    RowsRel w0 base ι ⟨ob.w, ob.rows.set r (putCells row c vs)⟩ (cells.toList.take (r * ob.w + c) ++ cvs ++ cells.toList.drop (r * ob.w + c + cvs.length)).toArray ∧ r * ob.w + c + cvs.length ≤ cells.size := by
  have hrl : r < ob.rows.length := (List.getElem?_eq_some_iff.1 hr).1
  have hw := (h.2.1 r row hr).1
  have hend : r * ob.w + c + cvs.length ≤ cells.size := by
    have := Nat.mul_le_mul_right ob.w (show r + 1 ≤ ob.rows.length by omega)
    rw [Nat.add_mul] at this
    have := h.1
    rw [← hv.1]; omega
  refine ⟨⟨?_, fun r' row' hr' => ?_, splice_one (fun i cv hi => h.2.2 i cv (by simpa using hi)) (relL_oneCell hv hok)⟩, hend⟩
  · have hlen := splice_len cells.toList cvs (r * ob.w + c) (by simpa using hend)
    simp only [List.size_toArray, hlen]
    simpa using h.1
  · have get : ∀ i, (cells.toList.take (r * ob.w + c) ++ cvs ++ cells.toList.drop (r * ob.w + c + cvs.length)).toArray[i]? =
        if i < r * ob.w + c then cells[i]? else if i < r * ob.w + c + cvs.length then cvs[i - (r * ob.w + c)]? else cells[i]? := fun i => by
      have := splice_get cells.toList cvs (r * ob.w + c) (by have := hend; simp; omega) i
      simpa using this
    by_cases e : r = r'
    · subst e
      have hr'' : row' = putCells row c vs := by
        have : (ob.rows.set r (putCells row c vs))[r]? = some (putCells row c vs) := by simp [hrl]
        have h3 : (ob.rows.set r (putCells row c vs))[r]? = some row' := hr'
        rw [this] at h3; cases h3; rfl
      subst hr''
      have hpl : (putCells row c vs).length = ob.w := by simp [putCells]; omega
      refine ⟨hpl, fun j v hj => ?_⟩
      have htl : (row.take c).length = c := by simp; omega
      have hvl := hv.1
      unfold putCells at hj
      by_cases h1 : j < c
      · rw [List.append_assoc, List.getElem?_append_left (by omega), List.getElem?_take, if_pos h1] at hj
        obtain ⟨cv, e1, e2⟩ := (h.2.1 r row hr).2 j v hj
        exact ⟨cv, by dsimp only; rw [get, if_pos (by omega)]; exact e1, e2⟩
      · by_cases h2 : j < c + vs.length
        · rw [List.append_assoc, List.getElem?_append_right (by omega), htl, List.getElem?_append_left (by omega)] at hj
          have hlt : j - c < cvs.length := by omega
          refine ⟨cvs[j - c], ?_, hv.2 (j - c) v _ hj (by simp [hlt]), .inl (List.all_eq_true.1 hok _ (List.mem_of_getElem? hj))⟩
          dsimp only
          rw [get, if_neg (by omega), if_pos (by omega), show r * ob.w + j - (r * ob.w + c) = j - c by omega]
          simp [hlt]
        · rw [List.append_assoc, List.getElem?_append_right (by omega), htl, List.getElem?_append_right (by omega), List.getElem?_drop] at hj
          rw [show c + vs.length + (j - c - vs.length) = j by omega] at hj
          obtain ⟨cv, e1, e2⟩ := (h.2.1 r row hr).2 j v hj
          exact ⟨cv, by dsimp only; rw [get, if_neg (by omega), if_neg (by omega)]; exact e1, e2⟩
    · have hr'' : ob.rows[r']? = some row' := by
        have h3 : (ob.rows.set r (putCells row c vs))[r']? = some row' := hr'
        rwa [List.getElem?_set_ne e] at h3
      obtain ⟨q1, q2⟩ := h.2.1 r' row' hr''
      refine ⟨q1, fun j v hj => ?_⟩
      obtain ⟨cv, e1, e2⟩ := q2 j v hj
      refine ⟨cv, ?_, e2⟩
      have hjl : j < ob.w := by rw [← q1]; exact (List.getElem?_eq_some_iff.1 hj).1
      have hvl := hv.1
      dsimp only
      rw [get]
      by_cases hlt : r' < r
      · have := Nat.mul_le_mul_right ob.w (show r' + 1 ≤ r by omega)
        rw [Nat.add_mul] at this
        rw [if_pos (by omega)]; exact e1
      · have := Nat.mul_le_mul_right ob.w (show r + 1 ≤ r' by omega)
        rw [Nat.add_mul] at this
        rw [if_neg (by omega), if_neg (by omega)]; exact e1

end
end Go.Abs
