/-
The kit's contract of slices.SortFunc over rows of two numbers, taken over to the abstract heap.
-/
import Derived.Test.YtaippfedjjjpeaaGreatAbs3
import Derived.Shelf.SlSortCmp.InsertionK
import Derived.Sort.Statements
set_option linter.all false
namespace Go.Abs
open Go Go.Sort Go.Proofs Go.Shelf

section
variable {α : Type} [Inhabited α] (en : α → Int × Int)
def rowV (a : α) : List V := [.int .i64 (en a).1, .int .i64 (en a).2]
def rowC (a : α) : List Value := [.int .i64 (en a).1, .int .i64 (en a).2]
/-- What the kit says of the sort. -/
def KitSort (P : Program) (f g : FuncId) (lt : α → α → Bool) : Prop :=
  ∀ (blk off cap : Nat) (d : Array α) (w : World), HoldsK (rowC en) 2 w blk off d → blk < w.heap.size → d.size < 4611686018427387904 →
    Calls P f #[.slice (some ⟨blk, off, none⟩) d.size cap, .func (.func g) #[] #[]] w fun e w' =>
      e = .returned (.tuple #[]) ∧ ∃ d' n os, PermIn 0 d.size d d' ∧ SortedIn lt 0 d.size d' ∧ w' = sortWorldK (rowC en) 2 w blk off n d' os
theorem RelH.like {w0 : World} {base : Nat} {ι : Nat → Option Place} {G : Heap} {w w' : World} (h : RelH w0 base ι G w) (hh : ∀ (k : Nat) x, w.heap[k]? = some x → w'.heap[k]? = some x) (hl : Go.RowKit.Below base w0 w') (hb : base ≤ w'.heap.size) : RelH w0 base ι G w' where
  obj o ob ho := by
    obtain ⟨p, cells, ty, h1, h2, h3, h4, h5⟩ := h.obj o ob ho
    exact ⟨p, cells, ty, h1, h2, h3, hh _ _ h4, h5⟩
  inj := h.inj
  low := hl
  base_le := hb
  fin := h.fin
theorem flat_row (ps : List α) (j : Nat) (hj : j < ps.length * 2) : ∃ a, ps[j / 2]? = some a ∧ (flatK (rowC en) 2 ps.toArray)[j]! = if j % 2 = 0 then .int .i64 (en a).1 else .int .i64 (en a).2 := by
  have h2 : j / 2 < ps.length := by omega
  refine ⟨ps[j / 2], by simp [h2], ?_⟩
  rw [get_flatK _ _ _ _ (by simpa using hj)]
  have e : (ps.toArray)[j / 2]! = ps[j / 2] := by simp [h2]
  rw [e]
  unfold rowC
  by_cases q : j % 2 = 0
  · rw [if_pos q, q]; rfl
  · have : j % 2 = 1 := by omega
    rw [if_neg q, this]; rfl

theorem sort_heap (w : World) (m blk off : Nat) (F : Array Value) (os : Array Obj) (k : Nat) (x : Obj) (hx : w.heap[k]? = some x) : (grow (putRow id (Sort.ahead w m) blk off F) os).heap[k]? = some (if blk = k then onCells (Sort.putCells id off F) x else x) := by
  have hk : k < w.heap.size := (Array.getElem?_eq_some_iff.1 hx).1
  show ((w.heap.modify blk (onCells (Sort.putCells id off F))) ++ os)[k]? = _
  rw [Array.getElem?_append_left (by simpa using hk), Array.getElem?_modify, hx]
  split <;> rfl
theorem relH_sort {w0 : World} {base : Nat} {ι : Nat → Option Place} {G : Heap} {w : World} (h : RelH w0 base ι G w) {o : Nat} {ps ps' : List α} {p : Place} {cells : Array Value} {ty : TypeId} {m : Nat} {os : Array Obj}
    (hG : G o = some ⟨2, ps.map (rowV en)⟩) (hp : ι o = some p) (hb : base ≤ p.blk) (hcell : w.heap[p.blk]? = some (.cells cells ty (0, 0))) (hsz : cells.size = p.size) (hr : RowsRel w0 base ι ⟨2, ps.map (rowV en)⟩ cells) (hl : ps'.length = ps.length) :
    RelH w0 base ι (upd G o ⟨2, ps'.map (rowV en)⟩) (sortWorldK (rowC en) 2 w p.blk 0 m ps'.toArray os) := by
  have hlen : ps.length * 2 ≤ cells.size := by have := hr.1; simpa using this
  have hF : (flatK (rowC en) 2 ps'.toArray).size = ps'.length * 2 := by simp
  have hc : ∀ k, (Sort.putCells id 0 (flatK (rowC en) 2 ps'.toArray) cells)[k]? = (cells[k]?).map fun x => if k < ps'.length * 2 then (flatK (rowC en) 2 ps'.toArray)[k]! else x := fun k => by
    unfold Sort.putCells
    rw [Array.getElem?_mapIdx]
    congr 1
    funext x
    rw [hF]
    simp
  have hset := h.set (ob' := ⟨2, ps'.map (rowV en)⟩) (cells' := Sort.putCells id 0 (flatK (rowC en) 2 ps'.toArray) cells) hG hp hcell (by simp [Sort.putCells]) rfl (by
    refine ⟨by simp [Sort.putCells]; omega, fun r row hrow => ?_, fun k cv hk => ?_⟩
    · simp only [List.getElem?_map, Option.map_eq_some_iff] at hrow
      obtain ⟨a, ha, rfl⟩ := hrow
      have hr2 := (List.getElem?_eq_some_iff.1 ha).1
      refine ⟨rfl, fun c v hv => ?_⟩
      have c2 : c < 2 := (List.getElem?_eq_some_iff.1 hv).1
      obtain ⟨a', ha', e⟩ := flat_row en ps' (r * 2 + c) (by omega)
      rw [show (r * 2 + c) / 2 = r by omega, ha] at ha'
      cases ha'
      have hcs : r * 2 + c < cells.size := by omega
      show ∃ cv, (Sort.putCells id 0 (flatK (rowC en) 2 ps'.toArray) cells)[r * 2 + c]? = some cv ∧ _
      refine ⟨_, by rw [hc, Array.getElem?_eq_getElem hcs, Option.map_some, if_pos (by omega), e], ?_⟩
      rcases (show c = 0 ∨ c = 1 by omega) with rfl | rfl
      · simp [rowV] at hv
        subst hv
        rw [if_pos (by omega)]
        exact ⟨.int _ _, .inl rfl⟩
      · simp [rowV] at hv
        subst hv
        rw [if_neg (by omega)]
        exact ⟨.int _ _, .inl rfl⟩
    · rw [hc] at hk
      simp only [Option.map_eq_some_iff] at hk
      obtain ⟨x, hx, rfl⟩ := hk
      split
      · rename_i q
        obtain ⟨a', _, e⟩ := flat_row en ps' k q
        rw [e]
        split <;> rfl
      · exact hr.2.2 k x hx)
  refine hset.like (fun k x hx => ?_) ?_ ?_
  · by_cases e : k = p.blk
    · subst e
      rw [setRow_heap _ _ _ _ _ _ hcell] at hx
      cases hx
      have := sort_heap w m p.blk 0 (flatK (rowC en) 2 ps'.toArray) os _ _ hcell
      rw [if_pos rfl] at this
      exact this
    · rw [setRow_other _ _ _ _ e] at hx
      have := sort_heap w m p.blk 0 (flatK (rowC en) 2 ps'.toArray) os k x hx
      rw [if_neg (fun q => e q.symm)] at this
      exact this
  · refine h.low.trans ⟨rfl, rfl, rfl, ?_, fun k hk => ?_⟩
    · show w.heap.size ≤ ((w.heap.modify p.blk _) ++ os).size
      simp
    · have hk2 : k < w.heap.size := by have := h.base_le; omega
      have := sort_heap w m p.blk 0 (flatK (rowC en) 2 ps'.toArray) os k _ (Array.getElem?_eq_getElem hk2)
      rw [if_neg (by omega)] at this
      rw [Array.getElem?_eq_getElem hk2]
      exact this
  · show base ≤ ((w.heap.modify p.blk _) ++ os).size
    have := h.base_le
    simp
    omega

/-- The sort, on the abstract heap. -/
theorem acalls_sort {P : Program} {f g : FuncId} {lt : α → α → Bool} (hc : KitSort en P f g lt) {H0 H : Heap} {v : V} {ps : List α} {K : V → Heap → Prop} (hv : Held H0 2 (ps.map (rowV en)) v H) (hne : ps ≠ []) (hsz : ps.length < 4611686018427387904)
    (hk : ∀ (ps' : List α) H', ps'.Perm ps → (∀ i j (h1 : i < j) (h2 : j < ps'.length), lt ps'[j] ps'[i] = false) → Held H0 2 (ps'.map (rowV en)) v H' → K (.tup []) H') : ACalls P f [v, .fn g []] H K := by
  rcases hv with ⟨_, h2, _⟩ | ⟨o, cap, h1, rfl, hcap, rfl⟩
  · exact absurd (by simpa using h2) hne
  refine ⟨fun w0 base F ι G w cargs hrel hsub hF hdis hargs => ?_⟩
  obtain ⟨cv, cvs, rfl, a1, a2⟩ := hargs.cases_cons
  obtain ⟨cf, cvs', rfl, a3, a4⟩ := a2.cases_cons
  obtain rfl := a4.cases_nil
  have hGo : G o = some ⟨2, ps.map (rowV en)⟩ := hsub o _ (upd_same _ _ _)
  obtain ⟨p, cells, ty, e1, e2, e3, e4, e5, e6⟩ := hrel.get hGo
  have e2 : p.w = 2 := e2
  have hpos : 0 < ps.length := List.length_pos_iff.2 hne
  have hcv : ∃ c, cv = .slice (some ⟨p.blk, 0, none⟩) ps.length c := by
    generalize hn : (ps.map (rowV en)).length = n at a1
    have hn2 : n = ps.length := by rw [← hn]; simp
    cases a1 with
    | slice h hn' hc' hk' =>
      rw [e1] at h
      cases h
      rename_i c0
      exact ⟨c0, by rw [hn2]; simp⟩
    | sliceE a h hk' => omega
  obtain ⟨c, rfl⟩ := hcv
  have hcf : cf = .func (.func g) #[] #[] := by
    cases a3 with
    | fn hl h =>
      rename_i cs
      have : cs = #[] := by
        apply Array.eq_empty_of_size_eq_zero
        simpa using hl.symm
      rw [this]
  subst hcf
  have hlen : ps.length * 2 ≤ cells.size := by have := e6.1; simpa using this
  have hH : HoldsK (rowC en) 2 w p.blk 0 ps.toArray := fun j hj => by
    have hj : j < ps.length * 2 := by simpa using hj
    obtain ⟨a, ha, e⟩ := flat_row en ps j hj
    have hrow : (ps.map (rowV en))[j / 2]? = some (rowV en a) := by simp [ha]
    have hr := (e6.2.1 _ _ hrow).2
    have hb : w.cell? ⟨p.blk, 0 + j, none⟩ = cells[j]? := by
      unfold World.cell?
      simp only [e4, Nat.zero_add]
      rfl
    refine ⟨?_, ?_⟩
    · rw [hb, e]
      by_cases q : j % 2 = 0
      · obtain ⟨cv, k1, k2⟩ := hr 0 (.int .i64 (en a).1) rfl
        have k1 : cells[j / 2 * 2 + 0]? = some cv := k1
        rw [show j / 2 * 2 + 0 = j by omega] at k1
        rw [k1, if_pos q]
        have := k2.1
        cases this
        rfl
      · obtain ⟨cv, k1, k2⟩ := hr 1 (.int .i64 (en a).2) rfl
        have k1 : cells[j / 2 * 2 + 1]? = some cv := k1
        rw [show j / 2 * 2 + 1 = j by omega] at k1
        rw [k1, if_neg q]
        have := k2.1
        cases this
        rfl
    · unfold World.frozen?
      simp only [e4]
      simp
  have hcall := hc p.blk 0 c ps.toArray w hH (block_lt e4) (by simpa using hsz)
  have es : (#[.slice (some ⟨p.blk, 0, none⟩) ps.toArray.size c, .func (.func g) #[] #[]] : Array Value) = [Value.slice (some ⟨p.blk, 0, none⟩) ps.length c, .func (.func g) #[] #[]].toArray := by simp
  rw [es] at hcall
  refine hcall.mono ?_
  rintro e w' ⟨rfl, d', n, os, ⟨p1, p2, p3⟩, hs, rfl⟩
  have hsz' : d'.size = ps.length := by simpa using p1
  have hl : d'.toList.length = ps.length := by simpa using hsz'
  have hR := relH_sort en hrel (ps' := d'.toList) (m := n) (os := os) hGo e1 e3 e4 e5 e6 hl
  have hd : d'.toList.toArray = d' := by simp
  rw [hd] at hR
  have hperm : d'.toList.Perm ps := by
    have e1 : d'.extract 0 ps.toArray.size = d' := by
      rw [← p1]; simp
    have e2 : ps.toArray.extract 0 ps.toArray.size = ps.toArray := by simp
    rw [e1, e2] at p3
    simpa using p3
  have hHo : (upd H0 o ⟨2, ps.map (rowV en)⟩) o = some ⟨2, ps.map (rowV en)⟩ := upd_same _ _ _
  have hFo : F o = none := hdis _ _ hHo
  refine ⟨.tup [], .tuple #[], ι, _, upd H0 o ⟨2, d'.toList.map (rowV en)⟩, rfl, relV_tup RelL.nil, fun i q hi => hi, hR, fun i x hi => ?_, fun i x hi => ?_, fun i x hi => ?_, ?_⟩
  · by_cases e : i = o
    · subst e; rw [upd_same] at hi ⊢; exact hi
    · rw [upd_ne _ _ e] at hi ⊢
      exact hsub i x (by rw [upd_ne _ _ e]; exact hi)
  · have : i ≠ o := by rintro rfl; rw [hFo] at hi; cases hi
    rw [upd_ne _ _ this]
    exact hF i x hi
  · by_cases e : i = o
    · subst e; exact hFo
    · rw [upd_ne _ _ e] at hi
      exact hdis i x (by rw [upd_ne _ _ e]; exact hi)
  · refine hk d'.toList _ hperm (fun i j h1 h2 => ?_) (.inr ⟨o, cap, h1, by simp [hl], fun k hk' => ?_, rfl⟩)
    · have hj : j < d'.size := by simpa using h2
      have := hs i j (Nat.zero_le _) h1 (by rw [← p1]; exact hj)
      rw [getElem!_pos d' j hj, getElem!_pos d' i (by omega)] at this
      simpa using this
    · have := hcap k hk'
      simp at this ⊢
      omega

end
end Go.Abs
