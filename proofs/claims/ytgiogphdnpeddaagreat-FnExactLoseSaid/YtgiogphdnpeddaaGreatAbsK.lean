/-
The abstract layer, part K: append, copy, clear, and the other built-in functions.
-/
import Derived.Test.YtgiogphdnpeddaaGreatAbsJ
set_option linter.all false
namespace Go.Abs
open Go.RowKit (Below)

section
variable {P : Program} {g : Cfg} {w0 : World} {base : Nat} {F : Heap} {ι : Nat → Option Place} {β : Nat → Option Nat} {G : Heap} {env : List V} {H : Heap} {a : Act} {w : World}
variable {next : Act → World → Prop} {Q : Exit → Act → World → Prop} {K : List V → Heap → Prop}

theorem St.drew (hs : St g w0 base F ι β G env H a w) : St g w0 base F ι β G env H a w.drew := by
  refine ⟨⟨fun o ob h => ?_, hs.heap.inj, hs.heap.low.drew, hs.heap.base_le, hs.heap.fin⟩, hs.sub, hs.frm, hs.dis, hs.len, hs.slot, hs.binj, hs.bout, hs.bin, hs.nodef⟩
  exact hs.heap.obj o ob h

/-- A value that is made, with the state behind it. -/
def Made (g : Cfg) (w0 : World) (base : Nat) (F : Heap) (ι : Nat → Option Place) (β : Nat → Option Nat) (env : List V) (a : Act) (K : V → Heap → Prop) (cv : Value) (w' : World) : Prop :=
  ∃ ι' G' v H', ile ι ι' ∧ St g w0 base F ι' β G' env H' a w' ∧ RelV w0 base ι' v cv ∧ K v H'

theorem made_value (hn : Cont g w0 base F ι K next) {o : Oper} {cv : Value} {w' : World} (hrun : (execOp a.eval o).run P w = .ok (.value cv) w')
    (hm : Made g w0 base F ι β env a (fun v H' => putK g env o.dst v fun env' => K env' H') cv w') : o.wp P a w next Q := by
  obtain ⟨ι', G', v, H', hi, hs', hv, hk⟩ := hm
  obtain ⟨env', hk', hs''⟩ := putK_sound hs' hv hk
  exact wp_value hrun (hn _ _ _ _ _ _ _ hi hs'' hk')

theorem run_append_zero {t e ty : TypeId} {sz : Nat} (hu : P.underlying t = some (.slice e)) (hsz : tSize P e = some sz) (ao bo : Option Addr) (n c c' : Nat) (hnc : n ≤ c) :
    (Builtin.append_ #[t, t] ty #[.slice ao n c, .slice bo 0 c']).run P w = .ok (.slice ao n c) w := by
  obtain ⟨i, hi, rfl⟩ := tSize_spec hsz
  have hf : (Builtin.firstCells i.size 0 (.slice bo 0 c')).run P w = .ok #[] w := by
    cases bo <;> simp [Builtin.firstCells, loadCells, loadCellsFrom]
  cases ao <;> simp [Builtin.append_, run_underlying hu, sizeOf, typeInfo, hi, Builtin.lenOf, hnc, hf, storeCells]

theorem run_append_room' {t e ty ty' : TypeId} {sz : Nat} (hu : P.underlying t = some (.slice e)) (hsz : tSize P e = some sz) {b off n c m c' : Nat} {cells : Array Value} (hcell : w.heap[b]? = some (.cells cells ty' (0, 0)))
    {ao : Option Addr} {flat : List Value} (hl : flat.length = m * sz) (hm : 0 < m) (hpos : 0 < sz) (hflat : ∀ (j : Nat) v, flat[j]? = some v → ∃ ad, ao = some ad ∧ w.cell? (ad.add j) = some v) (h1 : ∀ v ∈ flat, v.oneCell' = true)
    (hroom : n + m ≤ c) (hfit : off + (n + m) * sz ≤ cells.size) :
    (Builtin.append_ #[t, t] ty #[.slice (some ⟨b, off, none⟩) n c, .slice ao m c']).run P w =
      .ok (.slice (some ⟨b, off, none⟩) (n + m) c) (w.setRow b (cells.toList.take (off + n * sz) ++ flat ++ cells.toList.drop (off + n * sz + flat.length)).toArray) := by
  obtain ⟨i, hi, rfl⟩ := tSize_spec hsz
  have hne : 0 < flat.length := by rw [hl]; exact Nat.mul_pos hm hpos
  obtain ⟨ad, rfl, _⟩ := hflat 0 flat[0] (by simp [hne])
  have hf := run_firstCells_some (P := P) w i.size m ad m c' flat hl (fun j v hj => by obtain ⟨ad', e, h⟩ := hflat j v hj; cases e; exact h)
  rw [Nat.add_mul] at hfit
  have hst := run_storeCells_at P b (off + n * i.size) ty' flat 0 cells w hcell (by rw [hl]; omega) h1
  simp only [Nat.add_zero] at hst
  simp [Builtin.append_, run_underlying hu, sizeOf, typeInfo, hi, Builtin.lenOf, hroom, hf, addr_add, hst]

theorem zeroCells_size (z : Array Value) (n : Nat) : (Builtin.zeroCells z n).size = n * z.size := by simp [Builtin.zeroCells]

theorem zeroCells_one {z : Array Value} {n : Nat} (h : ∀ v ∈ z.toList, v.oneCell' = true) (k : Nat) (cv : Value) (hk : (Builtin.zeroCells z n)[k]? = some cv) : cv.oneCell' = true := by
  have hm := Array.mem_of_getElem? hk
  unfold Builtin.zeroCells at hm
  obtain ⟨i, hi, rfl⟩ := Array.mem_map.1 hm
  have hi' : i < n * z.size := by simpa using hi
  have hz : 0 < z.size := Nat.pos_of_ne_zero (by rintro e; rw [e, Nat.mul_zero] at hi'; omega)
  have hlt := Nat.mod_lt i hz
  rw [getElem!_pos z (i % z.size) hlt]
  exact h _ (by simp)

/-- The rows that a grown slice holds. -/
theorem rowsRel_grown {sz : Nat} {xs ys : List (List V)} {fx fy : List Value} (hx : RowsFlat w0 base ι sz xs fx) (hy : RowsFlat w0 base ι sz ys fy) (rest : Array Value) (hrest : ∀ (k : Nat) cv, rest[k]? = some cv → cv.oneCell' = true) :
    RowsRel w0 base ι ⟨sz, xs ++ ys⟩ (fx.toArray ++ fy.toArray ++ rest) := by
  refine ⟨?_, fun r row hr => ?_, fun k cv hk => ?_⟩
  rotate_left 2
  · have hm : cv ∈ fx.toArray ++ fy.toArray ++ rest := Array.mem_of_getElem? hk
    rcases Array.mem_append.1 hm with hm | hm
    · rcases Array.mem_append.1 hm with hm | hm
      · exact hx.oneCell cv (by simpa using hm)
      · exact hy.oneCell cv (by simpa using hm)
    · obtain ⟨j, hj⟩ := Array.mem_iff_getElem?.1 hm
      exact hrest j cv hj
  · simp only [List.length_append, Array.size_append, List.size_toArray, hx.1, hy.1, Nat.add_mul]; omega
  · have get : ∀ i, i < fx.length + fy.length → (fx.toArray ++ fy.toArray ++ rest)[i]? = (fx ++ fy)[i]? := fun i hi => by
      rw [Array.getElem?_append_left (by simp; exact hi)]; simp
    by_cases h : r < xs.length
    · rw [show (⟨sz, xs ++ ys⟩ : Ob).rows = xs ++ ys from rfl, List.getElem?_append_left h] at hr
      obtain ⟨q1, q2⟩ := hx.2 r row hr
      refine ⟨q1, fun c v hc => ?_⟩
      obtain ⟨cv, e1, e2⟩ := q2 c v hc
      have hlt := (List.getElem?_eq_some_iff.1 e1).1
      exact ⟨cv, by dsimp only; rw [get _ (by omega), List.getElem?_append_left hlt]; exact e1, e2⟩
    · rw [show (⟨sz, xs ++ ys⟩ : Ob).rows = xs ++ ys from rfl, List.getElem?_append_right (by omega)] at hr
      obtain ⟨q1, q2⟩ := hy.2 _ row hr
      refine ⟨q1, fun c v hc => ?_⟩
      obtain ⟨cv, e1, e2⟩ := q2 c v hc
      have hlt := (List.getElem?_eq_some_iff.1 e1).1
      have hmul : r * sz = fx.length + (r - xs.length) * sz := by rw [hx.1, ← Nat.add_mul]; congr 1; omega
      refine ⟨cv, ?_, e2⟩
      dsimp only
      rw [get _ (by omega), hmul, List.getElem?_append_right (by omega), show fx.length + (r - xs.length) * sz + c - fx.length = (r - xs.length) * sz + c by omega]
      exact e1

theorem appendK_sound (hs : St g w0 base F ι β G env H a w) {t e ty : TypeId} {sz by_ : Nat} {z : V} (he : tElem P t = some e) (hsz : tSize P e = some sz) (hby : tBytes P e = some by_) (hz : tZero P e = some z)
    (hzl : (cellsOf z).length = sz) (hpos : 0 < sz) {s x : V} {cs cx : Value} {xs : List (List V)} (hvs : RelV w0 base ι s cs) (hvx : RelV w0 base ι x cx) (hxs : rowsOf H sz x = some xs) (hmax : ∀ n, n * by_ ≤ 140737488355328 → n ≤ 9223372036854775807)
    {K : V → Heap → Prop} (hk : appendK H sz by_ s xs K) :
    ∃ cv w', (Builtin.append_ #[t, t] ty #[cs, cx]).run P w = .ok cv w' ∧ Made g w0 base F ι β env a K cv w' := by
  have hu := tElem_spec he
  obtain ⟨ao, cx', flat, rfl, hfl, hcell⟩ := rows_src hs hvx hxs
  obtain ⟨i, cz, hi, hzc, hrz, hna, hzok⟩ := tZero_spec (w0 := w0) (base := base) (ι := ι) hz
  obtain ⟨i2, hi2, hsz2⟩ := tSize_spec hsz
  obtain ⟨i3, hi3, hby2⟩ := tBytes_spec hby
  rw [hi] at hi2 hi3; cases hi2; cases hi3
  subst hsz2
  subst hby2
  have hzs : cz.cells.size = i.size := by
    have := (relL_cells hrz (notAny_ne hna)).1
    rw [← hzl, this]; simp
  -- the grown case
  have grown : ∀ (ys : List (List V)) (fy : List Value) (old n : Nat), RowsFlat w0 base ι i.size ys fy → n = ys.length → (∀ o, H o = none → K (.slice o 0 (n + xs.length) none) (upd H o ⟨i.size, ys ++ xs⟩)) →
      Made g w0 base F ι β env a K (.slice (some ⟨w.heap.size, 0, none⟩) (n + xs.length) (grownCap w (n + xs.length) old e))
        (w.drew.alloc (.cells (fy.toArray ++ flat.toArray ++ Builtin.zeroCells cz.cells (grownCap w (n + xs.length) old e - (n + xs.length))) e)) := by
    intro ys fy old n hy hnl hkk
    have hge := grownCap_ge w (n + xs.length) old e
    obtain ⟨o, ι', G', hH, hi', hs', hp⟩ := hs.drew.allocH e (rowsRel_grown hy hfl (Builtin.zeroCells cz.cells (grownCap w (n + xs.length) old e - (n + xs.length))) (zeroCells_one (relL_oneCell (relL_cells hrz (notAny_ne hna)) hzok)))
    refine ⟨ι', G', _, _, hi', hs', ?_, hkk o hH⟩
    refine relV_slice_new hp hge ?_ (by intro k hk; cases hk)
    simp only [Array.size_append, List.size_toArray, zeroCells_size, hzs, hfl.1, hy.1, ← hnl, ← Nat.add_mul]
    exact Nat.mul_le_mul_right _ (by omega)
  unfold appendK at hk
  split at hk
  · cases hvs
    obtain ⟨hk0, hk1⟩ := hk
    by_cases hxe : xs = []
    · subst hxe
      exact ⟨_, _, run_append_zero hu hsz none ao 0 0 cx' (Nat.le_refl _), ι, G, _, _, ile.refl _, hs, .nils, hk0 rfl⟩
    · obtain ⟨hb, hkk⟩ := hk1 hxe
      have hxl : 0 < xs.length := List.length_pos_iff.2 hxe
      have hne : 0 < flat.length := by rw [hfl.1]; exact Nat.mul_pos hxl hpos
      obtain ⟨ad, rfl, _⟩ := hcell 0 flat[0] (by simp [hne])
      have hr := run_append_nil (P := P) w t ty e i cz hu hi hzc ad xs.length cx' flat hfl.1 (fun j v hj => by obtain ⟨ad', e, h⟩ := hcell j v hj; cases e; exact h) hxl
        (by have := hmax _ hb; omega) (by omega)
      refine ⟨_, _, hr, ?_⟩
      have hm := grown [] [] 0 0 ⟨by simp, by simp⟩ rfl (fun o ho => by simpa using hkk o ho)
      simpa using hm
  · rename_i o st n cap
    split at hk
    · exact hk.elim
    · rename_i ob hob
      obtain ⟨hw, hsn, hk0, hk1⟩ := hk
      -- the concrete slice
      have conc : ∃ ad c, cs = .slice (some ad) n c ∧ n ≤ c ∧ (∀ k, cap = some k → c = k) ∧ ((∃ p, ι o = some p ∧ ad = ⟨p.blk, st * p.w, none⟩ ∧ (st + c) * p.w ≤ p.size) ∨ (n = 0 ∧ c = 0)) := by
        cases hvs with
        | slice hp hnc hc hk => exact ⟨_, _, rfl, hnc, hk, .inl ⟨_, hp, rfl, hc⟩⟩
        | sliceE ad hp hk => exact ⟨ad, 0, rfl, Nat.le_refl _, fun k hk' => (hk k hk').symm, .inr ⟨rfl, rfl⟩⟩
      obtain ⟨ad, c, rfl, hnc, hkc, hwhere⟩ := conc
      by_cases hxe : xs = []
      · subst hxe
        exact ⟨_, _, run_append_zero hu hsz (some ad) ao n c cx' hnc, ι, G, _, _, ile.refl _, hs, hvs, hk0 rfl⟩
      · obtain ⟨hb, hkk⟩ := hk1 hxe
        have hxl : 0 < xs.length := List.length_pos_iff.2 hxe
        have hne : 0 < flat.length := by rw [hfl.1]; exact Nat.mul_pos hxl hpos
        obtain ⟨ax, hax, _⟩ := hcell 0 flat[0] (by simp [hne])
        subst hax
        have hcx : ∀ (j : Nat) v, flat[j]? = some v → w.cell? (ax.add j) = some v := fun j v hj => by obtain ⟨ad', e, h⟩ := hcell j v hj; cases e; exact h
        obtain ⟨p, cells, tyb, q1, q2, q3, q4, q5, q6⟩ := hs.heap.get (hs.sub _ _ hob)
        -- growing, off any slice
        have hgrow : c < n + xs.length → (∀ o', H o' = none → K (.slice o' 0 (n + xs.length) none) (upd H o' ⟨i.size, (ob.rows.drop st).take n ++ xs⟩)) →
            ∃ cv w', (Builtin.append_ #[t, t] ty #[.slice (some ad) n c, .slice (some ax) xs.length cx']).run P w = .ok cv w' ∧ Made g w0 base F ι β env a K cv w' := by
          intro hlt hkg
          have hold : ∃ fy, RowsFlat w0 base ι i.size ((ob.rows.drop st).take n) fy ∧ ∀ (j : Nat) v, fy[j]? = some v → w.cell? (ad.add j) = some v := by
            rcases hwhere with ⟨p', hp', rfl, hfit⟩ | ⟨hn0, hc0⟩
            · rw [q1] at hp'; cases hp'
              have hfl2 := rowsFlat_of q6 st n hsn
              rw [hw] at hfl2
              refine ⟨_, hfl2, fun j v hj => ?_⟩
              rw [addr_add, cell_of_heap q4, q2, hw]
              rw [List.getElem?_take] at hj
              split at hj
              · rw [List.getElem?_drop] at hj; simpa using hj
              · cases hj
            · subst hn0
              exact ⟨[], ⟨by simp, by simp⟩, by simp⟩
          obtain ⟨fy, hfy, hfc⟩ := hold
          have hlen : ((ob.rows.drop st).take n).length = n := by simp; omega
          have hr := run_append_grow (P := P) w t ty e i cz hu hi hzc ad n c fy (by rw [hfy.1, hlen]) hfc ax xs.length cx' flat hfl.1 hcx hlt
            (by have := hmax _ hb; omega) (growslice_fits hlt hb)
          exact ⟨_, _, hr, grown _ fy c n hfy hlen.symm hkg⟩
        cases hcap : cap with
        | some k =>
          subst hcap
          have hck := hkc k rfl
          subst hck
          simp only at hkk
          obtain ⟨hin, hout⟩ := hkk
          by_cases hroom : n + xs.length ≤ c
          · obtain ⟨hrows, hkk⟩ := hin hroom
            rcases hwhere with ⟨p', hp', rfl, hfit⟩ | ⟨hn0, hc0⟩
            · rw [q1] at hp'; cases hp'
              have hbnd : (st + n + xs.length) * ob.w ≤ cells.size := Nat.le_trans (Nat.mul_le_mul_right _ hrows) q6.1
              have hpw : p.w = i.size := by rw [q2, hw]
              have hr := run_append_room' (P := P) (w := w) (ty := ty) (m := xs.length) (c' := cx') hu hsz (off := st * p.w) (n := n) (c := c) q4 hfl.1 hxl hpos hcell hfl.oneCell hroom
                (by rw [hpw, ← Nat.add_mul, ← Nat.add_assoc, ← hw]; exact hbnd)
              refine ⟨_, _, hr, ι, upd G o ⟨i.size, ob.rows.take (st + n) ++ xs ++ ob.rows.drop (st + n + xs.length)⟩, .slice o st (n + xs.length) (some c), _, ile.refl _, ?_, ?_, hkk⟩
              · have hsp := q6.splice (k := st + n) (xs := xs) (tail := ob.rows.drop (st + n + xs.length)) (flat := flat) (by omega) (by rw [hw]; exact hfl.1)
                  (by simp only [List.length_drop]; refine Nat.le_trans (Nat.mul_le_mul_right _ ?_) q6.1; omega)
                  (by rw [hw]; exact hfl.2) (fun r row hr => by rw [List.getElem?_drop] at hr; exact hr) hfl.oneCell
                rw [hpw, ← Nat.add_mul, ← hw]
                have := hs.setH (ob' := ⟨ob.w, ob.rows.take (st + n) ++ xs ++ ob.rows.drop (st + n + xs.length)⟩) hob q1 q4 ?_ rfl hsp
                · exact this
                · have := splice_len cells.toList flat ((st + n) * ob.w) (by rw [hfl.1, ← hw, ← Nat.add_mul]; simpa using hbnd)
                  simpa using this
              · exact .slice q1 hroom hfit (fun k hk => by cases hk; rfl)
            · omega
          · exact hgrow (by omega) (hout (by omega))
        | none =>
          subst hcap
          simp only at hkk
          obtain ⟨hst0, hkk⟩ := hkk
          subst hst0
          by_cases hroom : n + xs.length ≤ c
          · rcases hwhere with ⟨p', hp', rfl, hfit⟩ | ⟨hn0, hc0⟩
            · rw [q1] at hp'; cases hp'
              have hpw : p.w = i.size := by rw [q2, hw]
              have hbnd : (n + xs.length) * ob.w ≤ cells.size := by
                rw [q5, ← q2]
                refine Nat.le_trans (Nat.mul_le_mul_right _ ?_) hfit
                omega
              have hr := run_append_room' (P := P) (w := w) (ty := ty) (m := xs.length) (c' := cx') hu hsz (off := 0 * p.w) (n := n) (c := c) q4 hfl.1 hxl hpos hcell hfl.oneCell hroom
                (by rw [Nat.zero_mul, Nat.zero_add, ← hw]; exact hbnd)
              have hsp := q6.splice (k := n) (xs := xs) (tail := []) (flat := flat) (by omega) (by rw [hw]; exact hfl.1) (by simpa using hbnd) (by rw [hw]; exact hfl.2) (by simp) hfl.oneCell
              obtain ⟨o', ι', G', hH', hi', hp', hs'⟩ := hs.moveH (ob' := ⟨ob.w, ob.rows.take n ++ xs ++ []⟩) hob q1 q4 (by
                have := splice_len cells.toList flat (n * ob.w) (by rw [hfl.1, ← hw, ← Nat.add_mul]; simpa using hbnd)
                simpa using this) rfl hsp
              refine ⟨_, _, hr, ι', G', .slice o' 0 (n + xs.length) none, _, hi', ?_, .slice hp' hroom hfit (fun k hk => by cases hk), hkk o' hH'⟩
              rw [Nat.zero_mul, Nat.zero_add, ← hw]
              rw [List.append_nil] at hs'
              exact hs'
            · omega
          · -- a new array: the old object is let go
            have hdel : ∀ o' , H o' = none → K (.slice o' 0 (n + xs.length) none) (upd (del H o) o' ⟨i.size, ob.rows.take n ++ xs⟩) := hkk
            have := hgrow
            -- weaken the heap behind the allocation
            have hlen : ((ob.rows.drop 0).take n).length = n := by simp; omega
            have hlt : c < n + xs.length := by omega
            have hold : ∃ fy, RowsFlat w0 base ι i.size ((ob.rows.drop 0).take n) fy ∧ ∀ (j : Nat) v, fy[j]? = some v → w.cell? (ad.add j) = some v := by
              rcases hwhere with ⟨p', hp', rfl, hfit⟩ | ⟨hn0, hc0⟩
              · rw [q1] at hp'; cases hp'
                have hfl2 := rowsFlat_of q6 0 n (by omega)
                rw [hw] at hfl2
                refine ⟨_, hfl2, fun j v hj => ?_⟩
                rw [addr_add, cell_of_heap q4]
                rw [List.getElem?_take] at hj
                split at hj
                · rw [List.getElem?_drop] at hj; simpa using hj
                · cases hj
              · subst hn0
                exact ⟨[], ⟨by simp, by simp⟩, by simp⟩
            obtain ⟨fy, hfy, hfc⟩ := hold
            have hr := run_append_grow (P := P) w t ty e i cz hu hi hzc ad n c fy (by rw [hfy.1, hlen]) hfc ax xs.length cx' flat hfl.1 hcx hlt
              (by have := hmax _ hb; omega) (growslice_fits hlt hb)
            have hge := grownCap_ge w (n + xs.length) c e
            obtain ⟨o', ι', G', hH, hi', hs', hp⟩ := hs.drew.allocH e (rowsRel_grown hfy hfl (Builtin.zeroCells cz.cells (grownCap w (n + xs.length) c e - (n + xs.length))) (zeroCells_one (relL_oneCell (relL_cells hrz (notAny_ne hna)) hzok)))
            refine ⟨_, _, hr, ι', G', .slice o' 0 (n + xs.length) none, _, hi', hs'.weaken (H' := upd (del H o) o' ⟨i.size, ob.rows.take n ++ xs⟩) ?_, ?_, hkk o' hH⟩
            · intro j y hj
              by_cases ej : j = o'
              · subst ej; rw [upd_same] at hj; rw [upd_same]; simpa using hj
              · rw [upd_ne _ _ ej] at hj; rw [upd_ne _ _ ej]
                unfold del at hj; split at hj
                · cases hj
                · exact hj
            · refine relV_slice_new hp hge ?_ (by intro k hk; cases hk)
              simp only [Array.size_append, List.size_toArray, zeroCells_size, hzs, hfl.1, hfy.1, hlen, ← Nat.add_mul]
              exact Nat.mul_le_mul_right _ (by omega)
  · exact hk.elim

end
end Go.Abs
