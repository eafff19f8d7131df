/-
The abstract layer, part I: addresses, slices, numbers, makes.
-/
import Derived.Test.YtgiogphdnpeddaaGreatAbsH
set_option linter.all false
namespace Go.Abs
open Go.RowKit (Below)

section
variable {P : Program} {g : Cfg} {w0 : World} {base : Nat} {F : Heap} {ι : Nat → Option Place} {β : Nat → Option Nat} {G : Heap} {env : List V} {H : Heap} {a : Act} {w : World}
variable {next : Act → World → Prop} {Q : Exit → Act → World → Prop} {K : List V → Heap → Prop}

theorem natOf_spec {v : V} {n : Nat} (h : natOf v = some n) : ∃ k m, v = .int k m ∧ 0 ≤ m ∧ n = m.toNat := by
  unfold natOf at h
  split at h
  · rename_i k m
    split at h
    · rename_i hm; cases h; exact ⟨k, m, rfl, hm, rfl⟩
    · cases h
  · cases h

theorem madeCells_get {z : Array Value} {n i : Nat} (hz : 0 < z.size) (hi : i < n) : (madeCells z n)[i]? = z.toList[i % z.size]? := by
  have hlt : i % z.size < z.size := Nat.mod_lt _ hz
  simp [madeCells, hi, hlt]

theorem zeros_rel {t : TypeId} {z : V} {n sz : Nat} (hz : tZero P t = some z) (hl : (cellsOf z).length = sz) (hpos : 0 < sz) : ∃ i cz, P.info? t = some i ∧ i.zero = some cz ∧ cz.cells.size = sz ∧
    RowsRel w0 base ι ⟨sz, List.replicate n (cellsOf z)⟩ (madeCells cz.cells (n * sz)) := by
  obtain ⟨i, cz, hi, hzc, hrz, hna, hok⟩ := tZero_spec (w0 := w0) (base := base) (ι := ι) hz
  have hc := relL_cells hrz (notAny_ne hna)
  have hcs : cz.cells.size = sz := by rw [← hl, hc.1]; simp
  refine ⟨i, cz, hi, hzc, hcs, rowsRel_zeros hc hok hl _ (size_madeCells _ _) fun j hj => ?_⟩
  rw [madeCells_get (by omega) hj, hcs]

theorem relV_slice_new {o : Nat} {ι' : Nat → Option Place} {b W n c size : Nat} {cap : Option Nat} (hp : ι' o = some ⟨b, W, size⟩) (hn : n ≤ c) (hc : c * W ≤ size) (hk : ∀ k, cap = some k → c = k) :
    RelV w0 base ι' (.slice o 0 n cap) (.slice (some ⟨b, 0, none⟩) n c) := by
  have := RelV.slice (w0 := w0) (base := base) (s := 0) (p := ⟨b, W, size⟩) hp hn (by simpa using hc) hk
  simpa using this

theorem makeSlice_sound (hs : St g w0 base F ι β G env H a w) (hn : Cont g w0 base F ι K next) {o : Oper} {t e : TypeId} {x y : Operand} (ho : o.op = .makeSlice t x y) {l c : V} {l' c' sz by_ : Nat} {z : V}
    (hx : ev g env x = some l) (hy : ev g env y = some c) (hl : natOf l = some l') (hc : natOf c = some c') (he : tElem P t = some e) (hsz : tSize P e = some sz) (hby : tBytes P e = some by_) (hz : tZero P e = some z)
    (h : l' ≤ c' ∧ c' ≤ 140737488355328 ∧ by_ * c' ≤ 281474976710656 ∧ (cellsOf z).length = sz ∧ 0 < sz)
    (hk : ∀ id, H id = none → putK g env o.dst (.slice id 0 l' (some c')) fun env' => K env' (upd H id ⟨sz, List.replicate c' (cellsOf z)⟩)) : o.wp P a w next Q := by
  obtain ⟨h1, h2, h3, h4, h5⟩ := h
  obtain ⟨i, cz, hi, hzc, hcs, hrr⟩ := zeros_rel (P := P) (w0 := w0) (base := base) (ι := ι) (n := c') hz h4 h5
  obtain ⟨i2, hi2, hsz2⟩ := tSize_spec hsz
  obtain ⟨i3, hi3, hby2⟩ := tBytes_spec hby
  rw [hi] at hi2 hi3; cases hi2; cases hi3
  have evx := ev_sound hs hx
  have evy := ev_sound hs hy
  obtain ⟨k1, n1, rfl, p1, rfl⟩ := natOf_spec hl
  obtain ⟨k2, n2, rfl, p2, rfl⟩ := natOf_spec hc
  have ex := relV_int evx
  have ey := relV_int evy
  have hbytes : (i.bytes : Int) * n2 ≤ 281474976710656 := by
    have : ((i.bytes * n2.toNat : Nat) : Int) ≤ 281474976710656 := by rw [hby2]; omega
    rw [Int.natCast_mul, Int.toNat_of_nonneg p2] at this; exact this
  have hrun := run_make (P := P) w t e i cz (tElem_spec he) hi hzc k1 k2 n1 n2 p1 (by omega) hbytes (by omega)
  refine wp_value (cv := .slice (some ⟨w.heap.size, 0, none⟩) n1.toNat n2.toNat) (w' := w.alloc (.cells (madeCells cz.cells (n2.toNat * i.size)) e)) ?_ ?_
  · unfold execOp; rw [ho]; simp only [ex, ey]
    exact run_v hrun
  · rw [hsz2]
    refine newVal_sound hs hn e hrr (fv := fun id => .slice id 0 n1.toNat (some n2.toNat)) (fun id ι' hp => ?_) hk
    exact relV_slice_new hp h1 (by rw [size_madeCells]; exact Nat.le_refl _) (by intro k hk; cases hk; rfl)

theorem buildSlice_sound (hs : St g w0 base F ι β G env H a w) (hn : Cont g w0 base F ι K next) {o : Oper} {t e : TypeId} {len : Nat} {parts : Array (Nat × Operand)} (ho : o.op = .buildSlice t len parts) {ps : List (Nat × V)} {sz : Nat} {z : V} {rows : List (List V)}
    (hps : evp g env parts.toList = some ps) (he : tElem P t = some e) (hsz : tSize P e = some sz) (hz : tZero P e = some z)
    (hw : allW sz ps = true) (hlen : len * sz ≤ 16777216) (hzl : (cellsOf z).length = sz) (hpos : 0 < sz) (hf : fillR (List.replicate len (cellsOf z)) ps = some rows)
    (hk : ∀ id, H id = none → putK g env o.dst (.slice id 0 len (some len)) fun env' => K env' (upd H id ⟨sz, rows⟩)) : o.wp P a w next Q := by
  obtain ⟨i, cz, hi, hzc, hcs, hrr⟩ := zeros_rel (P := P) (w0 := w0) (base := base) (ι := ι) (n := len) hz hzl hpos
  obtain ⟨i2, hi2, hsz2⟩ := tSize_spec hsz
  rw [hi] at hi2; cases hi2
  have hrel := evp_rel hs hps
  obtain ⟨cells', q1, q2, q3⟩ := fillR_sound hpos hrel hw hrr hf
  have hfill : Instr.fill (fun j => some (j * i.size, i.size)) (if len * i.size = 0 then #[] else madeCells cz.cells (len * i.size)) (parts.map fun (j, x) => (j, a.eval x)).toList = some cells' := by
    rw [hsz2]
    split
    · rename_i h0
      have hm : madeCells cz.cells (len * sz) = #[] := Array.eq_empty_of_size_eq_zero (by rw [size_madeCells]; exact h0)
      rw [hm] at q1
      simpa using q1
    · simpa using q1
  have hu := tElem_spec he
  have hrun : (Instr.buildSlice t len (parts.map fun (j, x) => (j, a.eval x))).run P w = .ok (.slice (some ⟨w.heap.size, 0, none⟩) len len) (w.alloc (.cells cells' e)) := by
    have hsm : ¬ (16777216 < len * i.size) := by rw [hsz2]; omega
    simp only [Array.toList_map] at hfill
    by_cases h0 : len * i.size = 0
    · rw [if_pos h0] at hfill
      simp [Instr.buildSlice, run_underlying hu, sizeOf, typeInfo, hi, h0, newRow, show Array.range 0 = #[] from rfl, hfill]
    · rw [if_neg h0] at hfill
      unfold madeCells at hfill
      simp [Instr.buildSlice, run_underlying hu, sizeOf, typeInfo, zeroValue, hi, hzc, hsm, h0, newRow, hfill]
  refine wp_value (cv := .slice (some ⟨w.heap.size, 0, none⟩) len len) (w' := w.alloc (.cells cells' e)) ?_ ?_
  · unfold execOp; rw [ho]; exact run_v hrun
  · refine newVal_sound hs hn e q3 (fv := fun id => .slice id 0 len (some len)) (fun id ι' hp => ?_) hk
    refine relV_slice_new hp (Nat.le_refl _) ?_ (by intro k hk; cases hk; rfl)
    rw [q2, size_madeCells]; exact Nat.le_refl _

theorem tOff_spec {t : TypeId} {f : Nat} {r : Nat × TypeId} (h : tOff P t f = some r) : ∃ fs fd n, P.underlying t = some (.struct fs) ∧ fs[f]? = some fd ∧ tSize P fd.type = some (n + 1) ∧ r = (fd.offset, fd.type) := by
  unfold tOff at h
  split at h
  · rename_i fs hu
    split at h
    · rename_i fd hfd
      split at h
      · rename_i n hn; cases h; exact ⟨fs, fd, n, hu, hfd, hn, rfl⟩
      · cases h
    · cases h
  · cases h

theorem run_fieldAt' {t : TypeId} {f : Nat} {r : Nat × TypeId} (h : tOff P t f = some r) (b off : Nat) : (Instr.fieldAt t (.pointer (some ⟨b, off, none⟩)) f).run P w = .ok (.pointer (some ⟨b, off + r.1, none⟩)) w := by
  obtain ⟨fs, fd, n, h1, h2, h3, rfl⟩ := tOff_spec h
  simp only [Instr.fieldAt, Sem.run_bind, run_underlying h1, Result.andThen_ok, h2, Instr.sureAddr, fieldPlace]
  simp [run_sizeOf h3, addr_add]

theorem fieldK_sound (hs : St g w0 base F ι β G env H a w) (hn : Cont g w0 base F ι K next) {o : Oper} {t : TypeId} {x : Operand} {f : Nat} (ho : o.op = .fieldAddr t x f) {l : Loc} {r : Nat × TypeId} (hl : locOf g env x = some l) (hr : tOff P t f = some r)
    (hk : fieldK g env o.dst r.1 l fun env' => K env' H) : o.wp P a w next Q := by
  have hloc := locOf_sound hs hl
  cases l with
  | heap p =>
    simp only [fieldK, setK_eq] at hk
    simp only [LocRel] at hloc
    obtain ⟨v, hv, hk⟩ := bnd_elim hk
    unfold aField at hv
    split at hv
    · cases hv
      obtain ⟨p, hp, hev⟩ := relV_ptr hloc
      refine value_sound hs hn (cv := .pointer (some ⟨p.blk, _ * p.w + (_ + r.1), none⟩)) ?_ (.ptr hp) hk
      unfold execOp; rw [ho]; simp only [hev]; rw [← Nat.add_assoc]; exact run_v (run_fieldAt' hr _ _)
    · cases hv
      generalize hcv : a.eval x = cv at hloc
      cases hloc with
      | rop fn hb hcell hrel =>
        rename_i b off
        refine value_sound hs hn (cv := .pointer (some ⟨b, off + (_ + r.1), none⟩)) ?_ (.rop fn hb hcell hrel) hk
        unfold execOp; rw [ho]; simp only [hcv]; rw [← Nat.add_assoc]; exact run_v (run_fieldAt' hr _ _)
    · cases hv
  | here s c cs =>
    simp only [fieldK, setK_eq] at hk
    obtain ⟨id, p, h1, h2, h3, h4, h5, hev⟩ := hloc
    refine wp_value (cv := .pointer (some ⟨p.blk, c + r.1, none⟩)) (w' := w) ?_ ?_
    · unfold execOp; rw [ho]; simp only [hev]; exact run_v (run_fieldAt' hr _ _)
    · cases hd : o.dst with
      | none => rw [hd] at hk; exact hn _ _ _ _ _ _ _ (ile.refl _) hs hk
      | some d =>
        rw [hd] at hk
        simp only at hk
        cases hL : g.L.contains d with
        | true => rw [hL] at hk; exact hk.elim
        | false =>
          rw [hL] at hk
          cases hR : g.R.contains d with
          | false => rw [hR] at hk; exact hk.elim
          | true =>
            rw [hR] at hk
            refine hn _ _ _ _ _ _ _ (ile.refl _) (hs.put ?_) hk
            unfold SlotRel
            rw [if_neg (by rw [hL]; exact Bool.false_ne_true), if_pos hR]
            exact .inr ⟨s, _, id, p, rfl, h1, h3, h4, rfl⟩

theorem aIndex_sound (hs : St g w0 base F ι β G env H a w) {t e : TypeId} {sz : Nat} (he : tElem P t = some e) (hsz : tSize P e = some sz) {x i v : V} {cx ci : Value} (hx : RelV w0 base ι x cx) (hi : RelV w0 base ι i ci) (h : aIndex H sz x i = some v) :
    ∃ cv, (Instr.indexAt t cx ci).run P w = .ok cv w ∧ RelV w0 base ι v cv := by
  have hu := tElem_spec he
  unfold aIndex at h
  split at h
  · rename_i o s n cap k m
    split at h
    · rename_i hb
      split at h
      · rename_i ob hob
        split at h
        · rename_i hw; cases h
          obtain rfl := relV_int hi
          cases hx with
          | slice hp hnc hc hk =>
            rename_i p c
            obtain ⟨p', cells, ty, q1, q2, _⟩ := hs.heap.get (hs.sub _ _ hob)
            rw [hp] at q1; cases q1
            refine ⟨.pointer (some ⟨p.blk, (s + m.toNat) * p.w + 0, none⟩), ?_, .ptr hp⟩
            have hmul : s * p.w + m.toNat * sz = (s + m.toNat) * p.w := by rw [q2, hw, Nat.add_mul]
            simp [Instr.indexAt, asIntOf, run_underlying hu, hb, run_sizeOf hsz, addr_add, hmul]
          | sliceE a hp hk => exact absurd hb.2 (by have := hb.1; simp; omega)
        · cases h
      · cases h
    · cases h
  · rename_i rows k m
    split at h
    · rename_i hb
      split at h
      · rename_i row hrow
        split at h
        · rename_i hw; cases h
          obtain rfl := relV_int hi
          have hlt := (List.getElem?_eq_some_iff.1 hrow).1
          have hrow' : rows[m.toNat] = row := (List.getElem?_eq_some_iff.1 hrow).2
          cases hx with
          | ro f hbase hn hc hwid hcell hrel =>
            rename_i b off W n c
            subst hn
            have hW : W = sz := by rw [← hwid _ hlt, hrow']; exact hw
            subst hW
            refine ⟨.pointer (some ⟨b, off + m.toNat * W + 0, none⟩), ?_, .rop (fun j => f m.toNat j) hbase (fun j hj => ?_) (fun j hj => ?_)⟩
            · have hb2 : m < (rows.length : Int) := by omega
              simp [Instr.indexAt, asIntOf, run_underlying hu, hb, hb2, run_sizeOf hsz, addr_add]
            · rw [Nat.add_assoc]; exact hcell _ _ hlt (by rw [← hw]; exact hj)
            · subst hrow'; exact hrel _ _ hlt hj
          | roE a c => simp at hlt
        · cases h
      · cases h
    · cases h
  · cases h

theorem aConv_sound {s d : TypeId} {x v : V} {cx : Value} (hx : RelV w0 base ι x cx) (h : aConv P s d x = some v) : ∃ cv, (convert s d cx).run P w = .ok cv w ∧ RelV w0 base ι v cv := by
  unfold aConv at h
  split at h
  case h_2 => cases h
  rename_i k hc
  unfold convTo at hc
  split at hc
  case h_2 => cases hc
  rename_i h1 h2
  cases hc
  unfold aCv at h
  split at h
  · cases h
    rw [relV_int hx]
    exact ⟨_, by simp [convert, run_underlying h1, run_underlying h2, Conv.intToInt], .int _ _⟩
  · cases h

theorem aExtract_sound {i : Nat} {x v : V} {cx : Value} (hx : RelV w0 base ι x cx) (h : aExtract i x = some v) : ∃ cv, (Instr.extract cx i).run P w = .ok cv w ∧ RelV w0 base ι v cv := by
  unfold aExtract at h
  split at h
  · obtain ⟨cvs, rfl, hr⟩ := relL_of_tup hx
    have hlt : i < cvs.length := by rw [← hr.1]; exact (List.getElem?_eq_some_iff.1 h).1
    exact ⟨cvs[i], by simp [Instr.extract, hlt], hr.2 i v _ h (by simp [hlt])⟩
  · cases h

theorem aPick_sound {c x y v : V} {cc cx cy : Value} (hc : RelV w0 base ι c cc) (hx : RelV w0 base ι x cx) (hy : RelV w0 base ι y cy) (h : aPick c x y = some v) :
    ∃ cv, (do pure (Go.Next.value (if ← asBool cc then cx else cy)) : Sem Go.Next).run P w = .ok (.value cv) w ∧ RelV w0 base ι v cv := by
  unfold aPick at h
  split at h
  · rename_i t; cases h
    rw [relV_bool hc]
    cases t
    · exact ⟨cy, rfl, hy⟩
    · exact ⟨cx, rfl, hx⟩
  · cases h

end
end Go.Abs
