/-
The abstract layer, part G: new boxes, literals, loads, stores, addresses, slices.
-/
import Derived.Test.YtgiogphdnpeddaaGreatAbsF
import Derived.Great.BuildSlice
import Derived.Laws.MakeOwn
set_option linter.all false
namespace Go.Abs
open Go.RowKit (Below)

section
variable {P : Program} {g : Cfg} {w0 : World} {base : Nat} {F : Heap} {ι : Nat → Option Place} {β : Nat → Option Nat} {G : Heap} {env : List V} {H : Heap} {a : Act} {w : World}
variable {next : Act → World → Prop} {Q : Exit → Act → World → Prop} {K : List V → Heap → Prop}

theorem run_v {s : Sem Value} {cv : Value} {w w' : World} (h : s.run P w = .ok cv w') : (do pure (Next.value (← s)) : Sem Next).run P w = .ok (.value cv) w' := by
  simp only [Sem.run_bind, h, Result.andThen_ok]; rfl
theorem run_u {s : Sem Unit} {w w' : World} (h : s.run P w = .ok () w') : (do s; pure Next.skip : Sem Next).run P w = .ok .skip w' := by
  simp only [Sem.run_bind, h, Result.andThen_ok]; rfl

theorem tZero_spec {t : TypeId} {z : V} (h : tZero P t = some z) : ∃ i cz, P.info? t = some i ∧ i.zero = some cz ∧ RelV w0 base ι z cz ∧ notAny z = true ∧ (cellsOf z).all cellOk = true := by
  unfold tZero at h
  split at h
  · rename_i i hi
    split at h
    · rename_i cz hz; exact ⟨i, cz, hi, hz, vOf_sound h, vOf_notAny h, vOf_ok h⟩
    · cases h
  · cases h
theorem tSize_spec {t : TypeId} {n : Nat} (h : tSize P t = some n) : ∃ i, P.info? t = some i ∧ i.size = n := by
  unfold tSize at h
  split at h
  · rename_i i hi; cases h; exact ⟨i, hi, rfl⟩
  · cases h
theorem tBytes_spec {t : TypeId} {n : Nat} (h : tBytes P t = some n) : ∃ i, P.info? t = some i ∧ i.bytes = n := by
  unfold tBytes at h
  split at h
  · rename_i i hi; cases h; exact ⟨i, hi, rfl⟩
  · cases h
theorem tElem_spec {t e : TypeId} (h : tElem P t = some e) : P.underlying t = some (.slice e) := by
  unfold tElem at h
  split at h
  · rename_i hu; cases h; exact hu
  · cases h

theorem rowsRel_one {cs : List V} {cvs : List Value} (h : RelL w0 base ι cs cvs) (hok : cs.all cellOk = true) : RowsRel w0 base ι ⟨cs.length, [cs]⟩ cvs.toArray := by
  refine ⟨by simp [h.1], fun r row hr => ?_, fun k cv hk => relL_oneCell h hok cv (List.mem_of_getElem? (by simpa using hk))⟩
  cases r with
  | zero =>
    simp at hr; subst hr
    refine ⟨rfl, fun c v hc => ?_⟩
    have hlt : c < cvs.length := by rw [← h.1]; exact (List.getElem?_eq_some_iff.1 hc).1
    exact ⟨cvs[c], by simp [hlt], h.2 c v _ hc (by simp [hlt]), .inl (List.all_eq_true.1 hok _ (List.mem_of_getElem? hc))⟩
  | succ r => simp at hr

theorem run_newVar (t : TypeId) (v : Value) (w : World) : (newVar t v).run P w = .ok ⟨w.heap.size, 0, none⟩ (w.alloc (.cells v.cells t)) := rfl

theorem newBox_sound (hs : St g w0 base F ι β G env H a w) (hn : Cont g w0 base F ι K next) {dst : Option Tmp} {cs : List V} {cvs : List Value} (ty : TypeId) (hc : RelL w0 base ι cs cvs) (hok : cs.all cellOk = true)
    (hk : newBox g env H dst cs K) : next (a.put dst (.pointer (some ⟨w.heap.size, 0, none⟩))) (w.alloc (.cells cvs.toArray ty)) := by
  cases dst with
  | none => exact hk.elim
  | some d =>
    simp only [newBox, setK_eq] at hk
    cases hl : g.L.contains d with
    | true =>
      rw [hl] at hk
      obtain ⟨ι', β', G', hi, hs'⟩ := hs.allocL hl ty (rowsRel_one hc hok)
      exact hn _ _ _ _ _ _ _ hi hs' hk
    | false =>
      rw [hl] at hk
      cases hr : g.R.contains d with
      | true => rw [hr] at hk; exact hk.elim
      | false =>
        rw [hr] at hk
        obtain ⟨o, ι', G', hH, hi, hs', hp⟩ := hs.allocH ty (rowsRel_one hc hok)
        refine hn _ _ _ _ _ _ _ hi (hs'.put ?_) (hk o hH)
        rw [SlotRel.plain (by unfold Cfg.loc; rw [hl, hr]; rfl)]
        have := RelV.ptr (w0 := w0) (base := base) (r := 0) (c := 0) hp
        simpa using this

/-- A value and a new object at once. -/
theorem newVal_sound (hs : St g w0 base F ι β G env H a w) (hn : Cont g w0 base F ι K next) {dst : Option Tmp} {ob : Ob} {cells : Array Value} (ty : TypeId) (hr : RowsRel w0 base ι ob cells)
    {fv : Nat → V} {cv : Value} (hv : ∀ o (ι' : Nat → Option Place), ι' o = some ⟨w.heap.size, ob.w, cells.size⟩ → RelV w0 base ι' (fv o) cv)
    (hk : ∀ o, H o = none → putK g env dst (fv o) fun env' => K env' (upd H o ob)) : next (a.put dst cv) (w.alloc (.cells cells ty)) := by
  obtain ⟨o, ι', G', hH, hi, hs', hp⟩ := hs.allocH ty hr
  obtain ⟨env', hk', hs''⟩ := putK_sound hs' (hv o ι' hp) (hk o hH)
  exact hn _ _ _ _ _ _ _ hi hs'' hk'

/-! #### loads and stores -/

/-- What an address operand holds. -/
def LocRel (w0 : World) (base : Nat) (ι : Nat → Option Place) (β : Nat → Option Nat) (G : Heap) (g : Cfg) (env : List V) (l : Loc) (cv : Value) : Prop :=
  match l with
  | .heap v => RelV w0 base ι v cv
  | .here s c cs => ∃ id p, g.L.contains s = true ∧ env[s]? = some (.box cs) ∧ β s = some id ∧ ι id = some p ∧ G id = some ⟨cs.length, [cs]⟩ ∧ cv = .pointer (some ⟨p.blk, c, none⟩)

theorem locOf_sound (hs : St g w0 base F ι β G env H a w) {x : Operand} {l : Loc} (h : locOf g env x = some l) : LocRel w0 base ι β G g env l (a.eval x) := by
  unfold locOf at h
  split at h
  · rename_i t
    have slot : ∀ v, env[t]? = some v → SlotRel g w0 base ι β G t v (a.tmps.getD t undef) := fun v hv => by
      have hlt : t < a.tmps.size := by rw [← hs.len]; exact (List.getElem?_eq_some_iff.1 hv).1
      have := hs.slot t v a.tmps[t] hv (by simp [hlt])
      simpa [Array.getD, hlt] using this
    split at h
    · rename_i hl
      split at h
      · rename_i cs he; cases h
        have := slot _ he
        unfold SlotRel at this; rw [if_pos hl] at this
        rcases this with h | ⟨cs', id, p, q1, q2, q3, q4, q5⟩
        · cases h
        · cases q1; exact ⟨id, p, hl, he, q2, q3, q5, q4⟩
      · cases h
    · rename_i hl
      split at h
      · rename_i hr
        split at h
        · rename_i s c he
          split at h
          case h_2 => cases h
          split at h
          · rename_i cs he2; cases h
            have h1 := slot _ he
            unfold SlotRel at h1; rw [if_neg (by rw [hl]; exact Bool.false_ne_true), if_pos hr] at h1
            rcases h1 with h | ⟨s', c', id, p, q1, q2, q3, q4, q5⟩
            · cases h
            · cases q1
              have hlt : s < a.tmps.size := by rw [← hs.len]; exact (List.getElem?_eq_some_iff.1 he2).1
              have h2 := hs.slot s _ a.tmps[s] he2 (by simp [hlt])
              unfold SlotRel at h2; rw [if_pos q2] at h2
              rcases h2 with h | ⟨cs', id', p', r1, r2, r3, r4, r5⟩
              · cases h
              · cases r1
                rw [q3] at r2; cases r2
                exact ⟨id, p, q2, he2, q3, q4, r5, q5⟩
          · cases h
        · cases h
      · rename_i hr
        split at h
        · rename_i v he; cases h
          have := slot _ he
          rw [SlotRel.plain (by unfold Cfg.loc; rw [hl, hr]; rfl)] at this
          exact this
        · cases h
  · split at h
    · rename_i hx v he; cases h; exact ev_sound hs he
    · cases h

theorem box_row (hs : St g w0 base F ι β G env H a w) {id : Nat} {p : Place} {cs : List V} (hG : G id = some ⟨cs.length, [cs]⟩) (hp : ι id = some p) : RowRel w0 base ι w p.blk 0 cs := by
  have := (hs.heap.row (r := 0) (row := cs) hG rfl hp).1
  rwa [Nat.zero_mul] at this

theorem ldc_of {t : TypeId} {b : Bool} {sz : Nat} (h1 : tAgg P t = some b) (h2 : tSize P t = some sz) (cs : List V) (c : Nat) : ldc P t cs c = partOf b sz cs c := by
  unfold ldc; rw [h1, h2]

theorem aLoad_sound (hs : St g w0 base F ι β G env H a w) {t : TypeId} {l : Loc} {v : V} {cv : Value} (hl : LocRel w0 base ι β G g env l cv) (h : aLoadL P H t l = some v) :
    ∃ cv', (Instr.loadAt t cv).run P w = .ok cv' w ∧ RelV w0 base ι v cv' := by
  cases l with
  | heap x =>
    simp only [aLoadL, aLoad] at h
    simp only [LocRel] at hl
    split at h
    case h_2 => cases h
    rename_i bb sz hb1 hb2
    unfold aLd at h
    split at h
    · rename_i o r c
      split at h
      · rename_i row hrow
        unfold rowAt at hrow
        split at hrow
        · rename_i ob hob
          obtain ⟨p, hp, rfl⟩ := relV_ptr hl
          obtain ⟨hr, _, _⟩ := hs.heap.row (hs.sub _ _ hob) hrow hp
          rw [← ldc_of hb1 hb2] at h
          obtain ⟨cv', q1, q2⟩ := ldc_sound (P := P) hr h
          exact ⟨cv', by simp only [Instr.loadAt, Instr.sureAddr]; exact q1, q2⟩
        · cases hrow
      · cases h
    · rename_i row c
      rw [← ldc_of hb1 hb2] at h
      cases hl with
      | rop f hb hcell hrel =>
        obtain ⟨cv', q1, q2⟩ := ldc_sound (P := P) (hs.heap.rowW hb hcell hrel) h
        exact ⟨cv', by simp only [Instr.loadAt, Instr.sureAddr]; exact q1, q2⟩
    · cases h
  | here s c cs =>
    obtain ⟨id, p, h1, h2, h3, h4, h5, rfl⟩ := hl
    obtain ⟨cv', q1, q2⟩ := ldc_sound (P := P) (box_row hs h5 h4) h
    rw [Nat.zero_add] at q1
    exact ⟨cv', by simp only [Instr.loadAt, Instr.sureAddr]; exact q1, q2⟩

theorem stz_spec {sz : Nat} {row row' : List V} {c : Nat} {v : V} (h : stz sz row c v = some row') :
    (cellsOf v).length = sz ∧ c + (cellsOf v).length ≤ row.length ∧ (cellsOf v).all cellOk = true ∧ row' = putCells row c (cellsOf v) := by
  unfold stz at h
  split at h
  · rename_i hc; cases h
    simp only [Bool.and_eq_true, beq_iff_eq, decide_eq_true_eq] at hc
    obtain ⟨⟨h1, h2⟩, h3⟩ := hc
    exact ⟨h1, by rw [h1]; exact h2, h3, rfl⟩
  · cases h
theorem stc_spec {t : TypeId} {row row' : List V} {c : Nat} {v : V} (h : stc P t row c v = some row') :
    ∃ sz, tSize P t = some sz ∧ (cellsOf v).length = sz ∧ c + (cellsOf v).length ≤ row.length ∧ (cellsOf v).all cellOk = true ∧ row' = putCells row c (cellsOf v) := by
  unfold stc at h
  split at h
  · rename_i sz hsz; exact ⟨sz, hsz, stz_spec h⟩
  · cases h

theorem run_storeAt {t : TypeId} {b off : Nat} {cv : Value} {cells : Array Value} {ty : TypeId} {n : Nat} (hsz : tSize P t = some n) (hn : cv.cells.size = n) (hcell : w.heap[b]? = some (.cells cells ty (0, 0)))
    (hfit : off + cv.cells.toList.length ≤ cells.size) (h1 : ∀ x ∈ cv.cells.toList, x.oneCell' = true) :
    (Instr.storeAt t (.pointer (some ⟨b, off, none⟩)) cv).run P w = .ok () (w.setRow b (cells.toList.take off ++ cv.cells.toList ++ cells.toList.drop (off + cv.cells.toList.length)).toArray) := by
  have h := run_storeCells_at P b off ty cv.cells.toList 0 cells w hcell (by simpa using hfit) h1
  simp only [Nat.add_zero] at h
  simp only [Instr.storeAt, Instr.sureAddr, storeVar]
  simp only [Sem.run_bind, run_sizeOf hsz, Result.andThen_ok, hn, ne_eq, not_true_eq_false, if_false]
  exact h

theorem relL_put {row vs : List V} {crow cvs : List Value} (hr : RelL w0 base ι row crow) (hv : RelL w0 base ι vs cvs) {c : Nat} (hc : c + vs.length ≤ row.length) :
    RelL w0 base ι (putCells row c vs) (crow.take c ++ cvs ++ crow.drop (c + cvs.length)) := by
  refine RelL.append (RelL.append ⟨by simp [hr.1], fun i v cv h1 h2 => ?_⟩ hv) ⟨by simp [hr.1, hv.1], fun i v cv h1 h2 => ?_⟩
  · rw [List.getElem?_take] at h1 h2
    split at h1
    · rename_i hi; rw [if_pos hi] at h2; exact hr.2 i v cv h1 h2
    · cases h1
  · rw [List.getElem?_drop] at h1 h2
    rw [← hv.1] at h2
    exact hr.2 _ v cv h1 h2

theorem storeK_sound (hs : St g w0 base F ι β G env H a w) (hn : Cont g w0 base F ι K next) {t : TypeId} {l : Loc} {v : V} {cp cv : Value} (hl : LocRel w0 base ι β G g env l cp) (hv : RelV w0 base ι v cv)
    (hk : storeK P env H t v l K) : ∃ w', (Instr.storeAt t cp cv).run P w = .ok () w' ∧ ∀ dst, dst = none → next (a.put dst undef) w' := by
  cases l with
  | heap x =>
    simp only [storeK, setK_eq] at hk
    obtain ⟨H', hst, hk⟩ := bnd_elim hk
    simp only [LocRel] at hl
    unfold aStore at hst
    split at hst
    case h_2 => cases hst
    rename_i sz e1
    unfold aSt at hst
    split at hst
    · rename_i o r c
      split at hst
      · rename_i ob hob
        split at hst
        · rename_i row hrow
          split at hst
          · rename_i row' hrow'; cases hst
            obtain ⟨e2, e3, e4, rfl⟩ := stz_spec hrow'
            obtain ⟨p, hp, rfl⟩ := relV_ptr hl
            obtain ⟨p', cells, ty, q1, q2, q3, q4, q5, q6⟩ := hs.heap.get (hs.sub _ _ hob)
            rw [hp] at q1; cases q1
            have hcv := relL_cells hv (notAny_of_ok e4)
            obtain ⟨hrr, hend⟩ := q6.store hrow e3 hcv e4
            rw [q2]
            refine ⟨_, run_storeAt e1 (by rw [← e2, hcv.1]; simp) q4 (by simpa using hend) (relL_oneCell hcv e4), fun dst hd => ?_⟩
            subst hd
            refine hn _ _ _ _ _ _ _ (ile.refl _) (hs.setH (ob' := ⟨ob.w, ob.rows.set r (putCells row c (cellsOf v))⟩) hob hp q4 ?_ rfl hrr) hk
            have := splice_len cells.toList cv.cells.toList (r * ob.w + c) (by simpa using hend)
            simpa using this
          · cases hst
        · cases hst
      · cases hst
    · cases hst
  | here s c cs =>
    simp only [storeK, setK_eq] at hk
    obtain ⟨cs', hst, hk⟩ := bnd_elim hk
    obtain ⟨sz, e1, e2, e3, e4, rfl⟩ := stc_spec hst
    obtain ⟨id, p, h1, h2, h3, h4, h5, rfl⟩ := hl
    obtain ⟨p', cells, ty, q1, q2, q3, q4, q5, q6⟩ := hs.heap.get h5
    rw [h4] at q1; cases q1
    have hcv := relL_cells hv (notAny_of_ok e4)
    obtain ⟨hrr, hend⟩ := q6.store (r := 0) (by simp) e3 hcv e4
    simp only [Nat.zero_mul, Nat.zero_add] at hrr hend
    refine ⟨_, run_storeAt e1 (by rw [← e2, hcv.1]; simp) q4 (by simpa using hend) (relL_oneCell hcv e4), fun dst hd => ?_⟩
    subst hd
    have hlen : (putCells cs c (cellsOf v)).length = cs.length := by simp [putCells]; omega
    refine hn _ _ _ _ _ _ _ (ile.refl _) (hs.setL (cs' := putCells cs c (cellsOf v)) h1 h2 h3 h4 h5 q4 ?_ hlen ?_) hk
    · have := splice_len cells.toList cv.cells.toList c (by simpa using hend)
      simpa using this
    · rw [hlen]; simpa using hrr

end
end Go.Abs
