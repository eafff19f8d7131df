/-
The abstract layer, part L: the other built-in functions, calls, and all operations together.
-/
import Derived.Test.YtgiogphdnpeddaaGreatAbsK
import Derived.IntWalk
set_option linter.all false
namespace Go.Abs
open Go.RowKit (Below)

section
variable {P : Program} {g : Cfg} {w0 : World} {base : Nat} {F : Heap} {ι : Nat → Option Place} {β : Nat → Option Nat} {G : Heap} {env : List V} {H : Heap} {a : Act} {w : World}
variable {next : Act → World → Prop} {Q : Exit → Act → World → Prop}

theorem run_storeRows {b off : Nat} {cells : Array Value} {ty : TypeId} {flat : List Value} (hcell : w.heap[b]? = some (.cells cells ty (0, 0))) (hfit : off + flat.length ≤ cells.size) (h1 : ∀ v ∈ flat, v.oneCell' = true) :
    (storeCells ⟨b, off, none⟩ flat).run P w = .ok () (w.setRow b (cells.toList.take off ++ flat ++ cells.toList.drop (off + flat.length)).toArray) := by
  have := run_storeCells_at P b off ty flat 0 cells w hcell (by simpa using hfit) h1
  simpa using this

/-- Rows written over the rows of a slice, from its first on. -/
theorem overwrite (hs : St g w0 base F ι β G env H a w) {o st n : Nat} {cap : Option Nat} {ob : Ob} {sz m : Nat} {cd : Value} {ys : List (List V)} {fy : List Value}
    (hv : RelV w0 base ι (.slice o st n cap) cd) (hob : H o = some ob) (hw : ob.w = sz) (hsn : st + n ≤ ob.rows.length) (hm : ys.length = m) (hmn : m ≤ n) (hy : RowsFlat w0 base ι sz ys fy) :
    ∃ ad c, cd = .slice (some ad) n c ∧ ∃ w', (storeCells ad fy).run P w = .ok () w' ∧ St g w0 base F ι β (upd G o ⟨sz, ob.rows.take st ++ ys ++ ob.rows.drop (st + m)⟩) env (upd H o ⟨sz, ob.rows.take st ++ ys ++ ob.rows.drop (st + m)⟩) a w' := by
  obtain ⟨p, cells, tyb, q1, q2, q3, q4, q5, q6⟩ := hs.heap.get (hs.sub _ _ hob)
  subst hw
  have hbnd : (st + m) * ob.w ≤ cells.size := Nat.le_trans (Nat.mul_le_mul_right _ (by omega)) q6.1
  have hlenf : fy.length = m * ob.w := by rw [hy.1, hm]
  have hsp := q6.splice (k := st) (xs := ys) (tail := ob.rows.drop (st + m)) (flat := fy) (by omega) hy.1
    (by rw [hm]; simp only [List.length_drop]; refine Nat.le_trans (Nat.mul_le_mul_right _ ?_) q6.1; omega) hy.2 (fun r row hr => by rw [List.getElem?_drop] at hr; rw [hm]; exact hr) hy.oneCell
  have hsize : (cells.toList.take (st * ob.w) ++ fy ++ cells.toList.drop (st * ob.w + fy.length)).toArray.size = cells.size := by
    have := splice_len cells.toList fy (st * ob.w) (by rw [hlenf, ← Nat.add_mul]; simpa using hbnd)
    simpa using this
  have hst := hs.setH (ob' := ⟨ob.w, ob.rows.take st ++ ys ++ ob.rows.drop (st + m)⟩) hob q1 q4 hsize rfl hsp
  cases hv with
  | slice hp hnc hcc hk =>
    rename_i p' c
    rw [q1] at hp; cases hp
    refine ⟨_, c, rfl, _, run_storeRows q4 (by rw [q2, hlenf, ← Nat.add_mul]; exact hbnd) hy.oneCell, ?_⟩
    rw [q2]; exact hst
  | sliceE ad hp hk =>
    have hm0 : m = 0 := by omega
    have hf0 : fy = [] := List.eq_nil_of_length_eq_zero (by rw [hlenf, hm0, Nat.zero_mul])
    have hy0 : ys = [] := List.eq_nil_of_length_eq_zero (by rw [hm, hm0])
    refine ⟨ad, 0, rfl, w, by subst hf0; rfl, ?_⟩
    have : w.setRow p.blk (cells.toList.take (st * ob.w) ++ fy ++ cells.toList.drop (st * ob.w + fy.length)).toArray = w := by
      subst hf0
      have e : (cells.toList.take (st * ob.w) ++ [] ++ cells.toList.drop (st * ob.w + ([] : List Value).length)).toArray = cells := by
        apply Array.ext'; simp
      rw [e]; exact setRow_self w p.blk cells tyb (0, 0) q4
    rw [this] at hst; exact hst

theorem copyK_sound (hs : St g w0 base F ι β G env H a w) {t t' e ty : TypeId} {sz : Nat} (he : tElem P t = some e) (hsz : tSize P e = some sz) {d x : V} {cd cx : Value} {xs : List (List V)} (hd : RelV w0 base ι d cd) (hx : RelV w0 base ι x cx)
    (hxs : rowsOf H sz x = some xs) {K : V → Heap → Prop} (hk : copyK H sz d xs K) :
    ∃ cv w', (Builtin.copy_ #[t, t'] ty #[cd, cx]).run P w = .ok cv w' ∧ Made g w0 base F ι β env a K cv w' := by
  have hu := tElem_spec he
  obtain ⟨ao, cx', flat, rfl, hfl, hcell⟩ := rows_src hs hx hxs
  have hfirst : ∀ m, m ≤ xs.length → (Builtin.firstCells sz m (.slice ao xs.length cx')).run P w = .ok (flat.take (m * sz)).toArray w := by
    intro m hm
    cases ao with
    | none =>
      have hf0 : flat = [] := by
        cases flat with
        | nil => rfl
        | cons v vs => obtain ⟨ad, e, _⟩ := hcell 0 v rfl; cases e
      subst hf0; simp [Builtin.firstCells]
    | some ad =>
      refine run_firstCells_some w sz m ad _ _ _ ?_ (fun j v hj => ?_)
      · simp only [List.length_take, hfl.1]; exact Nat.min_eq_left (Nat.mul_le_mul_right _ hm)
      · rw [List.getElem?_take] at hj
        split at hj
        · obtain ⟨ad', e, h⟩ := hcell j v hj; cases e; exact h
        · cases hj
  unfold copyK at hk
  split at hk
  · cases hd
    refine ⟨_, w, ?_, ι, G, _, H, ile.refl _, hs, .int _ _, hk⟩
    have h0 := hfirst 0 (Nat.zero_le _)
    simp only [Nat.zero_mul, List.take_zero] at h0
    simp [Builtin.copy_, run_underlying hu, Builtin.lenOf, run_sizeOf hsz, goInt, h0]
  · rename_i o st n cap
    split at hk
    · exact hk.elim
    · rename_i ob hob
      obtain ⟨hw, hsn, hkk⟩ := hk
      have hty := hfl.take (min xs.length n)
      have hyl : (xs.take (min xs.length n)).length = min xs.length n := by simp
      obtain ⟨ad, c, rfl, w', hrun, hst⟩ := overwrite (P := P) hs hd hob hw hsn hyl (Nat.min_le_right _ _) hty
      have htake : xs.take (min xs.length n) = xs.take n := by
        rcases Nat.le_total n xs.length with e | e
        · rw [Nat.min_eq_right e]
        · rw [Nat.min_eq_left e, List.take_of_length_le (Nat.le_refl _), List.take_of_length_le e]
      rw [htake] at hst
      refine ⟨_, w', ?_, ι, _, _, _, ile.refl _, hst, .int _ _, hkk⟩
      have h0 := hfirst (min xs.length n) (by omega)
      simp [Builtin.copy_, run_underlying hu, Builtin.lenOf, run_sizeOf hsz, goInt, h0, hrun]
      show ((min xs.length n : Nat) : Int) = _
      omega
  · exact hk.elim


theorem zeroFlat {sz n : Nat} {z : V} {cz : Value} (hzl : (cellsOf z).length = sz) (hcz : RelL w0 base ι (cellsOf z) cz.cells.toList) (hczs : cz.cells.size = sz) (hok : (cellsOf z).all cellOk = true) :
    RowsFlat w0 base ι sz (List.replicate n (cellsOf z)) (Builtin.zeroCells cz.cells n).toList := by
  refine ⟨by simp [zeroCells_size, hczs], fun r row hr => ?_⟩
  have hrn : r < n := by
    have := (List.getElem?_eq_some_iff.1 hr).1; simpa using this
  have hrow : row = cellsOf z := by
    simp [List.getElem?_replicate, hrn] at hr; exact hr.symm
  subst hrow
  refine ⟨hzl, fun c v hcv => ?_⟩
  have hclt : c < sz := by rw [← hzl]; exact (List.getElem?_eq_some_iff.1 hcv).1
  have hclt2 : c < cz.cells.toList.length := by rw [← hcz.1, hzl]; exact hclt
  have hlt : r * sz + c < n * sz := by
    have := Nat.mul_le_mul_right sz (show r + 1 ≤ n by omega)
    rw [Nat.add_mul] at this; omega
  refine ⟨cz.cells.toList[c], ?_, hcz.2 c v _ hcv (by simp [hclt2]), .inl (List.all_eq_true.1 hok _ (List.mem_of_getElem? hcv))⟩
  have hm : (r * sz + c) % sz = c := by rw [Nat.add_comm, Nat.mul_comm, Nat.add_mul_mod_self_left, Nat.mod_eq_of_lt hclt]
  have hcl3 : c < cz.cells.size := by simpa using hclt2
  simp [Builtin.zeroCells, hczs, hlt, hm]
  exact getElem!_pos cz.cells c hcl3

theorem growZ_sound (hs : St g w0 base F ι β G env H a w) {t t' e ty : TypeId} {sz by_ : Nat} {z : V} (he : tElem P t = some e) (hsz : tSize P e = some sz) (hby : tBytes P e = some by_) (hz : tZero P e = some z)
    (hti : tInt P t' = true) (hzl : (cellsOf z).length = sz) (hpos : 0 < sz) (hbpos : 0 < by_) {s x : V} {cs cx : Value} (hvs : RelV w0 base ι s cs) (hvx : RelV w0 base ι x cx)
    {K : V → Heap → Prop} (hk : growZ H sz by_ (cellsOf z) s x K) :
    ∃ cv w', (Builtin.append_ #[t, t'] ty #[cs, cx]).run P w = .ok cv w' ∧ Made g w0 base F ι β env a K cv w' := by
  have hu := tElem_spec he
  have hu' : ∃ k, P.underlying t' = some (.int k) := by
    unfold tInt at hti
    split at hti
    · rename_i k hk; exact ⟨k, hk⟩
    · cases hti
  obtain ⟨kk, hu'⟩ := hu'
  obtain ⟨i, cz, hi, hzc, hrz, hna, hzok⟩ := tZero_spec (w0 := w0) (base := base) (ι := ι) hz
  obtain ⟨i2, hi2, hsz2⟩ := tSize_spec hsz
  obtain ⟨i3, hi3, hby2⟩ := tBytes_spec hby
  rw [hi] at hi2 hi3; cases hi2; cases hi3
  subst hsz2
  subst hby2
  have hcz := relL_cells hrz (notAny_ne hna)
  have hczs : cz.cells.size = i.size := by rw [← hzl, hcz.1]; simp
  unfold growZ at hk
  split at hk
  · rename_i o st n k kx m
    split at hk
    · exact hk.elim
    · rename_i ob hob
      obtain ⟨hw, hsn, hm0, hm1, hgt, hb, hkk⟩ := hk
      cases hvx
      obtain ⟨mm, rfl⟩ : ∃ mm : Nat, m = mm := ⟨m.toNat, by omega⟩
      simp only [Int.toNat_natCast] at hgt hb hkk
      have conc : ∃ ad fy, cs = .slice (some ad) n k ∧ RowsFlat w0 base ι i.size ((ob.rows.drop st).take n) fy ∧ ∀ (j : Nat) v, fy[j]? = some v → w.cell? (ad.add j) = some v := by
        cases hvs with
        | slice hp hnc hc hk =>
          have := hk k rfl; subst this
          obtain ⟨p, cells, tyb, q1, q2, q3, q4, q5, q6⟩ := hs.heap.get (hs.sub _ _ hob)
          rw [hp] at q1; cases q1
          have hfl2 := rowsFlat_of q6 st n hsn
          rw [hw] at hfl2
          refine ⟨_, _, rfl, hfl2, fun j v hj => ?_⟩
          rw [addr_add, cell_of_heap q4, q2, hw]
          rw [List.getElem?_take] at hj
          split at hj
          · rw [List.getElem?_drop] at hj; simpa using hj
          · cases hj
        | sliceE ad hp hk =>
          have := hk k rfl; subst this
          exact ⟨ad, [], rfl, ⟨by simp, by simp⟩, by simp⟩
      obtain ⟨ad, fy, rfl, hfy, hfc⟩ := conc
      have hlen : ((ob.rows.drop st).take n).length = n := by simp; omega
      have hfz := zeroFlat (w0 := w0) (base := base) (ι := ι) (n := mm) hzl hcz hczs hzok
      have hge := grownCap_ge w (n + mm) k e
      have hfo := run_firstCells_some (P := P) w.drew i.size n ad n k fy (by rw [hfy.1, hlen]) (by simpa using hfc)
      have hn : ¬ (n + mm ≤ k) := by omega
      have hnm : n + mm ≤ 140737488355328 := Nat.le_trans (Nat.le_mul_of_pos_right _ hbpos) hb
      have h63' : ¬ (9223372036854775807 < ((n : Int) + (mm : Int))) := by omega
      have h48' : ¬ (281474976710656 < Builtin.nextslicecap (n + mm) k * i.bytes) := by have := growslice_fits hgt hb; omega
      have hmb : ¬ (281474976710656 < mm * i.bytes) := by
        have : mm * i.bytes ≤ (n + mm) * i.bytes := Nat.mul_le_mul_right _ (by omega)
        omega
      have hmb' : ¬ ((281474976710656 : Int) < (mm : Int) * (i.bytes : Int)) := by
        have hc : ((mm * i.bytes : Nat) : Int) = (mm : Int) * (i.bytes : Int) := Int.natCast_mul _ _
        rw [← hc]; omega
      have has : (asInt (Value.int kx (mm : Int))).run P w = .ok (mm : Int) w := rfl
      have hmax : max (mm : Int) 0 = mm := by omega
      have hwr : IntKind.i64.wrap (mm : Int) = mm := IntWalk.i64_in _ ⟨by omega, by omega⟩
      have hmul : (mm * i.size = 0) ↔ mm = 0 := by
        constructor
        · intro h; rcases Nat.mul_eq_zero.1 h with h | h
          · exact h
          · omega
        · rintro rfl; simp
      have hr : (Builtin.append_ #[t, t'] ty #[.slice (some ad) n k, .int kx (mm : Int)]).run P w =
          .ok (.slice (some ⟨w.heap.size, 0, none⟩) (n + mm) (grownCap w (n + mm) k e))
            (w.drew.alloc (.cells (fy.toArray ++ (Builtin.zeroCells cz.cells mm).toList.toArray ++ Builtin.zeroCells cz.cells (grownCap w (n + mm) k e - (n + mm))) e)) := by
        have hneg : ¬ ((mm : Int) < 0) := by omega
        by_cases h0 : mm = 0
        · subst h0
          exfalso; simp at hgt
          cases hvs with
          | slice hp hnc hc hk => have := hk k rfl; omega
          | sliceE ad hp hk => omega
        · have h0' : ¬ (mm * i.size = 0) := fun h => h0 (hmul.1 h)
          simp [Builtin.append_, run_underlying hu, run_underlying hu', sizeOf, typeInfo, zeroValue, hi, hzc, has, hwr, hneg, hmb', hmax, h0', hn, h63', h48', Question.forced, hfo, newRow, grownCap]
      obtain ⟨o', ι', G', hH, hi', hs', hp⟩ := hs.drew.allocH e (rowsRel_grown hfy hfz (Builtin.zeroCells cz.cells (grownCap w (n + mm) k e - (n + mm))) (zeroCells_one (relL_oneCell hcz hzok)))
      refine ⟨_, _, hr, ι', G', _, _, hi', hs', ?_, hkk o' hH⟩
      refine relV_slice_new hp hge ?_ (by intro k hk; cases hk)
      simp only [Array.size_append, List.size_toArray, zeroCells_size, hczs, hfy.1, hlen, Array.length_toList, ← Nat.add_mul]
      exact Nat.mul_le_mul_right _ (by omega)
  · exact hk.elim

theorem clearK_sound (hs : St g w0 base F ι β G env H a w) {t e ty : TypeId} {sz : Nat} {z : V} (he : tElem P t = some e) (hsz : tSize P e = some sz) (hz : tZero P e = some z) {d : V} {cd : Value} (hd : RelV w0 base ι d cd)
    {K : V → Heap → Prop} (hk : clearK H sz (cellsOf z) d K) :
    ∃ cv w', (Builtin.clear_ #[t] ty #[cd]).run P w = .ok cv w' ∧ Made g w0 base F ι β env a K cv w' := by
  have hu := tElem_spec he
  unfold clearK at hk
  split at hk
  · cases hd
    exact ⟨.tuple #[], w, by simp [Builtin.clear_, run_underlying hu], ι, G, _, H, ile.refl _, hs, relV_tup RelL.nil, hk⟩
  · rename_i o st n cap
    split at hk
    · exact hk.elim
    · rename_i ob hob
      obtain ⟨hw, hsn, hzl, hkk⟩ := hk
      obtain ⟨i, cz, hi, hzc, hrz, hna, hok⟩ := tZero_spec (w0 := w0) (base := base) (ι := ι) hz
      have hcz := relL_cells hrz (notAny_ne hna)
      have hczs : cz.cells.size = sz := by rw [← hzl, hcz.1]; simp
      have hfl := zeroFlat (n := n) hzl hcz hczs hok
      obtain ⟨ad, c, rfl, w', hrun, hst⟩ := overwrite (P := P) hs hd hob hw hsn (by simp) (Nat.le_refl n) hfl
      refine ⟨.tuple #[], w', ?_, ι, _, _, _, ile.refl _, hst, relV_tup RelL.nil, hkk⟩
      have hzv : (zeroValue e).run P w = .ok cz w := by simp [zeroValue, typeInfo, hi, hzc]
      cases n with
      | zero =>
        have h0 : (Builtin.zeroCells cz.cells 0).toList = [] := by simp [Builtin.zeroCells]
        rw [h0] at hrun
        have hww : w' = w := by
          have : Result.ok () w = Result.ok () w' := hrun
          cases this; rfl
        rw [hww]
        simp [Builtin.clear_, run_underlying hu]
      | succ n => simp [Builtin.clear_, run_underlying hu, hzv, hrun]
  · exact hk.elim

theorem aMin2_sound (mx : Bool) {x y v : V} {cx cy : Value} (hx : RelV w0 base ι x cx) (hy : RelV w0 base ι y cy) (h : aMin2 mx x y = some v) :
    ∃ cv, (match mx with | true => Builtin.max2 cx cy | false => Builtin.min2 cx cy).run P w = .ok cv w ∧ RelV w0 base ι v cv := by
  unfold aMin2 at h
  split at h
  · rw [relV_int hx, relV_int hy]
    split at h
    · rename_i hk; subst hk; cases h
      cases mx
      · exact ⟨_, rfl, .int _ _⟩
      · exact ⟨_, rfl, .int _ _⟩
    · cases h
  · cases h

theorem aMins_sound (mx : Bool) : ∀ {ys : List V} {x v : V} {cx : Value} {cys : List Value}, RelV w0 base ι x cx → RelL w0 base ι ys cys → aMins mx x ys = some v →
    ∃ cv, (cys.foldlM (match mx with | true => Builtin.max2 | false => Builtin.min2) cx).run P w = .ok cv w ∧ RelV w0 base ι v cv
  | [], x, v, cx, cys, hx, hy, h => by
    simp [aMins] at h; subst h
    have := hy.cases_nil; subst this
    exact ⟨cx, rfl, hx⟩
  | y :: ys, x, v, cx, cys, hx, hy, h => by
    obtain ⟨cy, cys', rfl, h1, h2⟩ := hy.cases_cons
    unfold aMins at h
    split at h
    · rename_i z hz
      obtain ⟨cz, q1, q2⟩ := aMin2_sound (P := P) (w := w) mx hx h1 hz
      obtain ⟨cv, r1, r2⟩ := aMins_sound mx q2 h2 h
      refine ⟨cv, ?_, r2⟩
      simp only [List.foldlM_cons, Sem.run_bind]
      cases mx
      · simp only at q1 r1 ⊢; rw [q1]; exact r1
      · simp only at q1 r1 ⊢; rw [q1]; exact r1
    · cases h

theorem lenOf_sound {t : TypeId} {e ty : TypeId} (hu : P.underlying t = some (.slice e)) {x : V} {cx : Value} {n : Nat} (hx : RelV w0 base ι x cx) (h : lenOf x = some n) : (Builtin.len_ #[t] ty #[cx]).run P w = .ok (.int .i64 n) w := by
  unfold lenOf at h
  split at h
  · cases h
    cases hx with
    | slice hp hn hc hk => simp [Builtin.len_, run_underlying hu, goInt]
    | sliceE a hp hk => simp [Builtin.len_, run_underlying hu, goInt]
  · cases h; cases hx; simp [Builtin.len_, run_underlying hu, goInt]
  · cases h
    cases hx with
    | ro f hb hn hc hw hcell hrel => subst hn; simp [Builtin.len_, run_underlying hu, goInt]
    | roE a c => simp [Builtin.len_, run_underlying hu, goInt]
  · cases h


theorem builtin_sound (hs : St g w0 base F ι β G env H a w) {b : Builtin} {tys : List TypeId} {ty : TypeId} {cb : Array Bool} {args : List V} {cargs : List Value} (ha : RelL w0 base ι args cargs) {K : V → Heap → Prop} (hk : builtinK P H b tys args K) :
    ∃ cv w', (builtin b tys.toArray ty cb cargs.toArray).run P w = .ok (.value cv) w' ∧ Made g w0 base F ι β env a K cv w' := by
  unfold builtinK at hk
  split at hk
  · rename_i t x
    obtain ⟨cx, r, rfl, h1, h2⟩ := ha.cases_cons
    have := h2.cases_nil; subst this
    obtain ⟨e, he, hk⟩ := bnd_elim hk
    obtain ⟨n, hn, hk⟩ := bnd_elim hk
    exact ⟨_, w, run_v (lenOf_sound (tElem_spec he) h1 hn), ι, G, _, H, ile.refl _, hs, .int _ _, hk⟩
  · rename_i t x
    obtain ⟨cx, r, rfl, h1, h2⟩ := ha.cases_cons
    have := h2.cases_nil; subst this
    obtain ⟨e, he, hk2⟩ := bnd_elim hk
    clear hk
    have hu := tElem_spec he
    unfold capK at hk2
    split at hk2
    · cases h1 with
      | slice hp hn hc hkk => exact ⟨_, w, run_v (by simp [Builtin.cap_, run_underlying hu, goInt]), ι, G, _, H, ile.refl _, hs, .int _ _, hk2 _ hn⟩
      | sliceE ad hp hkk => exact ⟨_, w, run_v (by simp [Builtin.cap_, run_underlying hu, goInt]), ι, G, _, H, ile.refl _, hs, .int _ _, hk2 0 (Nat.le_refl _)⟩
    · cases h1 with
      | slice hp hn hc hkk =>
        have := hkk _ rfl; subst this
        exact ⟨_, w, run_v (by simp [Builtin.cap_, run_underlying hu, goInt]), ι, G, _, H, ile.refl _, hs, .int _ _, hk2⟩
      | sliceE ad hp hkk =>
        have := hkk _ rfl; subst this
        exact ⟨_, w, run_v (by simp [Builtin.cap_, run_underlying hu, goInt]), ι, G, _, H, ile.refl _, hs, .int _ _, hk2⟩
    · cases h1
      exact ⟨_, w, run_v (by simp [Builtin.cap_, run_underlying hu, goInt]), ι, G, _, H, ile.refl _, hs, .int _ _, hk2⟩
    · exact hk2.elim
  · rename_i t t' s x
    obtain ⟨cs, r, rfl, h1, h2⟩ := ha.cases_cons
    obtain ⟨cx, r, rfl, h3, h4⟩ := h2.cases_cons
    have := h4.cases_nil; subst this
    split at hk
    · rename_i htt; subst htt
      obtain ⟨e, he, hk⟩ := bnd_elim hk
      obtain ⟨sz, hsz, hk⟩ := bnd_elim hk
      obtain ⟨by_, hby, hk⟩ := bnd_elim hk
      obtain ⟨z, hz, hk⟩ := bnd_elim hk
      split at hk
      · rename_i hc
        obtain ⟨xs, hxs, hk⟩ := bnd_elim hk
        obtain ⟨cv, w', hr, hm⟩ := appendK_sound (P := P) (ty := ty) hs he hsz hby hz hc.1 hc.2.1 h1 h3 hxs (fun n hn => by
          have := Nat.mul_le_mul_left n hc.2.2
          simp at this; omega) hk
        exact ⟨cv, w', run_v hr, hm⟩
      · exact hk.elim
    · obtain ⟨e, he, hk⟩ := bnd_elim hk
      obtain ⟨sz, hsz, hk⟩ := bnd_elim hk
      obtain ⟨by_, hby, hk⟩ := bnd_elim hk
      obtain ⟨z, hz, hk⟩ := bnd_elim hk
      split at hk
      · rename_i hc
        obtain ⟨cv, w', hr, hm⟩ := growZ_sound (P := P) (ty := ty) hs he hsz hby hz hc.1 hc.2.1 hc.2.2.1 hc.2.2.2 h1 h3 hk
        exact ⟨cv, w', run_v hr, hm⟩
      · exact hk.elim
  · rename_i t t' d x
    obtain ⟨cs, r, rfl, h1, h2⟩ := ha.cases_cons
    obtain ⟨cx, r, rfl, h3, h4⟩ := h2.cases_cons
    have := h4.cases_nil; subst this
    obtain ⟨e, he, hk⟩ := bnd_elim hk
    obtain ⟨sz, hsz, hk⟩ := bnd_elim hk
    obtain ⟨xs, hxs, hk⟩ := bnd_elim hk
    obtain ⟨cv, w', hr, hm⟩ := copyK_sound (P := P) (ty := ty) hs he hsz h1 h3 hxs hk
    exact ⟨cv, w', run_v hr, hm⟩
  · rename_i t d
    obtain ⟨cs, r, rfl, h1, h2⟩ := ha.cases_cons
    have := h2.cases_nil; subst this
    obtain ⟨e, he, hk⟩ := bnd_elim hk
    obtain ⟨sz, hsz, hk⟩ := bnd_elim hk
    obtain ⟨z, hz, hk⟩ := bnd_elim hk
    obtain ⟨cv, w', hr, hm⟩ := clearK_sound (P := P) (ty := ty) hs he hsz hz h1 hk
    exact ⟨cv, w', run_v hr, hm⟩
  · rename_i x xs
    obtain ⟨cx, r, rfl, h1, h2⟩ := ha.cases_cons
    obtain ⟨v, hv, hk⟩ := bnd_elim hk
    obtain ⟨cv, q1, q2⟩ := aMins_sound (P := P) (w := w) false h1 h2 hv
    exact ⟨cv, w, run_v q1, ι, G, _, H, ile.refl _, hs, q2, hk⟩
  · rename_i x xs
    obtain ⟨cx, r, rfl, h1, h2⟩ := ha.cases_cons
    obtain ⟨v, hv, hk⟩ := bnd_elim hk
    obtain ⟨cv, q1, q2⟩ := aMins_sound (P := P) (w := w) true h1 h2 hv
    exact ⟨cv, w, run_v q1, ι, G, _, H, ile.refl _, hs, q2, hk⟩
  · exact hk.elim

end
end Go.Abs
