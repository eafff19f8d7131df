/-
The abstract layer, part H: literals, addresses, slices, numbers.
-/
import Derived.Test.YtgiogphdnpeddaaGreatAbsG
set_option linter.all false
namespace Go.Abs
open Go.RowKit (Below)

section
variable {P : Program} {g : Cfg} {w0 : World} {base : Nat} {F : Heap} {ι : Nat → Option Place} {β : Nat → Option Nat} {G : Heap} {env : List V} {H : Heap} {a : Act} {w : World}
variable {next : Act → World → Prop} {Q : Exit → Act → World → Prop} {K : List V → Heap → Prop}

/-! #### literals -/

theorem foldSet (off : Nat) : ∀ (vs : List Value) (k : Nat) (cells : Array Value), off + k + vs.length ≤ cells.size →
    ((vs.zipIdx k).foldl (fun cs (x : Value × Nat) => cs.setIfInBounds (off + x.2) x.1) cells).toList = cells.toList.take (off + k) ++ vs ++ cells.toList.drop (off + k + vs.length)
  | [], k, cells, _ => by simp
  | v :: vs, k, cells, h => by
    simp only [List.length_cons] at h
    have ih := foldSet off vs (k + 1) (cells.setIfInBounds (off + k) v) (by simp; omega)
    simp only [List.zipIdx_cons, List.foldl_cons]
    rw [ih]
    have hs := list_seg_step cells.toList (off + k) v vs (by simp; omega)
    simp only [Array.toList_setIfInBounds, List.length_cons]
    rw [show off + (k + 1) = off + k + 1 by omega]
    exact hs

theorem evp_sound (hs : St g w0 base F ι β G env H a w) : ∀ {xs : List (Nat × Operand)} {vs : List (Nat × V)}, evp g env xs = some vs →
    vs.length = xs.length ∧ ∀ (j : Nat) (i : Nat) (v : V), vs[j]? = some (i, v) → ∃ cv, (xs.map fun (i, x) => (i, a.eval x))[j]? = some (i, cv) ∧ RelV w0 base ι v cv
  | [], vs, h => by simp [evp] at h; subst h; simp
  | (i, x) :: xs, vs, h => by
    unfold evp at h
    split at h
    · rename_i v vs' h1 h2; cases h
      obtain ⟨q1, q2⟩ := evp_sound hs h2
      refine ⟨by simp [q1], fun j i' v' hj => ?_⟩
      cases j with
      | zero => simp at hj; obtain ⟨rfl, rfl⟩ := hj; exact ⟨_, rfl, ev_sound hs h1⟩
      | succ j => simp at hj; obtain ⟨cv, r1, r2⟩ := q2 j i' v' hj; exact ⟨cv, by simpa using r1, r2⟩
    · cases h

/-- Parts, place by place. -/
def RelP (w0 : World) (base : Nat) (ι : Nat → Option Place) : List (Nat × V) → List (Nat × Value) → Prop
  | [], [] => True
  | (i, v) :: vs, (j, cv) :: cvs => i = j ∧ RelV w0 base ι v cv ∧ RelP w0 base ι vs cvs
  | _, _ => False

theorem evp_rel (hs : St g w0 base F ι β G env H a w) : ∀ {xs : List (Nat × Operand)} {vs : List (Nat × V)}, evp g env xs = some vs → RelP w0 base ι vs (xs.map fun (i, x) => (i, a.eval x))
  | [], vs, h => by simp [evp] at h; subst h; trivial
  | (i, x) :: xs, vs, h => by
    unfold evp at h
    split at h
    · rename_i v vs' h1 h2; cases h
      exact ⟨rfl, ev_sound hs h1, evp_rel hs h2⟩
    · cases h

theorem fill_step {place : Nat → Option (Nat × Nat)} {cells : Array Value} {i off sz : Nat} {v : Value} {rest : List (Nat × Value)} (hp : place i = some (off, sz)) (hv : v.cells.size = sz) (hfit : off + sz ≤ cells.size) :
    Instr.fill place cells ((i, v) :: rest) = Instr.fill place (cells.toList.take off ++ v.cells.toList ++ cells.toList.drop (off + v.cells.toList.length)).toArray rest := by
  have hf := foldSet off v.cells.toList 0 cells (by simp [hv]; omega)
  simp only [Nat.add_zero] at hf
  have harr : v.cells.zipIdx.foldl (fun cs (c, j) => cs.setIfInBounds (off + j) c) cells = (cells.toList.take off ++ v.cells.toList ++ cells.toList.drop (off + v.cells.toList.length)).toArray := by
    apply Array.ext'
    rw [← Array.foldl_toList, Array.toList_zipIdx]
    simpa using hf
  rw [Instr.fill, hp]
  simp only []
  rw [if_neg (by simp [hv]; omega), harr]

theorem fillS_sound {t : TypeId} {fs : Array Field} {places : List (Nat × Nat)} (hu : P.underlying t = some (.struct fs)) (hpl : ∀ (i : Nat) (fd : Field) (n : Nat), fs[i]? = some fd → tSize P fd.type = some n → places[i]? = some (fd.offset, n)) :
    ∀ {ps : List (Nat × V)} {cps : List (Nat × Value)} {cs cs' : List V} {ccs : List Value}, RelP w0 base ι ps cps → RelL w0 base ι cs ccs → fillS P t cs ps = some cs' →
      ∃ ccs' : List Value, Instr.fill (places.toArray[·]?) ccs.toArray cps = some ccs'.toArray ∧ RelL w0 base ι cs' ccs'
  | [], [], cs, cs', ccs, _, hr, h => by simp [fillS, placesOf, fillZ] at h; subst h; exact ⟨ccs, rfl, hr⟩
  | (i, v) :: ps, (j, cv) :: cps, cs, cs', ccs, hp, hr, h => by
    obtain ⟨rfl, hv, hp'⟩ := hp
    unfold fillS at h
    split at h
    case h_2 => cases h
    rename_i r hpl0
    unfold placesOf at hpl0
    split at hpl0
    case h_2 => cases hpl0
    rename_i off ft r' ho hpl1
    split at hpl0
    case h_2 => cases hpl0
    rename_i sz hsz
    cases hpl0
    unfold fillZ at h
    split at h
    · rename_i hc
      simp only [Bool.and_eq_true, beq_iff_eq, decide_eq_true_eq] at hc
      obtain ⟨⟨h1, h2⟩, h3⟩ := hc
      have hcv := relL_cells hv (notAny_ne h3)
      have hcs : cv.cells.size = sz := by rw [← h1, hcv.1]; simp
      have hplace : places[i]? = some (off, sz) := by
        unfold tOff at ho
        rw [hu] at ho
        simp only at ho
        split at ho
        · rename_i fd hfd
          split at ho
          · rename_i n hn; cases ho
            exact hpl i fd _ hfd (by rw [hsz])
          · cases ho
        · cases ho
      have h' : fillS P t (putCells cs off (cellsOf v)) ps = some cs' := by unfold fillS; rw [hpl1]; exact h
      obtain ⟨ccs', q1, q2⟩ := fillS_sound hu hpl hp' (relL_put hr hcv (by rw [h1]; exact h2)) h'
      refine ⟨ccs', ?_, q2⟩
      rw [fill_step (by simpa using hplace) hcs (by simp [← hr.1]; exact h2)]
      exact q1
    · cases h
  | [], _ :: _, _, _, _, hp, _, _ => hp.elim
  | _ :: _, [], _, _, _, hp, _, _ => hp.elim

theorem places_spec : ∀ (fs : List Field), (fs.all fun f => (P.info? f.type).isSome) = true →
    ∃ places, fs.mapM (fun f => (P.info? f.type).map fun i => (f.offset, i.size)) = some places ∧ ∀ (i : Nat) (fd : Field) (n : Nat), fs[i]? = some fd → tSize P fd.type = some n → places[i]? = some (fd.offset, n)
  | [], _ => ⟨[], rfl, by simp⟩
  | f :: fs, h => by
    simp only [List.all_cons, Bool.and_eq_true] at h
    obtain ⟨places, q1, q2⟩ := places_spec fs h.2
    cases hi : P.info? f.type with
    | none => rw [hi] at h; simp at h
    | some inf =>
      refine ⟨(f.offset, inf.size) :: places, by simp [hi, q1], fun i fd n h1 h2 => ?_⟩
      cases i with
      | zero => simp at h1; subst h1; simp [tSize, hi] at h2; simp [h2]
      | succ i => simp at h1; simpa using q2 i fd n h1 h2

theorem build_sound {t : TypeId} {ps : List (Nat × V)} {cps : Array (Nat × Value)} {z : V} {cs : List V} (hp : RelP w0 base ι ps cps.toList) (hz : tZero P t = some z) (hok : structOk P t = true) (h : fillS P t (cellsOf z) ps = some cs) :
    ∃ cv, (Instr.build t cps).run P w = .ok cv w ∧ RelV w0 base ι (.agg cs) cv := by
  unfold structOk at hok
  split at hok
  · rename_i fs hu
    obtain ⟨places, q1, q2⟩ := places_spec (P := P) fs.toList hok
    obtain ⟨i, cz, hi, hzc, hrz, hna, _⟩ := tZero_spec (w0 := w0) (base := base) (ι := ι) hz
    obtain ⟨ccs', r1, r2⟩ := fillS_sound (P := P) (w0 := w0) (base := base) (ι := ι) hu (places := places) (fun i fd n h1 h2 => q2 i fd n (by simpa using h1) h2) hp (relL_cells hrz (notAny_ne hna)) h
    refine ⟨.agg ccs'.toArray, run_build (P := P) w t cps _ ?_, relV_agg r2⟩
    unfold Program.built
    rw [hi, hu]
    simp only [hzc, q1]
    simpa using r1
  · cases hok

theorem flat_get {W : Nat} (f : Nat → List Value) (hW : ∀ i, (f i).length = W) : ∀ (n i c : Nat), i < n → c < W → (((List.range n).flatMap f)[i * W + c]?) = (f i)[c]? := by
  intro n
  induction n with
  | zero => intro i c h; omega
  | succ n ih =>
    intro i c hi hc
    have hlen : ((List.range n).flatMap f).length = n * W := by
      clear ih hi hc
      induction n with
      | zero => simp
      | succ n ih2 => simp [List.range_succ, ih2, hW, Nat.add_mul]
    rw [List.range_succ, List.flatMap_append]
    by_cases h : i < n
    · have hlt : i * W + c < n * W := by
        have := Nat.mul_le_mul_right W (show i + 1 ≤ n by omega)
        rw [Nat.add_mul] at this; omega
      rw [List.getElem?_append_left (by rw [hlen]; exact hlt)]
      exact ih i c h hc
    · have hin : i = n := by omega
      subst hin
      rw [List.getElem?_append_right (by rw [hlen]; omega), hlen]
      simp

/-- n copies of the zero cells. -/
theorem rowsRel_zeros {sz n : Nat} {z : List V} {cz : List Value} (hz : RelL w0 base ι z cz) (hok : z.all cellOk = true) (hsz : z.length = sz) (cells : Array Value) (hcs : cells.size = n * sz)
    (hc : ∀ i, i < n * sz → cells[i]? = cz[i % sz]?) : RowsRel w0 base ι ⟨sz, List.replicate n z⟩ cells := by
  refine ⟨by simp [hcs], fun r row hr => ?_, fun k cv hk => ?_⟩
  rotate_left
  · have hlt : k < n * sz := by rw [← hcs]; exact (Array.getElem?_eq_some_iff.1 hk).1
    rw [hc k hlt] at hk
    exact relL_oneCell hz hok cv (List.mem_of_getElem? hk)
  have hrn : r < n := by
    have := (List.getElem?_eq_some_iff.1 hr).1; simpa using this
  have hrow : row = z := by
    simp [List.getElem?_replicate, hrn] at hr; exact hr.symm
  subst hrow
  refine ⟨hsz, fun c v hcv => ?_⟩
  have hclt : c < sz := by rw [← hsz]; exact (List.getElem?_eq_some_iff.1 hcv).1
  have hclt2 : c < cz.length := by rw [← hz.1, hsz]; exact hclt
  have hlt : r * sz + c < n * sz := by
    have := Nat.mul_le_mul_right sz (show r + 1 ≤ n by omega)
    rw [Nat.add_mul] at this; omega
  refine ⟨cz[c], ?_, hz.2 c v _ hcv (by simp [hclt2]), .inl (List.all_eq_true.1 hok _ (List.mem_of_getElem? hcv))⟩
  rw [hc _ hlt, Nat.add_comm, Nat.mul_comm, Nat.add_mul_mod_self_left, Nat.mod_eq_of_lt hclt]
  simp [hclt2]

theorem fillR_sound {sz : Nat} (hpos : 0 < sz) : ∀ {ps : List (Nat × V)} {cps : List (Nat × Value)} {rows rows' : List (List V)} {cells : Array Value}, RelP w0 base ι ps cps → allW sz ps = true →
    RowsRel w0 base ι ⟨sz, rows⟩ cells → fillR rows ps = some rows' → ∃ cells', Instr.fill (fun i => some (i * sz, sz)) cells cps = some cells' ∧ cells'.size = cells.size ∧ RowsRel w0 base ι ⟨sz, rows'⟩ cells'
  | [], [], rows, rows', cells, _, _, hr, h => by simp [fillR] at h; subst h; exact ⟨cells, rfl, rfl, hr⟩
  | (i, v) :: ps, (j, cv) :: cps, rows, rows', cells, hp, hw, hr, h => by
    obtain ⟨rfl, hv, hp'⟩ := hp
    simp only [allW, Bool.and_eq_true, beq_iff_eq] at hw
    obtain ⟨⟨h1, h2⟩, h3⟩ := hw
    unfold fillR at h
    split at h
    · rename_i hi
      have hcv := relL_cells hv (notAny_of_ok h2)
      have hrow : (⟨sz, rows⟩ : Ob).rows[i]? = some rows[i] := by simp [hi]
      have hlen : (rows[i]).length = sz := (hr.2.1 i _ hrow).1
      have hst := RowsRel.store (c := 0) hr hrow (by rw [h1]; omega) hcv h2
      have hput : putCells rows[i] 0 (cellsOf v) = cellsOf v := by
        unfold putCells
        simp only [List.take_zero, List.nil_append, Nat.zero_add]
        rw [List.drop_of_length_le (by omega), List.append_nil]
      rw [hput] at hst
      simp only [Nat.add_zero] at hst
      have hsplice := splice_len cells.toList cv.cells.toList (i * sz) (by simpa using hst.2)
      obtain ⟨cells', q1, q2, q3⟩ := fillR_sound hpos hp' h3 hst.1 h
      have hcs : cv.cells.size = sz := by rw [← h1, hcv.1]; simp
      refine ⟨cells', ?_, by rw [q2]; simpa using hsplice, q3⟩
      rw [fill_step (off := i * sz) (sz := sz) rfl hcs (by have := hst.2; simp [hcs] at this; exact this)]
      exact q1
    · cases h
  | [], _ :: _, _, _, _, hp, _, _, _ => hp.elim
  | _ :: _, [], _, _, _, hp, _, _, _ => hp.elim

end
end Go.Abs
