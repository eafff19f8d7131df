/-
The abstract layer, part J: slice expressions, append, copy, clear.
-/
import Derived.Test.YtgiogphdnpeddaaGreatAbsI
set_option linter.all false
namespace Go.Abs
open Go.RowKit (Below)

section
variable {P : Program} {g : Cfg} {w0 : World} {base : Nat} {F : Heap} {ι : Nat → Option Place} {β : Nat → Option Nat} {G : Heap} {env : List V} {H : Heap} {a : Act} {w : World}
variable {next : Act → World → Prop} {Q : Exit → Act → World → Prop} {K : List V → Heap → Prop}

/-! #### slice expressions -/

def RelO (w0 : World) (base : Nat) (ι : Nat → Option Place) : Option V → Option Value → Prop
  | none, none => True
  | some v, some cv => RelV w0 base ι v cv
  | _, _ => False

theorem evo_sound (hs : St g w0 base F ι β G env H a w) {x : Option Operand} {v : Option V} (h : evo g env x = some v) : RelO w0 base ι v (x.map a.eval) := by
  cases x with
  | none => simp [evo] at h; subst h; trivial
  | some x =>
    unfold evo at h
    split at h
    · rename_i h0; cases h0
    · rename_i h0; cases h0
      split at h
      · rename_i v he; cases h; exact ev_sound hs he
      · cases h

theorem bound_sound {d n : Nat} {v : Option V} {cv : Option Value} (hr : RelO w0 base ι v cv) (h : bound d v = some n) : (cv = none ∧ v = none ∧ n = d) ∨ ∃ k, cv = some (.int k (n : Nat)) := by
  cases v with
  | none =>
    cases cv with
    | none => simp [bound] at h; exact .inl ⟨rfl, rfl, h.symm⟩
    | some cv => exact hr.elim
  | some v =>
    cases cv with
    | none => exact hr.elim
    | some cv =>
      obtain ⟨k, m, rfl, hm, rfl⟩ := natOf_spec h
      refine .inr ⟨k, ?_⟩
      rw [relV_int hr, Int.toNat_of_nonneg hm]

theorem run_sliceBound {k : IntKind} {n y : Nat} (code : BoundsCode) (h : n ≤ y) : (Instr.sliceBound (.int k (n : Nat)) y code).run P w = .ok n w := by
  have h0 : (0 : Int) ≤ (n : Nat) ∧ ((n : Nat) : Int) ≤ (y : Nat) := ⟨by omega, by omega⟩
  simp [Instr.sliceBound, asIntOf, h]

theorem run_slice_gen {t e : TypeId} {sz : Nat} (hu : P.underlying t = some (.slice e)) (hsz : tSize P e = some sz) {ao : Option Addr} {len cap l h m : Nat} {lo hi mx : Option Value}
    (hlo : (lo = none ∧ l = 0) ∨ ∃ k, lo = some (.int k (l : Nat))) (hhi : (hi = none ∧ h = len) ∨ ∃ k, hi = some (.int k (h : Nat))) (hmx : (mx = none ∧ m = cap) ∨ (hi ≠ none ∧ ∃ k, mx = some (.int k (m : Nat))))
    (h1 : l ≤ h) (h2 : h ≤ m) (h3 : m ≤ cap) :
    (Instr.sliceAt t (.slice ao len cap) lo hi mx).run P w = .ok (.slice (if m = l then ao else ao.map (·.add (l * sz))) (h - l) (m - l)) w := by
  have hb : (Instr.sliceBounds true len cap lo hi mx).run P w = .ok (l, h, m) w := by
    unfold Instr.sliceBounds
    rcases hmx with ⟨rfl, rfl⟩ | ⟨hne, k, rfl⟩
    · rcases hhi with ⟨rfl, rfl⟩ | ⟨k, rfl⟩
      · rcases hlo with ⟨rfl, rfl⟩ | ⟨k, rfl⟩
        · simp
        · simp [run_sliceBound (P := P) (w := w) _ h1]
      · rcases hlo with ⟨rfl, rfl⟩ | ⟨k', rfl⟩
        · simp [run_sliceBound (P := P) (w := w) _ h2]
        · simp [run_sliceBound (P := P) (w := w) _ h2, run_sliceBound (P := P) (w := w) _ h1]
    · rcases hhi with ⟨rfl, rfl⟩ | ⟨k', rfl⟩
      · exact absurd rfl hne
      · rcases hlo with ⟨rfl, rfl⟩ | ⟨k'', rfl⟩
        · simp [run_sliceBound (P := P) (w := w) _ h3, run_sliceBound (P := P) (w := w) _ h2]
        · simp [run_sliceBound (P := P) (w := w) _ h3, run_sliceBound (P := P) (w := w) _ h2, run_sliceBound (P := P) (w := w) _ h1]
  simp [Instr.sliceAt, run_underlying hu, Instr.slice, hb, run_sizeOf hsz]

theorem relV_slice_sub {o s n l h m c : Nat} {cap' : Option Nat} {p : Place} {sz : Nat} (hp : ι o = some p) (hw : p.w = sz) (hn : n ≤ c) (hc : (s + c) * p.w ≤ p.size) (h1 : l ≤ h) (h2 : h ≤ m) (h3 : m ≤ c) (hk : ∀ k, cap' = some k → m - l = k) :
    RelV w0 base ι (.slice o (s + l) (h - l) cap') (.slice (if m = l then some ⟨p.blk, s * p.w, none⟩ else (some (⟨p.blk, s * p.w, none⟩ : Addr)).map (·.add (l * sz))) (h - l) (m - l)) := by
  by_cases hml : m = l
  · have e1 : h - l = 0 := by omega
    have e2 : m - l = 0 := by omega
    rw [if_pos hml, e1, e2]
    exact .sliceE _ hp (fun k hk' => by have := hk k hk'; omega)
  · rw [if_neg hml]
    simp only [Option.map_some, addr_add]
    rw [show s * p.w + l * sz = (s + l) * p.w by rw [hw, Nat.add_mul]]
    refine .slice hp (by omega) ?_ hk
    rw [show s + l + (m - l) = s + m by omega]
    exact Nat.le_trans (Nat.mul_le_mul_right _ (by omega)) hc

theorem aSlice_sound (hs : St g w0 base F ι β G env H a w) {t e : TypeId} {sz : Nat} (he : tElem P t = some e) (hsz : tSize P e = some sz) {x v : V} {cx : Value} {lo hi mx : Option V} {clo chi cmx : Option Value}
    (hx : RelV w0 base ι x cx) (hlo : RelO w0 base ι lo clo) (hhi : RelO w0 base ι hi chi) (hmx : RelO w0 base ι mx cmx) (h : aSlice H sz x lo hi mx = some v) :
    ∃ cv, (Instr.sliceAt t cx clo chi cmx).run P w = .ok cv w ∧ RelV w0 base ι v cv := by
  have hu := tElem_spec he
  unfold aSlice at h
  split at h
  · rename_i o s n cap
    split at h
    · rename_i ob hob
      split at h
      · rename_i hw
        obtain ⟨p, cells, ty, q1, q2, _⟩ := hs.heap.get (hs.sub _ _ hob)
        have hpw : p.w = sz := by rw [q2, hw]
        -- the common part: bounds l ≤ h ≤ m
        have key : ∀ (l h' m : Nat) (cap' : Option Nat), bound 0 lo = some l → bound n hi = some h' → l ≤ h' → h' ≤ m →
            (∀ c, n ≤ c → (∀ k, cap = some k → c = k) → m ≤ c ∨ (mx = none)) →
            (∀ c, n ≤ c → (∀ k, cap = some k → c = k) → h' ≤ c) →
            ((mx = none ∧ (∀ c, (∀ k, cap = some k → c = k) → ∀ k, cap' = some k → c - l = k)) ∨ (hi ≠ none ∧ (∃ mv, mx = some mv ∧ natOf mv = some m) ∧ ∀ k, cap' = some k → m - l = k)) →
            ∃ cv, (Instr.sliceAt t cx clo chi cmx).run P w = .ok cv w ∧ RelV w0 base ι (.slice o (s + l) (h' - l) cap') cv := by
          intro l h' m cap' hbl hbh h1 h2 h3 h3b h4
          have blo := bound_sound hlo hbl
          have bhi := bound_sound hhi hbh
          have blo' : (clo = none ∧ l = 0) ∨ ∃ k, clo = some (.int k (l : Nat)) := blo.imp (fun h => ⟨h.1, h.2.2⟩) id
          -- the concrete slice
          have conc : ∃ ad c, cx = .slice (some ad) n c ∧ n ≤ c ∧ (∀ k, cap = some k → c = k) ∧ ((ad = ⟨p.blk, s * p.w, none⟩ ∧ (s + c) * p.w ≤ p.size) ∨ (n = 0 ∧ c = 0)) := by
            cases hx with
            | slice hp hnc hc hk => rw [q1] at hp; cases hp; exact ⟨_, _, rfl, hnc, hk, .inl ⟨rfl, hc⟩⟩
            | sliceE ad hp hk => exact ⟨ad, 0, rfl, Nat.le_refl _, fun k hk' => (hk k hk').symm, .inr ⟨rfl, rfl⟩⟩
          obtain ⟨ad, c, rfl, hnc, hkc, hwhere⟩ := conc
          have bhi' : (chi = none ∧ h' = n) ∨ ∃ k, chi = some (.int k (h' : Nat)) := bhi.imp (fun h => ⟨h.1, h.2.2⟩) id
          -- the upper bound that counts
          have hmm : ∃ m', l ≤ h' ∧ h' ≤ m' ∧ m' ≤ c ∧ (∀ k, cap' = some k → m' - l = k) ∧ ((cmx = none ∧ m' = c) ∨ (chi ≠ none ∧ ∃ k, cmx = some (.int k (m' : Nat)))) := by
            rcases h4 with ⟨hmn, h4⟩ | ⟨hne, ⟨mv, hmv, hnm⟩, h4⟩
            · subst hmn
              refine ⟨c, h1, h3b c hnc hkc, Nat.le_refl _, h4 c hkc, .inl ⟨?_, rfl⟩⟩
              cases cmx with
              | none => rfl
              | some _ => exact hmx.elim
            · subst hmv
              rcases h3 c hnc hkc with h3 | h3
              · refine ⟨m, h1, h2, h3, h4, .inr ⟨?_, ?_⟩⟩
                · cases hi with
                  | none => exact absurd rfl hne
                  | some hv =>
                    cases chi with
                    | none => exact hhi.elim
                    | some _ => exact Option.some_ne_none _
                · obtain ⟨k, q, rfl, hq, rfl⟩ := natOf_spec hnm
                  cases cmx with
                  | none => exact hmx.elim
                  | some cm =>
                    refine ⟨k, ?_⟩
                    rw [relV_int hmx, Int.toNat_of_nonneg hq]
              · cases h3
          obtain ⟨m', g1, g2, g3, g4, g5⟩ := hmm
          refine ⟨_, run_slice_gen hu hsz blo' bhi' g5 g1 g2 g3, ?_⟩
          rcases hwhere with ⟨rfl, hc⟩ | ⟨rfl, rfl⟩
          · exact relV_slice_sub q1 hpw hnc hc g1 g2 g3 g4
          · have e1 : m' = l := by omega
            have e2 : h' - l = 0 := by omega
            have e3 : m' - l = 0 := by omega
            rw [if_pos e1, e2, e3]
            exact .sliceE _ q1 (fun k hk => by have := g4 k hk; omega)
        split at h
        · rename_i l h' hbl hbh
          split at h
          · rename_i k
            split at h
            · rename_i hc; cases h
              exact key l h' k (some (k - l)) hbl hbh hc.1 hc.2 (fun _ _ _ => .inr rfl) (fun c _ hk => by rw [hk k rfl]; exact hc.2) (.inl ⟨rfl, fun c hk k' hk' => by cases hk'; rw [hk k rfl]⟩)
            · cases h
          · split at h
            · rename_i hc; cases h
              exact key l h' n none hbl hbh hc.1 hc.2 (fun _ _ _ => .inr rfl) (fun c hn _ => Nat.le_trans hc.2 hn) (.inl ⟨rfl, fun c hk k' hk' => by cases hk'⟩)
            · cases h
        · rename_i l h' mv hbl hbh
          split at h
          · rename_i m hv hm
            split at h
            · rename_i hc; cases h
              refine key l h' m (some (m - l)) hbl hbh hc.1 hc.2.1 (fun c hn hk => .inl ?_) (fun c hn hk => ?_) (.inr ⟨Option.some_ne_none _, ⟨mv, rfl, hm⟩, fun k hk => by cases hk; rfl⟩)
              · cases hcap : cap with
                | none => have := hc.2.2; rw [hcap] at this; exact Nat.le_trans this hn
                | some k => have := hc.2.2; rw [hcap] at this; rw [hk k hcap]; exact this
              · have : h' ≤ cap.getD n := Nat.le_trans hc.2.1 hc.2.2
                cases hcap : cap with
                | none => rw [hcap] at this; exact Nat.le_trans this hn
                | some k => rw [hcap] at this; rw [hk k hcap]; exact this
            · cases h
          · cases h
        · cases h
      · cases h
    · cases h
  · cases hx
    split at h
    · rename_i h1 h2
      cases h
      have blo := bound_sound hlo h1
      have bhi := bound_sound hhi h2
      have hm : cmx = none := by
        cases cmx with
        | none => rfl
        | some _ => exact hmx.elim
      subst hm
      have := run_slice_gen (P := P) (w := w) hu hsz (ao := none) (len := 0) (cap := 0) (l := 0) (h := 0) (m := 0) (lo := clo) (hi := chi) (mx := none) (blo.imp (fun h => ⟨h.1, rfl⟩) id) (bhi.imp (fun h => ⟨h.1, rfl⟩) id) (.inl ⟨rfl, rfl⟩) (Nat.le_refl _) (Nat.le_refl _) (Nat.le_refl _)
      exact ⟨_, this, by simpa using RelV.nils⟩
    · cases h
  · cases h

/-! #### the rows of a slice, flat -/

def RowsFlat (w0 : World) (base : Nat) (ι : Nat → Option Place) (sz : Nat) (xs : List (List V)) (flat : List Value) : Prop :=
  flat.length = xs.length * sz ∧ ∀ r row, xs[r]? = some row → row.length = sz ∧ ∀ (c : Nat) v, row[c]? = some v → ∃ cv, flat[r * sz + c]? = some cv ∧ CellRel w0 base ι v cv

theorem RowsFlat.oneCell {sz : Nat} {xs : List (List V)} {flat : List Value} (h : RowsFlat w0 base ι sz xs flat) : ∀ v ∈ flat, v.oneCell' = true := by
  intro cv hm
  obtain ⟨j, hj, rfl⟩ := List.getElem_of_mem hm
  have hl := h.1
  have hsz : 0 < sz := by
    rcases Nat.eq_zero_or_pos sz with e | e
    · subst e; rw [Nat.mul_zero] at hl; omega
    · exact e
  have hdiv : j / sz < xs.length := by
    rw [Nat.div_lt_iff_lt_mul hsz]; omega
  have hmod : j % sz < sz := Nat.mod_lt _ hsz
  obtain ⟨q1, q2⟩ := h.2 (j / sz) xs[j / sz] (by simp [hdiv])
  obtain ⟨cv, e1, e2⟩ := q2 (j % sz) ((xs[j / sz])[j % sz]'(by rw [q1]; exact hmod)) (by simp)
  rw [show j / sz * sz + j % sz = j by rw [Nat.mul_comm]; exact Nat.div_add_mod j sz] at e1
  have : flat[j] = cv := by
    rw [List.getElem?_eq_getElem hj] at e1; cases e1; rfl
  rw [this]; exact e2.one

theorem RowsFlat.take {sz : Nat} {xs : List (List V)} {flat : List Value} (h : RowsFlat w0 base ι sz xs flat) (n : Nat) : RowsFlat w0 base ι sz (xs.take n) (flat.take (n * sz)) := by
  refine ⟨?_, fun r row hr => ?_⟩
  · simp only [List.length_take, h.1]
    rcases Nat.le_total n xs.length with e | e
    · rw [Nat.min_eq_left e, Nat.min_eq_left (Nat.mul_le_mul_right _ e)]
    · rw [Nat.min_eq_right e, Nat.min_eq_right (Nat.mul_le_mul_right _ e)]
  · rw [List.getElem?_take] at hr
    split at hr
    · rename_i hrn
      obtain ⟨q1, q2⟩ := h.2 r row hr
      refine ⟨q1, fun c v hc => ?_⟩
      obtain ⟨cv, e1, e2⟩ := q2 c v hc
      have hcl : c < sz := by rw [← q1]; exact (List.getElem?_eq_some_iff.1 hc).1
      have : r * sz + c < n * sz := by
        have := Nat.mul_le_mul_right sz (show r + 1 ≤ n by omega)
        rw [Nat.add_mul] at this; omega
      exact ⟨cv, by rw [List.getElem?_take, if_pos this]; exact e1, e2⟩
    · cases hr

theorem rowsFlat_of {ob : Ob} {cells : Array Value} (h : RowsRel w0 base ι ob cells) (s n : Nat) (hsn : s + n ≤ ob.rows.length) :
    RowsFlat w0 base ι ob.w ((ob.rows.drop s).take n) ((cells.toList.drop (s * ob.w)).take (n * ob.w)) := by
  have hfit : (s + n) * ob.w ≤ cells.size := Nat.le_trans (Nat.mul_le_mul_right _ hsn) h.1
  rw [Nat.add_mul] at hfit
  refine ⟨by simp only [List.length_take, List.length_drop, Array.length_toList]; rw [Nat.min_eq_left (by omega), Nat.min_eq_left (by omega)], fun r row hr => ?_⟩
  rw [List.getElem?_take] at hr
  split at hr
  · rename_i hrn
    rw [List.getElem?_drop] at hr
    obtain ⟨q1, q2⟩ := h.2.1 (s + r) row hr
    refine ⟨q1, fun c v hc => ?_⟩
    obtain ⟨cv, e1, e2⟩ := q2 c v hc
    have hcl : c < ob.w := by rw [← q1]; exact (List.getElem?_eq_some_iff.1 hc).1
    have hlt : r * ob.w + c < n * ob.w := by
      have := Nat.mul_le_mul_right ob.w (show r + 1 ≤ n by omega)
      rw [Nat.add_mul] at this; omega
    refine ⟨cv, ?_, e2⟩
    rw [List.getElem?_take, if_pos hlt, List.getElem?_drop]
    rw [Nat.add_mul, Nat.add_assoc] at e1
    simpa using e1
  · cases hr

/-- The rows of a slice value. -/
theorem rows_src (hs : St g w0 base F ι β G env H a w) {sz : Nat} {x : V} {cx : Value} {xs : List (List V)} (hx : RelV w0 base ι x cx) (h : rowsOf H sz x = some xs) :
    ∃ ao c flat, cx = .slice ao xs.length c ∧ RowsFlat w0 base ι sz xs flat ∧ ∀ (j : Nat) v, flat[j]? = some v → ∃ ad, ao = some ad ∧ w.cell? (ad.add j) = some v := by
  unfold rowsOf at h
  split at h
  · rename_i o s n cap
    split at h
    · rename_i ob hob
      split at h
      · rename_i hc; cases h
        obtain ⟨hw, hsn⟩ := hc
        have hlen : ((ob.rows.drop s).take n).length = n := by simp; omega
        cases hx with
        | slice hp hnc hcc hk =>
          rename_i p c
          obtain ⟨p', cells, ty, q1, q2, q3, q4, q5, q6⟩ := hs.heap.get (hs.sub _ _ hob)
          rw [hp] at q1; cases q1
          have hfl := rowsFlat_of q6 s n hsn
          rw [hw] at hfl
          refine ⟨some ⟨p.blk, s * p.w, none⟩, c, _, by rw [hlen], hfl, fun j v hj => ⟨_, rfl, ?_⟩⟩
          rw [addr_add, cell_of_heap q4, q2, hw]
          rw [List.getElem?_take] at hj
          split at hj
          · rw [List.getElem?_drop] at hj; simpa using hj
          · cases hj
        | sliceE ad hp hk =>
          exact ⟨some ad, 0, [], by rw [hlen], ⟨by simp, by simp⟩, by simp⟩
      · cases h
    · cases h
  · cases h; cases hx
    exact ⟨none, 0, [], rfl, ⟨by simp, by simp⟩, by simp⟩
  · cases h

end
end Go.Abs
