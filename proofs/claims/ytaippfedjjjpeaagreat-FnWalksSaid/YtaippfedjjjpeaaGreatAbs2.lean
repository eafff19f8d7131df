/-
The abstract layer, part J: slice expressions, append, copy, clear.
-/
import Derived.Test.YtaippfedjjjpeaaGreatAbs1
import Derived.IntWalk
import Derived.Lib.Overlaps
import Derived.Tactics
set_option linter.all false
namespace Go.Abs
open Go.RowKit (Below)

section
variable {P : Program} {g : Cfg} {w0 : World} {base : Nat} {F : Heap} {ι : Nat → Option Place} {β : Nat → Option Nat} {G : Heap} {env : List V} {H : Heap} {a : Act} {w : World}
variable {next : Act → World → Prop} {Q : Exit → Act → World → Prop} {K : List V → Heap → Prop}

/-! #### slice expressions -/

def RelO (w0 : World) (base : Nat) (ι : Nat → Option Place) : Option V → Option Value → Prop
  | none, none => True
  | some v, some cv => RelV w0 base ι v cv
  | _, _ => False

theorem evo_sound (hs : St g w0 base F ι β G env H a w) {x : Option Operand} {v : Option V} (h : evo g env x = some v) : RelO w0 base ι v (x.map a.eval) := by
  cases x with
  | none => simp [evo] at h; subst h; trivial
  | some x =>
    unfold evo at h
    split at h
    · rename_i h0; cases h0
    · rename_i h0; cases h0
      split at h
      · rename_i v he; cases h; exact ev_sound hs he
      · cases h

theorem bound_sound {d n : Nat} {v : Option V} {cv : Option Value} (hr : RelO w0 base ι v cv) (h : bound d v = some n) : (cv = none ∧ v = none ∧ n = d) ∨ ∃ k, cv = some (.int k (n : Nat)) := by
  cases v with
  | none =>
    cases cv with
    | none => simp [bound] at h; exact .inl ⟨rfl, rfl, h.symm⟩
    | some cv => exact hr.elim
  | some v =>
    cases cv with
    | none => exact hr.elim
    | some cv =>
      obtain ⟨k, m, rfl, hm, rfl⟩ := natOf_spec h
      refine .inr ⟨k, ?_⟩
      rw [relV_int hr, Int.toNat_of_nonneg hm]

theorem run_sliceBound {k : IntKind} {n y : Nat} (code : BoundsCode) (h : n ≤ y) : (Instr.sliceBound (.int k (n : Nat)) y code).run P w = .ok n w := by
  have h0 : (0 : Int) ≤ (n : Nat) ∧ ((n : Nat) : Int) ≤ (y : Nat) := ⟨by omega, by omega⟩
  simp [Instr.sliceBound, asIntOf, h]

theorem run_slice_gen {t e : TypeId} {sz : Nat} (hu : P.underlying t = some (.slice e)) (hsz : tSize P e = some sz) {ao : Option Addr} {len cap l h m : Nat} {lo hi mx : Option Value}
    (hlo : (lo = none ∧ l = 0) ∨ ∃ k, lo = some (.int k (l : Nat))) (hhi : (hi = none ∧ h = len) ∨ ∃ k, hi = some (.int k (h : Nat))) (hmx : (mx = none ∧ m = cap) ∨ (hi ≠ none ∧ ∃ k, mx = some (.int k (m : Nat))))
    (h1 : l ≤ h) (h2 : h ≤ m) (h3 : m ≤ cap) :
    (Instr.sliceAt t (.slice ao len cap) lo hi mx).run P w = .ok (.slice (if m = l then ao else ao.map (·.add (l * sz))) (h - l) (m - l)) w := by
  have hb : (Instr.sliceBounds true len cap lo hi mx).run P w = .ok (l, h, m) w := by
    unfold Instr.sliceBounds
    rcases hmx with ⟨rfl, rfl⟩ | ⟨hne, k, rfl⟩
    · rcases hhi with ⟨rfl, rfl⟩ | ⟨k, rfl⟩
      · rcases hlo with ⟨rfl, rfl⟩ | ⟨k, rfl⟩
        · simp
        · simp [run_sliceBound (P := P) (w := w) _ h1]
      · rcases hlo with ⟨rfl, rfl⟩ | ⟨k', rfl⟩
        · simp [run_sliceBound (P := P) (w := w) _ h2]
        · simp [run_sliceBound (P := P) (w := w) _ h2, run_sliceBound (P := P) (w := w) _ h1]
    · rcases hhi with ⟨rfl, rfl⟩ | ⟨k', rfl⟩
      · exact absurd rfl hne
      · rcases hlo with ⟨rfl, rfl⟩ | ⟨k'', rfl⟩
        · simp [run_sliceBound (P := P) (w := w) _ h3, run_sliceBound (P := P) (w := w) _ h2]
        · simp [run_sliceBound (P := P) (w := w) _ h3, run_sliceBound (P := P) (w := w) _ h2, run_sliceBound (P := P) (w := w) _ h1]
  simp [Instr.sliceAt, run_underlying hu, Instr.slice, hb, run_sizeOf hsz]

theorem relV_slice_sub {o s n l h m c : Nat} {cap' : Option Nat} {p : Place} {sz : Nat} (hp : ι o = some p) (hw : p.w = sz) (hn : n ≤ c) (hc : (s + c) * p.w ≤ p.size) (h1 : l ≤ h) (h2 : h ≤ m) (h3 : m ≤ c) (hk : ∀ k, cap' = some k → m - l = k) :
    RelV w0 base ι (.slice o (s + l) (h - l) cap') (.slice (if m = l then some ⟨p.blk, s * p.w, none⟩ else (some (⟨p.blk, s * p.w, none⟩ : Addr)).map (·.add (l * sz))) (h - l) (m - l)) := by
  by_cases hml : m = l
  · have e1 : h - l = 0 := by omega
    have e2 : m - l = 0 := by omega
    rw [if_pos hml, e1, e2]
    exact .sliceE _ hp (fun k hk' => by have := hk k hk'; omega)
  · rw [if_neg hml]
    simp only [Option.map_some, addr_add]
    rw [show s * p.w + l * sz = (s + l) * p.w by rw [hw, Nat.add_mul]]
    refine .slice hp (by omega) ?_ hk
    rw [show s + l + (m - l) = s + m by omega]
    exact Nat.le_trans (Nat.mul_le_mul_right _ (by omega)) hc

theorem aSlice_sound (hs : St g w0 base F ι β G env H a w) {t e : TypeId} {sz : Nat} (he : tElem P t = some e) (hsz : tSize P e = some sz) {x v : V} {cx : Value} {lo hi mx : Option V} {clo chi cmx : Option Value}
    (hx : RelV w0 base ι x cx) (hlo : RelO w0 base ι lo clo) (hhi : RelO w0 base ι hi chi) (hmx : RelO w0 base ι mx cmx) (h : aSlice H sz x lo hi mx = some v) :
    ∃ cv, (Instr.sliceAt t cx clo chi cmx).run P w = .ok cv w ∧ RelV w0 base ι v cv := by
  have hu := tElem_spec he
  unfold aSlice at h
  split at h
  · rename_i o s n cap
    split at h
    · rename_i ob hob
      split at h
      · rename_i hw
        obtain ⟨p, cells, ty, q1, q2, _⟩ := hs.heap.get (hs.sub _ _ hob)
        have hpw : p.w = sz := by rw [q2, hw]
        -- the common part: bounds l ≤ h ≤ m
        have key : ∀ (l h' m : Nat) (cap' : Option Nat), bound 0 lo = some l → bound n hi = some h' → l ≤ h' → h' ≤ m →
            (∀ c, n ≤ c → (∀ k, cap = some k → c = k) → m ≤ c ∨ (mx = none)) →
            (∀ c, n ≤ c → (∀ k, cap = some k → c = k) → h' ≤ c) →
            ((mx = none ∧ (∀ c, (∀ k, cap = some k → c = k) → ∀ k, cap' = some k → c - l = k)) ∨ (hi ≠ none ∧ (∃ mv, mx = some mv ∧ natOf mv = some m) ∧ ∀ k, cap' = some k → m - l = k)) →
            ∃ cv, (Instr.sliceAt t cx clo chi cmx).run P w = .ok cv w ∧ RelV w0 base ι (.slice o (s + l) (h' - l) cap') cv := by
          intro l h' m cap' hbl hbh h1 h2 h3 h3b h4
          have blo := bound_sound hlo hbl
          have bhi := bound_sound hhi hbh
          have blo' : (clo = none ∧ l = 0) ∨ ∃ k, clo = some (.int k (l : Nat)) := blo.imp (fun h => ⟨h.1, h.2.2⟩) id
          -- the concrete slice
          have conc : ∃ ad c, cx = .slice (some ad) n c ∧ n ≤ c ∧ (∀ k, cap = some k → c = k) ∧ ((ad = ⟨p.blk, s * p.w, none⟩ ∧ (s + c) * p.w ≤ p.size) ∨ (n = 0 ∧ c = 0)) := by
            cases hx with
            | slice hp hnc hc hk => rw [q1] at hp; cases hp; exact ⟨_, _, rfl, hnc, hk, .inl ⟨rfl, hc⟩⟩
            | sliceE ad hp hk => exact ⟨ad, 0, rfl, Nat.le_refl _, fun k hk' => (hk k hk').symm, .inr ⟨rfl, rfl⟩⟩
          obtain ⟨ad, c, rfl, hnc, hkc, hwhere⟩ := conc
          have bhi' : (chi = none ∧ h' = n) ∨ ∃ k, chi = some (.int k (h' : Nat)) := bhi.imp (fun h => ⟨h.1, h.2.2⟩) id
          -- the upper bound that counts
          have hmm : ∃ m', l ≤ h' ∧ h' ≤ m' ∧ m' ≤ c ∧ (∀ k, cap' = some k → m' - l = k) ∧ ((cmx = none ∧ m' = c) ∨ (chi ≠ none ∧ ∃ k, cmx = some (.int k (m' : Nat)))) := by
            rcases h4 with ⟨hmn, h4⟩ | ⟨hne, ⟨mv, hmv, hnm⟩, h4⟩
            · subst hmn
              refine ⟨c, h1, h3b c hnc hkc, Nat.le_refl _, h4 c hkc, .inl ⟨?_, rfl⟩⟩
              cases cmx with
              | none => rfl
              | some _ => exact hmx.elim
            · subst hmv
              rcases h3 c hnc hkc with h3 | h3
              · refine ⟨m, h1, h2, h3, h4, .inr ⟨?_, ?_⟩⟩
                · cases hi with
                  | none => exact absurd rfl hne
                  | some hv =>
                    cases chi with
                    | none => exact hhi.elim
                    | some _ => exact Option.some_ne_none _
                · obtain ⟨k, q, rfl, hq, rfl⟩ := natOf_spec hnm
                  cases cmx with
                  | none => exact hmx.elim
                  | some cm =>
                    refine ⟨k, ?_⟩
                    rw [relV_int hmx, Int.toNat_of_nonneg hq]
              · cases h3
          obtain ⟨m', g1, g2, g3, g4, g5⟩ := hmm
          refine ⟨_, run_slice_gen hu hsz blo' bhi' g5 g1 g2 g3, ?_⟩
          rcases hwhere with ⟨rfl, hc⟩ | ⟨rfl, rfl⟩
          · exact relV_slice_sub q1 hpw hnc hc g1 g2 g3 g4
          · have e1 : m' = l := by omega
            have e2 : h' - l = 0 := by omega
            have e3 : m' - l = 0 := by omega
            rw [if_pos e1, e2, e3]
            exact .sliceE _ q1 (fun k hk => by have := g4 k hk; omega)
        split at h
        · rename_i l h' hbl hbh
          split at h
          · rename_i k
            split at h
            · rename_i hc; cases h
              exact key l h' k (some (k - l)) hbl hbh hc.1 hc.2 (fun _ _ _ => .inr rfl) (fun c _ hk => by rw [hk k rfl]; exact hc.2) (.inl ⟨rfl, fun c hk k' hk' => by cases hk'; rw [hk k rfl]⟩)
            · cases h
          · split at h
            · rename_i hc; cases h
              exact key l h' n none hbl hbh hc.1 hc.2 (fun _ _ _ => .inr rfl) (fun c hn _ => Nat.le_trans hc.2 hn) (.inl ⟨rfl, fun c hk k' hk' => by cases hk'⟩)
            · cases h
        · rename_i l h' mv hbl hbh
          split at h
          · rename_i m hv hm
            split at h
            · rename_i hc; cases h
              refine key l h' m (some (m - l)) hbl hbh hc.1 hc.2.1 (fun c hn hk => .inl ?_) (fun c hn hk => ?_) (.inr ⟨Option.some_ne_none _, ⟨mv, rfl, hm⟩, fun k hk => by cases hk; rfl⟩)
              · cases hcap : cap with
                | none => have := hc.2.2; rw [hcap] at this; exact Nat.le_trans this hn
                | some k => have := hc.2.2; rw [hcap] at this; rw [hk k hcap]; exact this
              · have : h' ≤ cap.getD n := Nat.le_trans hc.2.1 hc.2.2
                cases hcap : cap with
                | none => rw [hcap] at this; exact Nat.le_trans this hn
                | some k => rw [hcap] at this; rw [hk k hcap]; exact this
            · cases h
          · cases h
        · cases h
      · cases h
    · cases h
  · cases hx
    split at h
    · rename_i h1 h2
      cases h
      have blo := bound_sound hlo h1
      have bhi := bound_sound hhi h2
      have hm : cmx = none := by
        cases cmx with
        | none => rfl
        | some _ => exact hmx.elim
      subst hm
      have := run_slice_gen (P := P) (w := w) hu hsz (ao := none) (len := 0) (cap := 0) (l := 0) (h := 0) (m := 0) (lo := clo) (hi := chi) (mx := none) (blo.imp (fun h => ⟨h.1, rfl⟩) id) (bhi.imp (fun h => ⟨h.1, rfl⟩) id) (.inl ⟨rfl, rfl⟩) (Nat.le_refl _) (Nat.le_refl _) (Nat.le_refl _)
      exact ⟨_, this, by simpa using RelV.nils⟩
    · rename_i mv h1 h2
      split at h
      · rename_i hv h3 
        cases h
        have blo := bound_sound hlo h1
        have bhi := bound_sound hhi h2
        have hc : chi ≠ none := by
          cases chi with
          | none => exact hhi.elim
          | some _ => exact Option.some_ne_none _
        have hm : ∃ k, cmx = some (.int k ((0 : Nat) : Int)) := by
          obtain ⟨k, q, rfl, hq, h0⟩ := natOf_spec h3
          cases cmx with
          | none => exact hmx.elim
          | some cm =>
            refine ⟨k, ?_⟩
            have e : q = 0 := by omega
            rw [relV_int hmx, e]; rfl
        have := run_slice_gen (P := P) (w := w) hu hsz (ao := none) (len := 0) (cap := 0) (l := 0) (h := 0) (m := 0) (lo := clo) (hi := chi) (mx := cmx) (blo.imp (fun h => ⟨h.1, rfl⟩) id) (bhi.imp (fun h => ⟨h.1, rfl⟩) id) (.inr ⟨hc, hm⟩) (Nat.le_refl _) (Nat.le_refl _) (Nat.le_refl _)
        exact ⟨_, this, by simpa using RelV.nils⟩
      · cases h
    · cases h
  · cases h

/-! #### the rows of a slice, flat -/

def RowsFlat (w0 : World) (base : Nat) (ι : Nat → Option Place) (sz : Nat) (xs : List (List V)) (flat : List Value) : Prop :=
  flat.length = xs.length * sz ∧ ∀ r row, xs[r]? = some row → row.length = sz ∧ ∀ (c : Nat) v, row[c]? = some v → ∃ cv, flat[r * sz + c]? = some cv ∧ CellRel w0 base ι v cv

theorem RowsFlat.oneCell {sz : Nat} {xs : List (List V)} {flat : List Value} (h : RowsFlat w0 base ι sz xs flat) : ∀ v ∈ flat, v.oneCell' = true := by
  intro cv hm
  obtain ⟨j, hj, rfl⟩ := List.getElem_of_mem hm
  have hl := h.1
  have hsz : 0 < sz := by
    rcases Nat.eq_zero_or_pos sz with e | e
    · subst e; rw [Nat.mul_zero] at hl; omega
    · exact e
  have hdiv : j / sz < xs.length := by
    rw [Nat.div_lt_iff_lt_mul hsz]; omega
  have hmod : j % sz < sz := Nat.mod_lt _ hsz
  obtain ⟨q1, q2⟩ := h.2 (j / sz) xs[j / sz] (by simp [hdiv])
  obtain ⟨cv, e1, e2⟩ := q2 (j % sz) ((xs[j / sz])[j % sz]'(by rw [q1]; exact hmod)) (by simp)
  rw [show j / sz * sz + j % sz = j by rw [Nat.mul_comm]; exact Nat.div_add_mod j sz] at e1
  have : flat[j] = cv := by
    rw [List.getElem?_eq_getElem hj] at e1; cases e1; rfl
  rw [this]; exact e2.one

theorem RowsFlat.take {sz : Nat} {xs : List (List V)} {flat : List Value} (h : RowsFlat w0 base ι sz xs flat) (n : Nat) : RowsFlat w0 base ι sz (xs.take n) (flat.take (n * sz)) := by
  refine ⟨?_, fun r row hr => ?_⟩
  · simp only [List.length_take, h.1]
    rcases Nat.le_total n xs.length with e | e
    · rw [Nat.min_eq_left e, Nat.min_eq_left (Nat.mul_le_mul_right _ e)]
    · rw [Nat.min_eq_right e, Nat.min_eq_right (Nat.mul_le_mul_right _ e)]
  · rw [List.getElem?_take] at hr
    split at hr
    · rename_i hrn
      obtain ⟨q1, q2⟩ := h.2 r row hr
      refine ⟨q1, fun c v hc => ?_⟩
      obtain ⟨cv, e1, e2⟩ := q2 c v hc
      have hcl : c < sz := by rw [← q1]; exact (List.getElem?_eq_some_iff.1 hc).1
      have : r * sz + c < n * sz := by
        have := Nat.mul_le_mul_right sz (show r + 1 ≤ n by omega)
        rw [Nat.add_mul] at this; omega
      exact ⟨cv, by rw [List.getElem?_take, if_pos this]; exact e1, e2⟩
    · cases hr

theorem rowsFlat_of {ob : Ob} {cells : Array Value} (h : RowsRel w0 base ι ob cells) (s n : Nat) (hsn : s + n ≤ ob.rows.length) :
    RowsFlat w0 base ι ob.w ((ob.rows.drop s).take n) ((cells.toList.drop (s * ob.w)).take (n * ob.w)) := by
  have hfit : (s + n) * ob.w ≤ cells.size := Nat.le_trans (Nat.mul_le_mul_right _ hsn) h.1
  rw [Nat.add_mul] at hfit
  refine ⟨by simp only [List.length_take, List.length_drop, Array.length_toList]; rw [Nat.min_eq_left (by omega), Nat.min_eq_left (by omega)], fun r row hr => ?_⟩
  rw [List.getElem?_take] at hr
  split at hr
  · rename_i hrn
    rw [List.getElem?_drop] at hr
    obtain ⟨q1, q2⟩ := h.2.1 (s + r) row hr
    refine ⟨q1, fun c v hc => ?_⟩
    obtain ⟨cv, e1, e2⟩ := q2 c v hc
    have hcl : c < ob.w := by rw [← q1]; exact (List.getElem?_eq_some_iff.1 hc).1
    have hlt : r * ob.w + c < n * ob.w := by
      have := Nat.mul_le_mul_right ob.w (show r + 1 ≤ n by omega)
      rw [Nat.add_mul] at this; omega
    refine ⟨cv, ?_, e2⟩
    rw [List.getElem?_take, if_pos hlt, List.getElem?_drop]
    rw [Nat.add_mul, Nat.add_assoc] at e1
    simpa using e1
  · cases hr

/-- The rows of a slice value. -/
theorem rows_src (hs : St g w0 base F ι β G env H a w) {sz : Nat} {x : V} {cx : Value} {xs : List (List V)} (hx : RelV w0 base ι x cx) (h : rowsOf H sz x = some xs) :
    ∃ ao c flat, cx = .slice ao xs.length c ∧ RowsFlat w0 base ι sz xs flat ∧ ∀ (j : Nat) v, flat[j]? = some v → ∃ ad, ao = some ad ∧ w.cell? (ad.add j) = some v := by
  unfold rowsOf at h
  split at h
  · rename_i o s n cap
    split at h
    · rename_i ob hob
      split at h
      · rename_i hc; cases h
        obtain ⟨hw, hsn⟩ := hc
        have hlen : ((ob.rows.drop s).take n).length = n := by simp; omega
        cases hx with
        | slice hp hnc hcc hk =>
          rename_i p c
          obtain ⟨p', cells, ty, q1, q2, q3, q4, q5, q6⟩ := hs.heap.get (hs.sub _ _ hob)
          rw [hp] at q1; cases q1
          have hfl := rowsFlat_of q6 s n hsn
          rw [hw] at hfl
          refine ⟨some ⟨p.blk, s * p.w, none⟩, c, _, by rw [hlen], hfl, fun j v hj => ⟨_, rfl, ?_⟩⟩
          rw [addr_add, cell_of_heap q4, q2, hw]
          rw [List.getElem?_take] at hj
          split at hj
          · rw [List.getElem?_drop] at hj; simpa using hj
          · cases hj
        | sliceE ad hp hk =>
          exact ⟨some ad, 0, [], by rw [hlen], ⟨by simp, by simp⟩, by simp⟩
      · cases h
    · cases h
  · cases h; cases hx
    exact ⟨none, 0, [], rfl, ⟨by simp, by simp⟩, by simp⟩
  · cases h

end
end Go.Abs
/-
The abstract layer, part K: append, copy, clear, and the other built-in functions.
-/
namespace Go.Abs
open Go.RowKit (Below)

section
variable {P : Program} {g : Cfg} {w0 : World} {base : Nat} {F : Heap} {ι : Nat → Option Place} {β : Nat → Option Nat} {G : Heap} {env : List V} {H : Heap} {a : Act} {w : World}
variable {next : Act → World → Prop} {Q : Exit → Act → World → Prop} {K : List V → Heap → Prop}

theorem St.drew (hs : St g w0 base F ι β G env H a w) : St g w0 base F ι β G env H a w.drew := by
  refine ⟨⟨fun o ob h => ?_, hs.heap.inj, hs.heap.low.drew, hs.heap.base_le, hs.heap.fin⟩, hs.sub, hs.frm, hs.dis, hs.len, hs.slot, hs.binj, hs.bout, hs.bin, hs.nodef⟩
  exact hs.heap.obj o ob h

/-- A value that is made, with the state behind it. -/
def Made (g : Cfg) (w0 : World) (base : Nat) (F : Heap) (ι : Nat → Option Place) (β : Nat → Option Nat) (env : List V) (a : Act) (K : V → Heap → Prop) (cv : Value) (w' : World) : Prop :=
  ∃ ι' G' v H', ile ι ι' ∧ St g w0 base F ι' β G' env H' a w' ∧ RelV w0 base ι' v cv ∧ K v H'

theorem made_value (hn : Cont g w0 base F ι K next) {o : Oper} {cv : Value} {w' : World} (hrun : (execOp a.eval o).run P w = .ok (.value cv) w')
    (hm : Made g w0 base F ι β env a (fun v H' => putK g env o.dst v fun env' => K env' H') cv w') : o.wp P a w next Q := by
  obtain ⟨ι', G', v, H', hi, hs', hv, hk⟩ := hm
  obtain ⟨env', hk', hs''⟩ := putK_sound hs' hv hk
  exact wp_value hrun (hn _ _ _ _ _ _ _ hi hs'' hk')

theorem run_append_zero {t e ty : TypeId} {sz : Nat} (hu : P.underlying t = some (.slice e)) (hsz : tSize P e = some sz) (ao bo : Option Addr) (n c c' : Nat) (hnc : n ≤ c) :
    (Builtin.append_ #[t, t] ty #[.slice ao n c, .slice bo 0 c']).run P w = .ok (.slice ao n c) w := by
  obtain ⟨i, hi, rfl⟩ := tSize_spec hsz
  have hf : (Builtin.firstCells i.size 0 (.slice bo 0 c')).run P w = .ok #[] w := by
    cases bo <;> simp [Builtin.firstCells, loadCells, loadCellsFrom]
  cases ao <;> simp [Builtin.append_, run_underlying hu, sizeOf, typeInfo, hi, Builtin.lenOf, hnc, hf, storeCells]

theorem run_append_room' {t e ty ty' : TypeId} {sz : Nat} (hu : P.underlying t = some (.slice e)) (hsz : tSize P e = some sz) {b off n c m c' : Nat} {cells : Array Value} (hcell : w.heap[b]? = some (.cells cells ty' (0, 0)))
    {ao : Option Addr} {flat : List Value} (hl : flat.length = m * sz) (hm : 0 < m) (hpos : 0 < sz) (hflat : ∀ (j : Nat) v, flat[j]? = some v → ∃ ad, ao = some ad ∧ w.cell? (ad.add j) = some v) (h1 : ∀ v ∈ flat, v.oneCell' = true)
    (hroom : n + m ≤ c) (hfit : off + (n + m) * sz ≤ cells.size) :
    (Builtin.append_ #[t, t] ty #[.slice (some ⟨b, off, none⟩) n c, .slice ao m c']).run P w =
      .ok (.slice (some ⟨b, off, none⟩) (n + m) c) (w.setRow b (cells.toList.take (off + n * sz) ++ flat ++ cells.toList.drop (off + n * sz + flat.length)).toArray) := by
  obtain ⟨i, hi, rfl⟩ := tSize_spec hsz
  have hne : 0 < flat.length := by rw [hl]; exact Nat.mul_pos hm hpos
  obtain ⟨ad, rfl, _⟩ := hflat 0 flat[0] (by simp [hne])
  have hf := run_firstCells_some (P := P) w i.size m ad m c' flat hl (fun j v hj => by obtain ⟨ad', e, h⟩ := hflat j v hj; cases e; exact h)
  rw [Nat.add_mul] at hfit
  have hst := run_storeCells_at P b (off + n * i.size) ty' flat 0 cells w hcell (by rw [hl]; omega) h1
  simp only [Nat.add_zero] at hst
  simp [Builtin.append_, run_underlying hu, sizeOf, typeInfo, hi, Builtin.lenOf, hroom, hf, addr_add, hst]

theorem zeroCells_size (z : Array Value) (n : Nat) : (Builtin.zeroCells z n).size = n * z.size := by simp [Builtin.zeroCells]

theorem zeroCells_one {z : Array Value} {n : Nat} (h : ∀ v ∈ z.toList, v.oneCell' = true) (k : Nat) (cv : Value) (hk : (Builtin.zeroCells z n)[k]? = some cv) : cv.oneCell' = true := by
  have hm := Array.mem_of_getElem? hk
  unfold Builtin.zeroCells at hm
  obtain ⟨i, hi, rfl⟩ := Array.mem_map.1 hm
  have hi' : i < n * z.size := by simpa using hi
  have hz : 0 < z.size := Nat.pos_of_ne_zero (by rintro e; rw [e, Nat.mul_zero] at hi'; omega)
  have hlt := Nat.mod_lt i hz
  rw [getElem!_pos z (i % z.size) hlt]
  exact h _ (by simp)

/-- The rows that a grown slice holds. -/
theorem rowsRel_grown {sz : Nat} {xs ys : List (List V)} {fx fy : List Value} (hx : RowsFlat w0 base ι sz xs fx) (hy : RowsFlat w0 base ι sz ys fy) (rest : Array Value) (hrest : ∀ (k : Nat) cv, rest[k]? = some cv → cv.oneCell' = true) :
    RowsRel w0 base ι ⟨sz, xs ++ ys⟩ (fx.toArray ++ fy.toArray ++ rest) := by
  refine ⟨?_, fun r row hr => ?_, fun k cv hk => ?_⟩
  rotate_left 2
  · have hm : cv ∈ fx.toArray ++ fy.toArray ++ rest := Array.mem_of_getElem? hk
    rcases Array.mem_append.1 hm with hm | hm
    · rcases Array.mem_append.1 hm with hm | hm
      · exact hx.oneCell cv (by simpa using hm)
      · exact hy.oneCell cv (by simpa using hm)
    · obtain ⟨j, hj⟩ := Array.mem_iff_getElem?.1 hm
      exact hrest j cv hj
  · simp only [List.length_append, Array.size_append, List.size_toArray, hx.1, hy.1, Nat.add_mul]; omega
  · have get : ∀ i, i < fx.length + fy.length → (fx.toArray ++ fy.toArray ++ rest)[i]? = (fx ++ fy)[i]? := fun i hi => by
      rw [Array.getElem?_append_left (by simp; exact hi)]; simp
    by_cases h : r < xs.length
    · rw [show (⟨sz, xs ++ ys⟩ : Ob).rows = xs ++ ys from rfl, List.getElem?_append_left h] at hr
      obtain ⟨q1, q2⟩ := hx.2 r row hr
      refine ⟨q1, fun c v hc => ?_⟩
      obtain ⟨cv, e1, e2⟩ := q2 c v hc
      have hlt := (List.getElem?_eq_some_iff.1 e1).1
      exact ⟨cv, by dsimp only; rw [get _ (by omega), List.getElem?_append_left hlt]; exact e1, e2⟩
    · rw [show (⟨sz, xs ++ ys⟩ : Ob).rows = xs ++ ys from rfl, List.getElem?_append_right (by omega)] at hr
      obtain ⟨q1, q2⟩ := hy.2 _ row hr
      refine ⟨q1, fun c v hc => ?_⟩
      obtain ⟨cv, e1, e2⟩ := q2 c v hc
      have hlt := (List.getElem?_eq_some_iff.1 e1).1
      have hmul : r * sz = fx.length + (r - xs.length) * sz := by rw [hx.1, ← Nat.add_mul]; congr 1; omega
      refine ⟨cv, ?_, e2⟩
      dsimp only
      rw [get _ (by omega), hmul, List.getElem?_append_right (by omega), show fx.length + (r - xs.length) * sz + c - fx.length = (r - xs.length) * sz + c by omega]
      exact e1

theorem appendK_sound (hs : St g w0 base F ι β G env H a w) {t e ty : TypeId} {sz by_ : Nat} {z : V} (he : tElem P t = some e) (hsz : tSize P e = some sz) (hby : tBytes P e = some by_) (hz : tZero P e = some z)
    (hzl : (cellsOf z).length = sz) (hpos : 0 < sz) {s x : V} {cs cx : Value} {xs : List (List V)} (hvs : RelV w0 base ι s cs) (hvx : RelV w0 base ι x cx) (hxs : rowsOf H sz x = some xs) (hmax : ∀ n, n * by_ ≤ 140737488355328 → n ≤ 9223372036854775807)
    {K : V → Heap → Prop} (hk : appendK H sz by_ s xs K) :
    ∃ cv w', (Builtin.append_ #[t, t] ty #[cs, cx]).run P w = .ok cv w' ∧ Made g w0 base F ι β env a K cv w' := by
  have hu := tElem_spec he
  obtain ⟨ao, cx', flat, rfl, hfl, hcell⟩ := rows_src hs hvx hxs
  obtain ⟨i, cz, hi, hzc, hrz, hna, hzok⟩ := tZero_spec (w0 := w0) (base := base) (ι := ι) hz
  obtain ⟨i2, hi2, hsz2⟩ := tSize_spec hsz
  obtain ⟨i3, hi3, hby2⟩ := tBytes_spec hby
  rw [hi] at hi2 hi3; cases hi2; cases hi3
  subst hsz2
  subst hby2
  have hzs : cz.cells.size = i.size := by
    have := (relL_cells hrz (notAny_ne hna)).1
    rw [← hzl, this]; simp
  -- the grown case
  have grown : ∀ (ys : List (List V)) (fy : List Value) (old n : Nat), RowsFlat w0 base ι i.size ys fy → n = ys.length → (∀ o, H o = none → K (.slice o 0 (n + xs.length) none) (upd H o ⟨i.size, ys ++ xs⟩)) →
      Made g w0 base F ι β env a K (.slice (some ⟨w.heap.size, 0, none⟩) (n + xs.length) (grownCap w (n + xs.length) old e))
        (w.drew.alloc (.cells (fy.toArray ++ flat.toArray ++ Builtin.zeroCells cz.cells (grownCap w (n + xs.length) old e - (n + xs.length))) e)) := by
    intro ys fy old n hy hnl hkk
    have hge := grownCap_ge w (n + xs.length) old e
    obtain ⟨o, ι', G', hH, hi', hs', hp⟩ := hs.drew.allocH e (rowsRel_grown hy hfl (Builtin.zeroCells cz.cells (grownCap w (n + xs.length) old e - (n + xs.length))) (zeroCells_one (relL_oneCell (relL_cells hrz (notAny_ne hna)) hzok)))
    refine ⟨ι', G', _, _, hi', hs', ?_, hkk o hH⟩
    refine relV_slice_new hp hge ?_ (by intro k hk; cases hk)
    simp only [Array.size_append, List.size_toArray, zeroCells_size, hzs, hfl.1, hy.1, ← hnl, ← Nat.add_mul]
    exact Nat.mul_le_mul_right _ (by omega)
  unfold appendK at hk
  split at hk
  · cases hvs
    obtain ⟨hk0, hk1⟩ := hk
    by_cases hxe : xs = []
    · subst hxe
      exact ⟨_, _, run_append_zero hu hsz none ao 0 0 cx' (Nat.le_refl _), ι, G, _, _, ile.refl _, hs, .nils, hk0 rfl⟩
    · obtain ⟨hb, hkk⟩ := hk1 hxe
      have hxl : 0 < xs.length := List.length_pos_iff.2 hxe
      have hne : 0 < flat.length := by rw [hfl.1]; exact Nat.mul_pos hxl hpos
      obtain ⟨ad, rfl, _⟩ := hcell 0 flat[0] (by simp [hne])
      have hr := run_append_nil (P := P) w t ty e i cz hu hi hzc ad xs.length cx' flat hfl.1 (fun j v hj => by obtain ⟨ad', e, h⟩ := hcell j v hj; cases e; exact h) hxl
        (by have := hmax _ hb; omega) (by omega)
      refine ⟨_, _, hr, ?_⟩
      have hm := grown [] [] 0 0 ⟨by simp, by simp⟩ rfl (fun o ho => by simpa using hkk o ho)
      simpa using hm
  · rename_i o st n cap
    split at hk
    · exact hk.elim
    · rename_i ob hob
      obtain ⟨hw, hsn, hk0, hk1⟩ := hk
      -- the concrete slice
      have conc : ∃ ad c, cs = .slice (some ad) n c ∧ n ≤ c ∧ (∀ k, cap = some k → c = k) ∧ ((∃ p, ι o = some p ∧ ad = ⟨p.blk, st * p.w, none⟩ ∧ (st + c) * p.w ≤ p.size) ∨ (n = 0 ∧ c = 0)) := by
        cases hvs with
        | slice hp hnc hc hk => exact ⟨_, _, rfl, hnc, hk, .inl ⟨_, hp, rfl, hc⟩⟩
        | sliceE ad hp hk => exact ⟨ad, 0, rfl, Nat.le_refl _, fun k hk' => (hk k hk').symm, .inr ⟨rfl, rfl⟩⟩
      obtain ⟨ad, c, rfl, hnc, hkc, hwhere⟩ := conc
      by_cases hxe : xs = []
      · subst hxe
        exact ⟨_, _, run_append_zero hu hsz (some ad) ao n c cx' hnc, ι, G, _, _, ile.refl _, hs, hvs, hk0 rfl⟩
      · obtain ⟨hb, hkk⟩ := hk1 hxe
        have hxl : 0 < xs.length := List.length_pos_iff.2 hxe
        have hne : 0 < flat.length := by rw [hfl.1]; exact Nat.mul_pos hxl hpos
        obtain ⟨ax, hax, _⟩ := hcell 0 flat[0] (by simp [hne])
        subst hax
        have hcx : ∀ (j : Nat) v, flat[j]? = some v → w.cell? (ax.add j) = some v := fun j v hj => by obtain ⟨ad', e, h⟩ := hcell j v hj; cases e; exact h
        obtain ⟨p, cells, tyb, q1, q2, q3, q4, q5, q6⟩ := hs.heap.get (hs.sub _ _ hob)
        -- growing, off any slice
        have hgrow : c < n + xs.length → (∀ o', H o' = none → K (.slice o' 0 (n + xs.length) none) (upd H o' ⟨i.size, (ob.rows.drop st).take n ++ xs⟩)) →
            ∃ cv w', (Builtin.append_ #[t, t] ty #[.slice (some ad) n c, .slice (some ax) xs.length cx']).run P w = .ok cv w' ∧ Made g w0 base F ι β env a K cv w' := by
          intro hlt hkg
          have hold : ∃ fy, RowsFlat w0 base ι i.size ((ob.rows.drop st).take n) fy ∧ ∀ (j : Nat) v, fy[j]? = some v → w.cell? (ad.add j) = some v := by
            rcases hwhere with ⟨p', hp', rfl, hfit⟩ | ⟨hn0, hc0⟩
            · rw [q1] at hp'; cases hp'
              have hfl2 := rowsFlat_of q6 st n hsn
              rw [hw] at hfl2
              refine ⟨_, hfl2, fun j v hj => ?_⟩
              rw [addr_add, cell_of_heap q4, q2, hw]
              rw [List.getElem?_take] at hj
              split at hj
              · rw [List.getElem?_drop] at hj; simpa using hj
              · cases hj
            · subst hn0
              exact ⟨[], ⟨by simp, by simp⟩, by simp⟩
          obtain ⟨fy, hfy, hfc⟩ := hold
          have hlen : ((ob.rows.drop st).take n).length = n := by simp; omega
          have hr := run_append_grow (P := P) w t ty e i cz hu hi hzc ad n c fy (by rw [hfy.1, hlen]) hfc ax xs.length cx' flat hfl.1 hcx hlt
            (by have := hmax _ hb; omega) (growslice_fits hlt hb)
          exact ⟨_, _, hr, grown _ fy c n hfy hlen.symm hkg⟩
        cases hcap : cap with
        | some k =>
          subst hcap
          have hck := hkc k rfl
          subst hck
          simp only at hkk
          obtain ⟨hin, hout⟩ := hkk
          by_cases hroom : n + xs.length ≤ c
          · obtain ⟨hrows, hkk⟩ := hin hroom
            rcases hwhere with ⟨p', hp', rfl, hfit⟩ | ⟨hn0, hc0⟩
            · rw [q1] at hp'; cases hp'
              have hbnd : (st + n + xs.length) * ob.w ≤ cells.size := Nat.le_trans (Nat.mul_le_mul_right _ hrows) q6.1
              have hpw : p.w = i.size := by rw [q2, hw]
              have hr := run_append_room' (P := P) (w := w) (ty := ty) (m := xs.length) (c' := cx') hu hsz (off := st * p.w) (n := n) (c := c) q4 hfl.1 hxl hpos hcell hfl.oneCell hroom
                (by rw [hpw, ← Nat.add_mul, ← Nat.add_assoc, ← hw]; exact hbnd)
              refine ⟨_, _, hr, ι, upd G o ⟨i.size, ob.rows.take (st + n) ++ xs ++ ob.rows.drop (st + n + xs.length)⟩, .slice o st (n + xs.length) (some c), _, ile.refl _, ?_, ?_, hkk⟩
              · have hsp := q6.splice (k := st + n) (xs := xs) (tail := ob.rows.drop (st + n + xs.length)) (flat := flat) (by omega) (by rw [hw]; exact hfl.1)
                  (by simp only [List.length_drop]; refine Nat.le_trans (Nat.mul_le_mul_right _ ?_) q6.1; omega)
                  (by rw [hw]; exact hfl.2) (fun r row hr => by rw [List.getElem?_drop] at hr; exact hr) hfl.oneCell
                rw [hpw, ← Nat.add_mul, ← hw]
                have := hs.setH (ob' := ⟨ob.w, ob.rows.take (st + n) ++ xs ++ ob.rows.drop (st + n + xs.length)⟩) hob q1 q4 ?_ rfl hsp
                · exact this
                · have := splice_len cells.toList flat ((st + n) * ob.w) (by rw [hfl.1, ← hw, ← Nat.add_mul]; simpa using hbnd)
                  simpa using this
              · exact .slice q1 hroom hfit (fun k hk => by cases hk; rfl)
            · omega
          · exact hgrow (by omega) (hout (by omega))
        | none =>
          subst hcap
          simp only at hkk
          obtain ⟨hst0, hkk⟩ := hkk
          subst hst0
          by_cases hroom : n + xs.length ≤ c
          · rcases hwhere with ⟨p', hp', rfl, hfit⟩ | ⟨hn0, hc0⟩
            · rw [q1] at hp'; cases hp'
              have hpw : p.w = i.size := by rw [q2, hw]
              have hbnd : (n + xs.length) * ob.w ≤ cells.size := by
                rw [q5, ← q2]
                refine Nat.le_trans (Nat.mul_le_mul_right _ ?_) hfit
                omega
              have hr := run_append_room' (P := P) (w := w) (ty := ty) (m := xs.length) (c' := cx') hu hsz (off := 0 * p.w) (n := n) (c := c) q4 hfl.1 hxl hpos hcell hfl.oneCell hroom
                (by rw [Nat.zero_mul, Nat.zero_add, ← hw]; exact hbnd)
              have hsp := q6.splice (k := n) (xs := xs) (tail := []) (flat := flat) (by omega) (by rw [hw]; exact hfl.1) (by simpa using hbnd) (by rw [hw]; exact hfl.2) (by simp) hfl.oneCell
              obtain ⟨o', ι', G', hH', hi', hp', hs'⟩ := hs.moveH (ob' := ⟨ob.w, ob.rows.take n ++ xs ++ []⟩) hob q1 q4 (by
                have := splice_len cells.toList flat (n * ob.w) (by rw [hfl.1, ← hw, ← Nat.add_mul]; simpa using hbnd)
                simpa using this) rfl hsp
              refine ⟨_, _, hr, ι', G', .slice o' 0 (n + xs.length) none, _, hi', ?_, .slice hp' hroom hfit (fun k hk => by cases hk), hkk o' hH'⟩
              rw [Nat.zero_mul, Nat.zero_add, ← hw]
              rw [List.append_nil] at hs'
              exact hs'
            · omega
          · -- a new array: the old object is let go
            have hdel : ∀ o' , H o' = none → K (.slice o' 0 (n + xs.length) none) (upd (del H o) o' ⟨i.size, ob.rows.take n ++ xs⟩) := hkk
            have := hgrow
            -- weaken the heap behind the allocation
            have hlen : ((ob.rows.drop 0).take n).length = n := by simp; omega
            have hlt : c < n + xs.length := by omega
            have hold : ∃ fy, RowsFlat w0 base ι i.size ((ob.rows.drop 0).take n) fy ∧ ∀ (j : Nat) v, fy[j]? = some v → w.cell? (ad.add j) = some v := by
              rcases hwhere with ⟨p', hp', rfl, hfit⟩ | ⟨hn0, hc0⟩
              · rw [q1] at hp'; cases hp'
                have hfl2 := rowsFlat_of q6 0 n (by omega)
                rw [hw] at hfl2
                refine ⟨_, hfl2, fun j v hj => ?_⟩
                rw [addr_add, cell_of_heap q4]
                rw [List.getElem?_take] at hj
                split at hj
                · rw [List.getElem?_drop] at hj; simpa using hj
                · cases hj
              · subst hn0
                exact ⟨[], ⟨by simp, by simp⟩, by simp⟩
            obtain ⟨fy, hfy, hfc⟩ := hold
            have hr := run_append_grow (P := P) w t ty e i cz hu hi hzc ad n c fy (by rw [hfy.1, hlen]) hfc ax xs.length cx' flat hfl.1 hcx hlt
              (by have := hmax _ hb; omega) (growslice_fits hlt hb)
            have hge := grownCap_ge w (n + xs.length) c e
            obtain ⟨o', ι', G', hH, hi', hs', hp⟩ := hs.drew.allocH e (rowsRel_grown hfy hfl (Builtin.zeroCells cz.cells (grownCap w (n + xs.length) c e - (n + xs.length))) (zeroCells_one (relL_oneCell (relL_cells hrz (notAny_ne hna)) hzok)))
            refine ⟨_, _, hr, ι', G', .slice o' 0 (n + xs.length) none, _, hi', hs'.weaken (H' := upd (del H o) o' ⟨i.size, ob.rows.take n ++ xs⟩) ?_, ?_, hkk o' hH⟩
            · intro j y hj
              by_cases ej : j = o'
              · subst ej; rw [upd_same] at hj; rw [upd_same]; simpa using hj
              · rw [upd_ne _ _ ej] at hj; rw [upd_ne _ _ ej]
                unfold del at hj; split at hj
                · cases hj
                · exact hj
            · refine relV_slice_new hp hge ?_ (by intro k hk; cases hk)
              simp only [Array.size_append, List.size_toArray, zeroCells_size, hzs, hfl.1, hfy.1, hlen, ← Nat.add_mul]
              exact Nat.mul_le_mul_right _ (by omega)
  · exact hk.elim

end
end Go.Abs
/-
The abstract layer, part L: the other built-in functions, calls, and all operations together.
-/
namespace Go.Abs
open Go.RowKit (Below)

section
variable {P : Program} {g : Cfg} {w0 : World} {base : Nat} {F : Heap} {ι : Nat → Option Place} {β : Nat → Option Nat} {G : Heap} {env : List V} {H : Heap} {a : Act} {w : World}
variable {next : Act → World → Prop} {Q : Exit → Act → World → Prop}

theorem run_storeRows {b off : Nat} {cells : Array Value} {ty : TypeId} {flat : List Value} (hcell : w.heap[b]? = some (.cells cells ty (0, 0))) (hfit : off + flat.length ≤ cells.size) (h1 : ∀ v ∈ flat, v.oneCell' = true) :
    (storeCells ⟨b, off, none⟩ flat).run P w = .ok () (w.setRow b (cells.toList.take off ++ flat ++ cells.toList.drop (off + flat.length)).toArray) := by
  have := run_storeCells_at P b off ty flat 0 cells w hcell (by simpa using hfit) h1
  simpa using this

/-- Rows written over the rows of a slice, from its first on. -/
theorem overwrite (hs : St g w0 base F ι β G env H a w) {o st n : Nat} {cap : Option Nat} {ob : Ob} {sz m : Nat} {cd : Value} {ys : List (List V)} {fy : List Value}
    (hv : RelV w0 base ι (.slice o st n cap) cd) (hob : H o = some ob) (hw : ob.w = sz) (hsn : st + n ≤ ob.rows.length) (hm : ys.length = m) (hmn : m ≤ n) (hy : RowsFlat w0 base ι sz ys fy) :
    ∃ ad c, cd = .slice (some ad) n c ∧ ∃ w', (storeCells ad fy).run P w = .ok () w' ∧ St g w0 base F ι β (upd G o ⟨sz, ob.rows.take st ++ ys ++ ob.rows.drop (st + m)⟩) env (upd H o ⟨sz, ob.rows.take st ++ ys ++ ob.rows.drop (st + m)⟩) a w' := by
  obtain ⟨p, cells, tyb, q1, q2, q3, q4, q5, q6⟩ := hs.heap.get (hs.sub _ _ hob)
  subst hw
  have hbnd : (st + m) * ob.w ≤ cells.size := Nat.le_trans (Nat.mul_le_mul_right _ (by omega)) q6.1
  have hlenf : fy.length = m * ob.w := by rw [hy.1, hm]
  have hsp := q6.splice (k := st) (xs := ys) (tail := ob.rows.drop (st + m)) (flat := fy) (by omega) hy.1
    (by rw [hm]; simp only [List.length_drop]; refine Nat.le_trans (Nat.mul_le_mul_right _ ?_) q6.1; omega) hy.2 (fun r row hr => by rw [List.getElem?_drop] at hr; rw [hm]; exact hr) hy.oneCell
  have hsize : (cells.toList.take (st * ob.w) ++ fy ++ cells.toList.drop (st * ob.w + fy.length)).toArray.size = cells.size := by
    have := splice_len cells.toList fy (st * ob.w) (by rw [hlenf, ← Nat.add_mul]; simpa using hbnd)
    simpa using this
  have hst := hs.setH (ob' := ⟨ob.w, ob.rows.take st ++ ys ++ ob.rows.drop (st + m)⟩) hob q1 q4 hsize rfl hsp
  cases hv with
  | slice hp hnc hcc hk =>
    rename_i p' c
    rw [q1] at hp; cases hp
    refine ⟨_, c, rfl, _, run_storeRows q4 (by rw [q2, hlenf, ← Nat.add_mul]; exact hbnd) hy.oneCell, ?_⟩
    rw [q2]; exact hst
  | sliceE ad hp hk =>
    have hm0 : m = 0 := by omega
    have hf0 : fy = [] := List.eq_nil_of_length_eq_zero (by rw [hlenf, hm0, Nat.zero_mul])
    have hy0 : ys = [] := List.eq_nil_of_length_eq_zero (by rw [hm, hm0])
    refine ⟨ad, 0, rfl, w, by subst hf0; rfl, ?_⟩
    have : w.setRow p.blk (cells.toList.take (st * ob.w) ++ fy ++ cells.toList.drop (st * ob.w + fy.length)).toArray = w := by
      subst hf0
      have e : (cells.toList.take (st * ob.w) ++ [] ++ cells.toList.drop (st * ob.w + ([] : List Value).length)).toArray = cells := by
        apply Array.ext'; simp
      rw [e]; exact setRow_self w p.blk cells tyb (0, 0) q4
    rw [this] at hst; exact hst

theorem copyK_sound (hs : St g w0 base F ι β G env H a w) {t t' e ty : TypeId} {sz : Nat} (he : tElem P t = some e) (hsz : tSize P e = some sz) {d x : V} {cd cx : Value} {xs : List (List V)} (hd : RelV w0 base ι d cd) (hx : RelV w0 base ι x cx)
    (hxs : rowsOf H sz x = some xs) {K : V → Heap → Prop} (hk : copyK H sz d xs K) :
    ∃ cv w', (Builtin.copy_ #[t, t'] ty #[cd, cx]).run P w = .ok cv w' ∧ Made g w0 base F ι β env a K cv w' := by
  have hu := tElem_spec he
  obtain ⟨ao, cx', flat, rfl, hfl, hcell⟩ := rows_src hs hx hxs
  have hfirst : ∀ m, m ≤ xs.length → (Builtin.firstCells sz m (.slice ao xs.length cx')).run P w = .ok (flat.take (m * sz)).toArray w := by
    intro m hm
    cases ao with
    | none =>
      have hf0 : flat = [] := by
        cases flat with
        | nil => rfl
        | cons v vs => obtain ⟨ad, e, _⟩ := hcell 0 v rfl; cases e
      subst hf0; simp [Builtin.firstCells]
    | some ad =>
      refine run_firstCells_some w sz m ad _ _ _ ?_ (fun j v hj => ?_)
      · simp only [List.length_take, hfl.1]; exact Nat.min_eq_left (Nat.mul_le_mul_right _ hm)
      · rw [List.getElem?_take] at hj
        split at hj
        · obtain ⟨ad', e, h⟩ := hcell j v hj; cases e; exact h
        · cases hj
  unfold copyK at hk
  split at hk
  · cases hd
    refine ⟨_, w, ?_, ι, G, _, H, ile.refl _, hs, .int _ _, hk⟩
    have h0 := hfirst 0 (Nat.zero_le _)
    simp only [Nat.zero_mul, List.take_zero] at h0
    simp [Builtin.copy_, run_underlying hu, Builtin.lenOf, run_sizeOf hsz, goInt, h0]
  · rename_i o st n cap
    split at hk
    · exact hk.elim
    · rename_i ob hob
      obtain ⟨hw, hsn, hkk⟩ := hk
      have hty := hfl.take (min xs.length n)
      have hyl : (xs.take (min xs.length n)).length = min xs.length n := by simp
      obtain ⟨ad, c, rfl, w', hrun, hst⟩ := overwrite (P := P) hs hd hob hw hsn hyl (Nat.min_le_right _ _) hty
      have htake : xs.take (min xs.length n) = xs.take n := by
        rcases Nat.le_total n xs.length with e | e
        · rw [Nat.min_eq_right e]
        · rw [Nat.min_eq_left e, List.take_of_length_le (Nat.le_refl _), List.take_of_length_le e]
      rw [htake] at hst
      refine ⟨_, w', ?_, ι, _, _, _, ile.refl _, hst, .int _ _, hkk⟩
      have h0 := hfirst (min xs.length n) (by omega)
      simp [Builtin.copy_, run_underlying hu, Builtin.lenOf, run_sizeOf hsz, goInt, h0, hrun]
      show ((min xs.length n : Nat) : Int) = _
      omega
  · exact hk.elim


theorem zeroFlat {sz n : Nat} {z : V} {cz : Value} (hzl : (cellsOf z).length = sz) (hcz : RelL w0 base ι (cellsOf z) cz.cells.toList) (hczs : cz.cells.size = sz) (hok : (cellsOf z).all cellOk = true) :
    RowsFlat w0 base ι sz (List.replicate n (cellsOf z)) (Builtin.zeroCells cz.cells n).toList := by
  refine ⟨by simp [zeroCells_size, hczs], fun r row hr => ?_⟩
  have hrn : r < n := by
    have := (List.getElem?_eq_some_iff.1 hr).1; simpa using this
  have hrow : row = cellsOf z := by
    simp [List.getElem?_replicate, hrn] at hr; exact hr.symm
  subst hrow
  refine ⟨hzl, fun c v hcv => ?_⟩
  have hclt : c < sz := by rw [← hzl]; exact (List.getElem?_eq_some_iff.1 hcv).1
  have hclt2 : c < cz.cells.toList.length := by rw [← hcz.1, hzl]; exact hclt
  have hlt : r * sz + c < n * sz := by
    have := Nat.mul_le_mul_right sz (show r + 1 ≤ n by omega)
    rw [Nat.add_mul] at this; omega
  refine ⟨cz.cells.toList[c], ?_, hcz.2 c v _ hcv (by simp [hclt2]), .inl (List.all_eq_true.1 hok _ (List.mem_of_getElem? hcv))⟩
  have hm : (r * sz + c) % sz = c := by rw [Nat.add_comm, Nat.mul_comm, Nat.add_mul_mod_self_left, Nat.mod_eq_of_lt hclt]
  have hcl3 : c < cz.cells.size := by simpa using hclt2
  simp [Builtin.zeroCells, hczs, hlt, hm]
  exact getElem!_pos cz.cells c hcl3

theorem growZ_sound (hs : St g w0 base F ι β G env H a w) {t t' e ty : TypeId} {sz by_ : Nat} {z : V} (he : tElem P t = some e) (hsz : tSize P e = some sz) (hby : tBytes P e = some by_) (hz : tZero P e = some z)
    (hti : tInt P t' = true) (hzl : (cellsOf z).length = sz) (hpos : 0 < sz) (hbpos : 0 < by_) {s x : V} {cs cx : Value} (hvs : RelV w0 base ι s cs) (hvx : RelV w0 base ι x cx)
    {K : V → Heap → Prop} (hk : growZ H sz by_ (cellsOf z) s x K) :
    ∃ cv w', (Builtin.append_ #[t, t'] ty #[cs, cx]).run P w = .ok cv w' ∧ Made g w0 base F ι β env a K cv w' := by
  have hu := tElem_spec he
  have hu' : ∃ k, P.underlying t' = some (.int k) := by
    unfold tInt at hti
    split at hti
    · rename_i k hk; exact ⟨k, hk⟩
    · cases hti
  obtain ⟨kk, hu'⟩ := hu'
  obtain ⟨i, cz, hi, hzc, hrz, hna, hzok⟩ := tZero_spec (w0 := w0) (base := base) (ι := ι) hz
  obtain ⟨i2, hi2, hsz2⟩ := tSize_spec hsz
  obtain ⟨i3, hi3, hby2⟩ := tBytes_spec hby
  rw [hi] at hi2 hi3; cases hi2; cases hi3
  subst hsz2
  subst hby2
  have hcz := relL_cells hrz (notAny_ne hna)
  have hczs : cz.cells.size = i.size := by rw [← hzl, hcz.1]; simp
  unfold growZ at hk
  split at hk
  · rename_i o st n k kx m
    split at hk
    · exact hk.elim
    · rename_i ob hob
      obtain ⟨hw, hsn, hm0, hm1, hgt, hb, hkk⟩ := hk
      cases hvx
      obtain ⟨mm, rfl⟩ : ∃ mm : Nat, m = mm := ⟨m.toNat, by omega⟩
      simp only [Int.toNat_natCast] at hgt hb hkk
      have conc : ∃ ad fy, cs = .slice (some ad) n k ∧ RowsFlat w0 base ι i.size ((ob.rows.drop st).take n) fy ∧ ∀ (j : Nat) v, fy[j]? = some v → w.cell? (ad.add j) = some v := by
        cases hvs with
        | slice hp hnc hc hk =>
          have := hk k rfl; subst this
          obtain ⟨p, cells, tyb, q1, q2, q3, q4, q5, q6⟩ := hs.heap.get (hs.sub _ _ hob)
          rw [hp] at q1; cases q1
          have hfl2 := rowsFlat_of q6 st n hsn
          rw [hw] at hfl2
          refine ⟨_, _, rfl, hfl2, fun j v hj => ?_⟩
          rw [addr_add, cell_of_heap q4, q2, hw]
          rw [List.getElem?_take] at hj
          split at hj
          · rw [List.getElem?_drop] at hj; simpa using hj
          · cases hj
        | sliceE ad hp hk =>
          have := hk k rfl; subst this
          exact ⟨ad, [], rfl, ⟨by simp, by simp⟩, by simp⟩
      obtain ⟨ad, fy, rfl, hfy, hfc⟩ := conc
      have hlen : ((ob.rows.drop st).take n).length = n := by simp; omega
      have hfz := zeroFlat (w0 := w0) (base := base) (ι := ι) (n := mm) hzl hcz hczs hzok
      have hge := grownCap_ge w (n + mm) k e
      have hfo := run_firstCells_some (P := P) w.drew i.size n ad n k fy (by rw [hfy.1, hlen]) (by simpa using hfc)
      have hn : ¬ (n + mm ≤ k) := by omega
      have hnm : n + mm ≤ 140737488355328 := Nat.le_trans (Nat.le_mul_of_pos_right _ hbpos) hb
      have h63' : ¬ (9223372036854775807 < ((n : Int) + (mm : Int))) := by omega
      have h48' : ¬ (281474976710656 < Builtin.nextslicecap (n + mm) k * i.bytes) := by have := growslice_fits hgt hb; omega
      have hmb : ¬ (281474976710656 < mm * i.bytes) := by
        have : mm * i.bytes ≤ (n + mm) * i.bytes := Nat.mul_le_mul_right _ (by omega)
        omega
      have hmb' : ¬ ((281474976710656 : Int) < (mm : Int) * (i.bytes : Int)) := by
        have hc : ((mm * i.bytes : Nat) : Int) = (mm : Int) * (i.bytes : Int) := Int.natCast_mul _ _
        rw [← hc]; omega
      have has : (asInt (Value.int kx (mm : Int))).run P w = .ok (mm : Int) w := rfl
      have hmax : max (mm : Int) 0 = mm := by omega
      have hwr : IntKind.i64.wrap (mm : Int) = mm := IntWalk.i64_in _ ⟨by omega, by omega⟩
      have hmul : (mm * i.size = 0) ↔ mm = 0 := by
        constructor
        · intro h; rcases Nat.mul_eq_zero.1 h with h | h
          · exact h
          · omega
        · rintro rfl; simp
      have hr : (Builtin.append_ #[t, t'] ty #[.slice (some ad) n k, .int kx (mm : Int)]).run P w =
          .ok (.slice (some ⟨w.heap.size, 0, none⟩) (n + mm) (grownCap w (n + mm) k e))
            (w.drew.alloc (.cells (fy.toArray ++ (Builtin.zeroCells cz.cells mm).toList.toArray ++ Builtin.zeroCells cz.cells (grownCap w (n + mm) k e - (n + mm))) e)) := by
        have hneg : ¬ ((mm : Int) < 0) := by omega
        by_cases h0 : mm = 0
        · subst h0
          exfalso; simp at hgt
          cases hvs with
          | slice hp hnc hc hk => have := hk k rfl; omega
          | sliceE ad hp hk => omega
        · have h0' : ¬ (mm * i.size = 0) := fun h => h0 (hmul.1 h)
          simp [Builtin.append_, run_underlying hu, run_underlying hu', sizeOf, typeInfo, zeroValue, hi, hzc, has, hwr, hneg, hmb', hmax, h0', hn, h63', h48', Question.forced, hfo, newRow, grownCap]
      obtain ⟨o', ι', G', hH, hi', hs', hp⟩ := hs.drew.allocH e (rowsRel_grown hfy hfz (Builtin.zeroCells cz.cells (grownCap w (n + mm) k e - (n + mm))) (zeroCells_one (relL_oneCell hcz hzok)))
      refine ⟨_, _, hr, ι', G', _, _, hi', hs', ?_, hkk o' hH⟩
      refine relV_slice_new hp hge ?_ (by intro k hk; cases hk)
      simp only [Array.size_append, List.size_toArray, zeroCells_size, hczs, hfy.1, hlen, Array.length_toList, ← Nat.add_mul]
      exact Nat.mul_le_mul_right _ (by omega)
  · exact hk.elim

theorem clearK_sound (hs : St g w0 base F ι β G env H a w) {t e ty : TypeId} {sz : Nat} {z : V} (he : tElem P t = some e) (hsz : tSize P e = some sz) (hz : tZero P e = some z) {d : V} {cd : Value} (hd : RelV w0 base ι d cd)
    {K : V → Heap → Prop} (hk : clearK H sz (cellsOf z) d K) :
    ∃ cv w', (Builtin.clear_ #[t] ty #[cd]).run P w = .ok cv w' ∧ Made g w0 base F ι β env a K cv w' := by
  have hu := tElem_spec he
  unfold clearK at hk
  split at hk
  · cases hd
    exact ⟨.tuple #[], w, by simp [Builtin.clear_, run_underlying hu], ι, G, _, H, ile.refl _, hs, relV_tup RelL.nil, hk⟩
  · rename_i o st n cap
    split at hk
    · exact hk.elim
    · rename_i ob hob
      obtain ⟨hw, hsn, hzl, hkk⟩ := hk
      obtain ⟨i, cz, hi, hzc, hrz, hna, hok⟩ := tZero_spec (w0 := w0) (base := base) (ι := ι) hz
      have hcz := relL_cells hrz (notAny_ne hna)
      have hczs : cz.cells.size = sz := by rw [← hzl, hcz.1]; simp
      have hfl := zeroFlat (n := n) hzl hcz hczs hok
      obtain ⟨ad, c, rfl, w', hrun, hst⟩ := overwrite (P := P) hs hd hob hw hsn (by simp) (Nat.le_refl n) hfl
      refine ⟨.tuple #[], w', ?_, ι, _, _, _, ile.refl _, hst, relV_tup RelL.nil, hkk⟩
      have hzv : (zeroValue e).run P w = .ok cz w := by simp [zeroValue, typeInfo, hi, hzc]
      cases n with
      | zero =>
        have h0 : (Builtin.zeroCells cz.cells 0).toList = [] := by simp [Builtin.zeroCells]
        rw [h0] at hrun
        have hww : w' = w := by
          have : Result.ok () w = Result.ok () w' := hrun
          cases this; rfl
        rw [hww]
        simp [Builtin.clear_, run_underlying hu]
      | succ n => simp [Builtin.clear_, run_underlying hu, hzv, hrun]
  · exact hk.elim

theorem aMin2_sound (mx : Bool) {x y v : V} {cx cy : Value} (hx : RelV w0 base ι x cx) (hy : RelV w0 base ι y cy) (h : aMin2 mx x y = some v) :
    ∃ cv, (match mx with | true => Builtin.max2 cx cy | false => Builtin.min2 cx cy).run P w = .ok cv w ∧ RelV w0 base ι v cv := by
  unfold aMin2 at h
  split at h
  · rw [relV_int hx, relV_int hy]
    split at h
    · rename_i hk; subst hk; cases h
      cases mx
      · exact ⟨_, rfl, .int _ _⟩
      · exact ⟨_, rfl, .int _ _⟩
    · cases h
  · cases h

theorem aMins_sound (mx : Bool) : ∀ {ys : List V} {x v : V} {cx : Value} {cys : List Value}, RelV w0 base ι x cx → RelL w0 base ι ys cys → aMins mx x ys = some v →
    ∃ cv, (cys.foldlM (match mx with | true => Builtin.max2 | false => Builtin.min2) cx).run P w = .ok cv w ∧ RelV w0 base ι v cv
  | [], x, v, cx, cys, hx, hy, h => by
    simp [aMins] at h; subst h
    have := hy.cases_nil; subst this
    exact ⟨cx, rfl, hx⟩
  | y :: ys, x, v, cx, cys, hx, hy, h => by
    obtain ⟨cy, cys', rfl, h1, h2⟩ := hy.cases_cons
    unfold aMins at h
    split at h
    · rename_i z hz
      obtain ⟨cz, q1, q2⟩ := aMin2_sound (P := P) (w := w) mx hx h1 hz
      obtain ⟨cv, r1, r2⟩ := aMins_sound mx q2 h2 h
      refine ⟨cv, ?_, r2⟩
      simp only [List.foldlM_cons, Sem.run_bind]
      cases mx
      · simp only at q1 r1 ⊢; rw [q1]; exact r1
      · simp only at q1 r1 ⊢; rw [q1]; exact r1
    · cases h

theorem lenOf_sound {t : TypeId} {e ty : TypeId} (hu : P.underlying t = some (.slice e)) {x : V} {cx : Value} {n : Nat} (hx : RelV w0 base ι x cx) (h : lenOf x = some n) : (Builtin.len_ #[t] ty #[cx]).run P w = .ok (.int .i64 n) w := by
  unfold lenOf at h
  split at h
  · cases h
    cases hx with
    | slice hp hn hc hk => simp [Builtin.len_, run_underlying hu, goInt]
    | sliceE a hp hk => simp [Builtin.len_, run_underlying hu, goInt]
  · cases h; cases hx; simp [Builtin.len_, run_underlying hu, goInt]
  · cases h
    cases hx with
    | ro f hb hn hc hw hcell hrel => subst hn; simp [Builtin.len_, run_underlying hu, goInt]
    | roE a c => simp [Builtin.len_, run_underlying hu, goInt]
  · cases h


theorem builtin_sound (hs : St g w0 base F ι β G env H a w) {b : Builtin} {tys : List TypeId} {ty : TypeId} {cb : Array Bool} {args : List V} {cargs : List Value} (ha : RelL w0 base ι args cargs) {K : V → Heap → Prop} (hk : builtinK P H b tys args K) :
    ∃ cv w', (builtin b tys.toArray ty cb cargs.toArray).run P w = .ok (.value cv) w' ∧ Made g w0 base F ι β env a K cv w' := by
  unfold builtinK at hk
  split at hk
  · rename_i t x
    obtain ⟨cx, r, rfl, h1, h2⟩ := ha.cases_cons
    have := h2.cases_nil; subst this
    obtain ⟨e, he, hk⟩ := bnd_elim hk
    obtain ⟨n, hn, hk⟩ := bnd_elim hk
    exact ⟨_, w, run_v (lenOf_sound (tElem_spec he) h1 hn), ι, G, _, H, ile.refl _, hs, .int _ _, hk⟩
  · rename_i t x
    obtain ⟨cx, r, rfl, h1, h2⟩ := ha.cases_cons
    have := h2.cases_nil; subst this
    obtain ⟨e, he, hk2⟩ := bnd_elim hk
    clear hk
    have hu := tElem_spec he
    unfold capK at hk2
    split at hk2
    · cases h1 with
      | slice hp hn hc hkk => exact ⟨_, w, run_v (by simp [Builtin.cap_, run_underlying hu, goInt]), ι, G, _, H, ile.refl _, hs, .int _ _, hk2 _ hn⟩
      | sliceE ad hp hkk => exact ⟨_, w, run_v (by simp [Builtin.cap_, run_underlying hu, goInt]), ι, G, _, H, ile.refl _, hs, .int _ _, hk2 0 (Nat.le_refl _)⟩
    · cases h1 with
      | slice hp hn hc hkk =>
        have := hkk _ rfl; subst this
        exact ⟨_, w, run_v (by simp [Builtin.cap_, run_underlying hu, goInt]), ι, G, _, H, ile.refl _, hs, .int _ _, hk2⟩
      | sliceE ad hp hkk =>
        have := hkk _ rfl; subst this
        exact ⟨_, w, run_v (by simp [Builtin.cap_, run_underlying hu, goInt]), ι, G, _, H, ile.refl _, hs, .int _ _, hk2⟩
    · cases h1
      exact ⟨_, w, run_v (by simp [Builtin.cap_, run_underlying hu, goInt]), ι, G, _, H, ile.refl _, hs, .int _ _, hk2⟩
    · exact hk2.elim
  · rename_i t t' s x
    obtain ⟨cs, r, rfl, h1, h2⟩ := ha.cases_cons
    obtain ⟨cx, r, rfl, h3, h4⟩ := h2.cases_cons
    have := h4.cases_nil; subst this
    split at hk
    · rename_i htt; subst htt
      obtain ⟨e, he, hk⟩ := bnd_elim hk
      obtain ⟨sz, hsz, hk⟩ := bnd_elim hk
      obtain ⟨by_, hby, hk⟩ := bnd_elim hk
      obtain ⟨z, hz, hk⟩ := bnd_elim hk
      split at hk
      · rename_i hc
        obtain ⟨xs, hxs, hk⟩ := bnd_elim hk
        obtain ⟨cv, w', hr, hm⟩ := appendK_sound (P := P) (ty := ty) hs he hsz hby hz hc.1 hc.2.1 h1 h3 hxs (fun n hn => by
          have := Nat.mul_le_mul_left n hc.2.2
          simp at this; omega) hk
        exact ⟨cv, w', run_v hr, hm⟩
      · exact hk.elim
    · obtain ⟨e, he, hk⟩ := bnd_elim hk
      obtain ⟨sz, hsz, hk⟩ := bnd_elim hk
      obtain ⟨by_, hby, hk⟩ := bnd_elim hk
      obtain ⟨z, hz, hk⟩ := bnd_elim hk
      split at hk
      · rename_i hc
        obtain ⟨cv, w', hr, hm⟩ := growZ_sound (P := P) (ty := ty) hs he hsz hby hz hc.1 hc.2.1 hc.2.2.1 hc.2.2.2 h1 h3 hk
        exact ⟨cv, w', run_v hr, hm⟩
      · exact hk.elim
  · rename_i t t' d x
    obtain ⟨cs, r, rfl, h1, h2⟩ := ha.cases_cons
    obtain ⟨cx, r, rfl, h3, h4⟩ := h2.cases_cons
    have := h4.cases_nil; subst this
    obtain ⟨e, he, hk⟩ := bnd_elim hk
    obtain ⟨sz, hsz, hk⟩ := bnd_elim hk
    obtain ⟨xs, hxs, hk⟩ := bnd_elim hk
    obtain ⟨cv, w', hr, hm⟩ := copyK_sound (P := P) (ty := ty) hs he hsz h1 h3 hxs hk
    exact ⟨cv, w', run_v hr, hm⟩
  · rename_i t d
    obtain ⟨cs, r, rfl, h1, h2⟩ := ha.cases_cons
    have := h2.cases_nil; subst this
    obtain ⟨e, he, hk⟩ := bnd_elim hk
    obtain ⟨sz, hsz, hk⟩ := bnd_elim hk
    obtain ⟨z, hz, hk⟩ := bnd_elim hk
    obtain ⟨cv, w', hr, hm⟩ := clearK_sound (P := P) (ty := ty) hs he hsz hz h1 hk
    exact ⟨cv, w', run_v hr, hm⟩
  · rename_i x xs
    obtain ⟨cx, r, rfl, h1, h2⟩ := ha.cases_cons
    obtain ⟨v, hv, hk⟩ := bnd_elim hk
    obtain ⟨cv, q1, q2⟩ := aMins_sound (P := P) (w := w) false h1 h2 hv
    exact ⟨cv, w, run_v q1, ι, G, _, H, ile.refl _, hs, q2, hk⟩
  · rename_i x xs
    obtain ⟨cx, r, rfl, h1, h2⟩ := ha.cases_cons
    obtain ⟨v, hv, hk⟩ := bnd_elim hk
    obtain ⟨cv, q1, q2⟩ := aMins_sound (P := P) (w := w) true h1 h2 hv
    exact ⟨cv, w, run_v q1, ι, G, _, H, ile.refl _, hs, q2, hk⟩
  · exact hk.elim

end
end Go.Abs
/-
The abstract layer, part M: every operation.
-/
namespace Go.Abs
open Go.RowKit (Below)

section
variable {P : Program} {g : Cfg} {w0 : World} {base : Nat} {F : Heap} {ι : Nat → Option Place} {β : Nat → Option Nat} {G : Heap} {env : List V} {H : Heap} {a : Act} {w : World}
variable {next : Act → World → Prop} {Q : Exit → Act → World → Prop} {K : List V → Heap → Prop}

theorem run_callFunc {f : FuncId} (h : enterable P f = true) (args : Array Value) (w : World) : (callFunc f args).run P w = .ok (.enter f args) w := by
  unfold enterable at h
  split at h
  · rename_i fn hf
    simp only [Bool.and_eq_true, Bool.not_eq_true'] at h
    obtain ⟨h1, h2⟩ := h
    have hn : ¬ (fn.body.isNone = true) := by
      cases hb : fn.body with
      | none => rw [hb] at h1; cases h1
      | some b => simp
    simp only [callFunc, Sem.run_bind, run_program, Result.andThen_ok, hf, h2, Bool.false_eq_true, if_false, if_neg hn]
    rfl
  · cases h

theorem St.outer (hs : St g w0 base F ι β G env H a w) : ∃ F', Abs.sub F' G ∧ disj H F' ∧ Abs.sub F F' ∧ (∀ s i, β s = some i → H i = none ∧ (∀ x, G i = some x → F' i = some x)) ∧ ∀ i x, F' i = some x → H i = none := by
  refine ⟨fun i => match H i with | some _ => none | none => G i, fun i x h => ?_, fun i x h => ?_, fun i x h => ?_, fun s i h => ⟨(hs.bout s i h).1, fun x hx => ?_⟩, fun i x h => ?_⟩
  · dsimp only at h; split at h
    · cases h
    · exact h
  · dsimp only; rw [h]
  · dsimp only
    cases hH : H i with
    | some y => have := hs.dis i y hH; rw [h] at this; cases this
    | none => exact hs.frm i x h
  · dsimp only; rw [(hs.bout s i h).1]; exact hx
  · dsimp only at h; split at h
    · cases h
    · rename_i hn; exact hn

/-- A call. -/
theorem call_sound (hs : St g w0 base F ι β G env H a w) {f : FuncId} {args : List V} {cargs : List Value} (ha : RelL w0 base ι args cargs) {R : V → Heap → Prop} (hc : ACalls P f args H R)
    {T : Ending → World → Prop} (hT : ∀ cv w', Made g w0 base F ι β env a R cv w' → T (.returned cv) w') : Calls P f cargs.toArray w T := by
  obtain ⟨F', h1, h2, h3, h4, h5⟩ := hs.outer
  refine (hc.run w0 base F' ι G w cargs hs.heap hs.sub h1 h2 ha).mono fun e w' h => ?_
  obtain ⟨v, cv, ι', G', H', rfl, hv, hi, hrel, hsub, hfrm, hdis, hR⟩ := h
  refine hT cv w' ⟨ι', G', v, H', hi, ⟨hrel, hsub, sub_trans h3 hfrm, fun i x hx => ?_, hs.len, fun s v cv e1 e2 => ?_, hs.binj, fun s i e => ⟨?_, (hs.bout s i e).2⟩, fun s i e => ?_, hs.nodef⟩, hv, hR⟩
  · have := hdis i x hx
    cases hF : F i with
    | none => rfl
    | some y => rw [h3 i y hF] at this; cases this
  · exact (hs.slot s v cv e1 e2).grow hi fun s i x q1 q2 => hfrm i x ((h4 s i q1).2 x q2)
  · cases hH' : H' i with
    | none => rfl
    | some y =>
      have hd := hdis i y hH'
      obtain ⟨x, hx⟩ := hs.bin s i e
      rw [(h4 s i e).2 x hx] at hd; cases hd
  · obtain ⟨x, hx⟩ := hs.bin s i e
    exact ⟨x, hfrm i x ((h4 s i e).2 x hx)⟩

theorem overlaps_run (hs : St g w0 base F ι β G env H a w) {t r e : TypeId} {size : Nat} (ht : P.underlying t = some (.slice e)) (hsz : tSize P e = some size) {o1 s1 n1 o2 s2 n2 : Nat} {c1 c2 : Option Nat} {x1 x2 : Ob} (hne : o1 ≠ o2 ∧ 0 < n1 ∧ 0 < n2) (hx1 : H o1 = some x1) (hx2 : H o2 = some x2)
    (hrows : x2.rows ≠ []) (hpos : 0 < x2.w) {v1 v2 : Value} (h1 : RelV w0 base ι (.slice o1 s1 n1 c1) v1) (h2 : RelV w0 base ι (.slice o2 s2 n2 c2) v2) :
    (Extern.SlicesOverlaps.overlaps #[t, t] #[r] #[v1, v2]).run P w = .ok (.bool false) w := by
  obtain ⟨i, hi, rfl⟩ := tSize_spec hsz
  have hz : ∀ w, (Go.sizeOf e).run P w = .ok i.size w := fun w => by simp [sizeOf, typeInfo, hi]
  obtain ⟨p1, cells1, ty1, a1, a2, a3, a4, a5, a6⟩ := hs.heap.get (hs.sub _ _ hx1)
  obtain ⟨p2, cells2, ty2, b1, b2, b3, b4, b5, b6⟩ := hs.heap.get (hs.sub _ _ hx2)
  cases h1 with
  | sliceE ad hp hk => exact absurd hne.2.1 (by omega)
  | slice hp hn hc hk =>
    cases h2 with
    | sliceE ad2 hp2 hk2 => exact absurd hne.2.2 (by omega)
    | slice hp2 hn2 hc2 hk2 =>
      rw [a1] at hp; cases hp
      rw [b1] at hp2; cases hp2
      have hb : p1.blk ≠ p2.blk := fun e => hne.1 (hs.heap.inj _ _ _ _ _ _ (hs.sub _ _ hx1) (hs.sub _ _ hx2) a1 b1 e)
      have hk2 : cells2.size ≠ 0 := by
        have := b6.1
        have hr : 0 < x2.rows.length := List.length_pos_iff.2 hrows
        have := Nat.mul_pos hr hpos
        omega
      exact Lib.run_overlaps_apart w t r e ht i.size hz _ _ _ _ _ _ hb ty1 ty2 cells1.size cells2.size (by simp [World.shape?, a4]) (by simp [World.shape?, b4]) hk2 (by simp [World.frozen?, a4]) (by simp [World.frozen?, a4])

theorem callK_sound (hs : St g w0 base F ι β G env H a w) (hn : Cont g w0 base F ι K next) {o : Oper} {c : Call} (ho : o.op = .call c) {xf : Operand} (hcal : c.callee = .value xf) {f : V} {args : List V}
    (hf : ev g env xf = some f) (ha : evs g env c.args.toList = some args) (hk : callK P H f args fun v H' => putK g env o.dst v fun env' => K env' H') : o.wp P a w next Q := by
  have hfv := ev_sound hs hf
  have hav := evs_sound hs ha
  unfold callK at hk
  split at hk
  · rename_i f' caps
    split at hk
    · rename_i hent
      generalize hcf : a.eval xf = cf at hfv
      cases hfv with
      | fn hl hcap =>
        rename_i cvs
        have hcaps : RelL w0 base ι caps cvs.toList := ⟨by simp [hl], fun i v cv h1 h2 => by
          obtain ⟨q1, rfl⟩ := List.getElem?_eq_some_iff.1 h1
          obtain ⟨q2, rfl⟩ := List.getElem?_eq_some_iff.1 h2
          exact hcap i q1 (by simpa using q2)⟩
        have hrun : (execOp a.eval o).run P w = .ok (.enter f' ((c.args.toList.map a.eval) ++ cvs.toList).toArray) w := by
          unfold execOp; rw [ho]
          simp only [resolve, hcal, hcf, Deferred.ofValue, Sem.run_bind, Sem.run_pure, Result.andThen_ok, invoke, run_callFunc hent]
          congr 2
          apply Array.ext'; simp
        unfold Oper.wp
        rw [hrun, Oper.upon_enter]
        refine call_sound hs (hav.append hcaps) hk fun cv w' hm => ?_
        obtain ⟨ι', G', v, H', hi, hs', hv, hkk⟩ := hm
        obtain ⟨env', hk', hs''⟩ := putK_sound hs' hv hkk
        exact hn _ _ _ _ _ _ _ hi hs'' hk'
    · split at hk
      · obtain ⟨⟨fn, t, r, e, size, e1, e2, e3, e4, e5, e6, e7⟩, o1, s1, n1, c1, o2, s2, n2, c2, hargs, hne, ⟨x1, hx1⟩, ⟨x2, hx2, hrows, hpos⟩, hkk⟩ := hk
        subst hargs
        generalize hcf : a.eval xf = cf at hfv
        cases hfv with
        | fn hl hcap =>
          rename_i cvs
          have hcv : cvs = #[] := Array.eq_empty_of_size_eq_zero (by simpa using hl.symm)
          subst hcv
          obtain ⟨v1, r1, hr1, q1, q2⟩ := hav.cases_cons
          obtain ⟨v2, r2, hr2, q3, q4⟩ := q2.cases_cons
          have := q4.cases_nil
          subst this
          subst hr2
          have hov : (Extern.SlicesOverlaps.overlaps #[t, t] #[r] #[v1, v2]).run P w = .ok (.bool false) w := overlaps_run hs e6 e7 hne hx1 hx2 hrows hpos q1 q3
          have hrun : (execOp a.eval o).run P w = .ok (.value (.bool false)) w := by
            unfold execOp; rw [ho]
            simp only [resolve, hcal, hcf, Deferred.ofValue, Sem.run_bind, Sem.run_pure, Result.andThen_ok, invoke]
            have ea : (#[] ++ c.args.map a.eval ++ #[] : Array Value) = #[v1, v2] := by
              apply Array.ext'
              simpa using hr1
            first
              | rw [ea, run_callFunc_extern e1 e2 e3 e4 e5, hov]; rfl
              | (have eb : (c.args.map a.eval ++ #[] : Array Value) = #[v1, v2] := by
                  apply Array.ext'
                  simpa using hr1
                 rw [eb, run_callFunc_extern e1 e2 e3 e4 e5, hov]; rfl)
          exact value_sound hs hn hrun (.bool false) hkk
      · exact hk.elim
  · exact hk.elim

theorem opK_sound (hs : St g w0 base F ι β G env H a w) (hn : Cont g w0 base F ι K next) {o : Oper} (hk : opK P g o env H K) : o.wp P a w next Q := by
  unfold opK at hk
  split at hk
  · rename_i x ho
    obtain ⟨v, hv, hk⟩ := bnd_elim hk
    exact value_sound hs hn (by unfold execOp; rw [ho]; rfl) (ev_sound hs hv) hk
  · rename_i x ho
    obtain ⟨v, hv, hk⟩ := bnd_elim hk
    exact value_sound hs hn (by unfold execOp; rw [ho]; rfl) (ev_sound hs hv) hk
  · rename_i xc xa xb ho
    obtain ⟨c, hc, hk⟩ := bnd_elim hk
    obtain ⟨x, hx, hk⟩ := bnd_elim hk
    obtain ⟨y, hy, hk⟩ := bnd_elim hk
    obtain ⟨v, hv, hk⟩ := bnd_elim hk
    obtain ⟨cv, q1, q2⟩ := aPick_sound (P := P) (w := w) (ev_sound hs hc) (ev_sound hs hx) (ev_sound hs hy) hv
    exact value_sound hs hn (by unfold execOp; rw [ho]; exact q1) q2 hk
  · rename_i t ho
    obtain ⟨z, hz, hk⟩ := bnd_elim hk
    obtain ⟨i, cz, hi, hzc, hrz, hna, hok⟩ := tZero_spec (w0 := w0) (base := base) (ι := ι) hz
    have hc := relL_cells hrz (notAny_ne hna)
    refine wp_value (cv := .pointer (some ⟨w.heap.size, 0, none⟩)) (w' := w.alloc (.cells cz.cells.toList.toArray t)) ?_ (newBox_sound hs hn t hc hok hk)
    unfold execOp; rw [ho]
    refine run_v ?_
    have hzv : (zeroValue t).run P w = .ok cz w := by simp [zeroValue, typeInfo, hi, hzc]
    simp only [Instr.alloc, Sem.run_bind, hzv, Result.andThen_ok]
    simp [run_newVar]
  · rename_i t x ho
    obtain ⟨v, hv, hok, hk⟩ := bnd_elim hk
    · have hc := relL_cells (ev_sound hs hv) (notAny_of_ok hok)
      refine wp_value (cv := .pointer (some ⟨w.heap.size, 0, none⟩)) (w' := w.alloc (.cells (a.eval x).cells.toList.toArray t)) ?_ (newBox_sound hs hn t hc hok hk)
      unfold execOp; rw [ho]
      refine run_v ?_
      simp [Instr.box, run_newVar]
  · rename_i t parts ho
    obtain ⟨ps, hps, hk⟩ := bnd_elim hk
    obtain ⟨z, hz, hk⟩ := bnd_elim hk
    split at hk
    · rename_i hok
      obtain ⟨cs, hcs, hk⟩ := bnd_elim hk
      obtain ⟨cv, q1, q2⟩ := build_sound (P := P) (w := w) (cps := parts.map fun (i, x) => (i, a.eval x)) (by simpa using evp_rel hs hps) hz hok hcs
      exact value_sound hs hn (by unfold execOp; rw [ho]; exact run_v q1) q2 hk
    · exact hk.elim
  · rename_i t len parts ho
    obtain ⟨ps, hps, hk⟩ := bnd_elim hk
    obtain ⟨e, he, hk⟩ := bnd_elim hk
    obtain ⟨sz, hsz, hk⟩ := bnd_elim hk
    obtain ⟨z, hz, hk⟩ := bnd_elim hk
    obtain ⟨rows, hf, hk⟩ := bnd_elim hk
    unfold bsl at hf
    split at hf
    · rename_i hc
      simp only [Bool.and_eq_true, decide_eq_true_eq] at hc
      exact buildSlice_sound hs hn ho hps he hsz hz hc.1.1.1 hc.1.1.2 hc.1.2 hc.2 hf hk
    · cases hf
  · rename_i t x ho
    obtain ⟨l, hl, hk⟩ := bnd_elim hk
    obtain ⟨v, hv, hk⟩ := bnd_elim hk
    obtain ⟨cv, q1, q2⟩ := aLoad_sound (P := P) hs (locOf_sound hs hl) hv
    exact value_sound hs hn (by unfold execOp; rw [ho]; exact run_v q1) q2 hk
  · rename_i t x xv ho
    split at hk
    · rename_i hd
      obtain ⟨l, hl, hk⟩ := bnd_elim hk
      obtain ⟨v, hv, hk⟩ := bnd_elim hk
      obtain ⟨w', q1, q2⟩ := storeK_sound (P := P) hs hn (locOf_sound hs hl) (ev_sound hs hv) hk
      exact wp_skipv (w' := w') (by unfold execOp; rw [ho]; exact run_u q1) (q2 _ hd)
    · exact hk.elim
  · rename_i t x f ho
    obtain ⟨l, hl, hk⟩ := bnd_elim hk
    obtain ⟨r, hr, hk⟩ := bnd_elim hk
    exact fieldK_sound hs hn ho hl hr hk
  · rename_i t x f ho
    obtain ⟨v, hv, hk⟩ := bnd_elim hk
    obtain ⟨r, hr, hk1⟩ := bnd_elim hk
    obtain ⟨cs0, hcs, hk3⟩ := bnd_elim hk1
    obtain ⟨v', hv', hk2⟩ := bnd_elim hk3
    clear hk hk1 hk3
    unfold aggOf at hcs
    split at hcs
    · cases hcs
      obtain ⟨cvs, hcv, hrel⟩ := relL_of_agg (ev_sound hs hv)
      obtain ⟨cv, q1, q2⟩ := part_sound (P := P) (w := w) hrel hv'
      obtain ⟨fs, fd, n, h1, h2, h3, rfl⟩ := tOff_spec hr
      refine value_sound hs hn (cv := cv) ?_ q2 hk2
      unfold execOp; rw [ho]
      refine run_v ?_
      simp only [Instr.field, Sem.run_bind, run_underlying h1, Result.andThen_ok, h2, hcv, asAgg, Sem.run_pure]
      exact q1
    · cases hcs
  · rename_i t x i ho
    obtain ⟨xv, hx, hk⟩ := bnd_elim hk
    obtain ⟨iv, hiv, hk⟩ := bnd_elim hk
    obtain ⟨e, he, hk⟩ := bnd_elim hk
    obtain ⟨sz, hsz, hk⟩ := bnd_elim hk
    obtain ⟨v, hv, hk⟩ := bnd_elim hk
    obtain ⟨cv, q1, q2⟩ := aIndex_sound (P := P) hs he hsz (ev_sound hs hx) (ev_sound hs hiv) hv
    exact value_sound hs hn (by unfold execOp; rw [ho]; exact run_v q1) q2 hk
  · rename_i t x lo hi mx ho
    obtain ⟨xv, hx, hk⟩ := bnd_elim hk
    obtain ⟨lov, hlo, hk⟩ := bnd_elim hk
    obtain ⟨hiv, hhi, hk⟩ := bnd_elim hk
    obtain ⟨mxv, hmx, hk⟩ := bnd_elim hk
    obtain ⟨e, he, hk⟩ := bnd_elim hk
    obtain ⟨sz, hsz, hk⟩ := bnd_elim hk
    obtain ⟨v, hv, hk⟩ := bnd_elim hk
    obtain ⟨cv, q1, q2⟩ := aSlice_sound (P := P) hs he hsz (ev_sound hs hx) (evo_sound hs hlo) (evo_sound hs hhi) (evo_sound hs hmx) hv
    exact value_sound hs hn (by unfold execOp; rw [ho]; exact run_v q1) q2 hk
  · rename_i t xl xc ho
    obtain ⟨l, hl, hk⟩ := bnd_elim hk
    obtain ⟨c, hc, hk⟩ := bnd_elim hk
    obtain ⟨l', hl', hk⟩ := bnd_elim hk
    obtain ⟨c', hc', hk⟩ := bnd_elim hk
    obtain ⟨e, he, hk⟩ := bnd_elim hk
    obtain ⟨sz, hsz, hk⟩ := bnd_elim hk
    obtain ⟨by_, hby, hk⟩ := bnd_elim hk
    obtain ⟨z, hz, hk⟩ := bnd_elim hk
    exact makeSlice_sound hs hn ho hl hc hl' hc' he hsz hby hz hk.1 hk.2
  · rename_i op t x y yt ho
    obtain ⟨xv, hx, hk⟩ := bnd_elim hk
    obtain ⟨yv, hy, hk⟩ := bnd_elim hk
    obtain ⟨v, hv, hk⟩ := bnd_elim hk
    obtain ⟨cv, q1, q2⟩ := aBin_sound (P := P) (w := w) (ox := x) (oy := y) (ev_sound hs hx) (ev_sound hs hy) (aBinS_le hv)
    exact value_sound hs hn (by unfold execOp; rw [ho]; exact run_v q1) q2 hk
  · rename_i t x ho
    obtain ⟨xv, hx, hk⟩ := bnd_elim hk
    obtain ⟨v, hv, hk⟩ := bnd_elim hk
    obtain ⟨cv, q1, q2⟩ := aNot_sound (P := P) (w := w) (ev_sound hs hx) hv
    exact value_sound hs hn (by unfold execOp; rw [ho]; exact run_v q1) q2 hk
  · rename_i t x ho
    obtain ⟨xv, hx, hk⟩ := bnd_elim hk
    obtain ⟨v, hv, hk⟩ := bnd_elim hk
    obtain ⟨cv, q1, q2⟩ := aNeg_sound (P := P) (w := w) (ev_sound hs hx) hv
    exact value_sound hs hn (by unfold execOp; rw [ho]; exact run_v q1) q2 hk
  · rename_i s d x ho
    obtain ⟨xv, hx, hk⟩ := bnd_elim hk
    obtain ⟨v, hv, hk⟩ := bnd_elim hk
    obtain ⟨cv, q1, q2⟩ := aConv_sound (P := P) (w := w) (ev_sound hs hx) hv
    exact value_sound hs hn (by unfold execOp; rw [ho]; exact run_v q1) q2 hk
  · rename_i x i ho
    obtain ⟨xv, hx, hk⟩ := bnd_elim hk
    obtain ⟨v, hv, hk⟩ := bnd_elim hk
    obtain ⟨cv, q1, q2⟩ := aExtract_sound (P := P) (w := w) (ev_sound hs hx) hv
    exact value_sound hs hn (by unfold execOp; rw [ho]; exact run_v q1) q2 hk
  · rename_i x ho
    obtain ⟨xv, hx, hk⟩ := bnd_elim hk
    have hxv := ev_sound hs hx
    obtain ⟨xv', hxn, hk⟩ := bnd_elim hk
    unfold aNil at hxn
    split at hxn
    · cases hxn
      obtain ⟨p, hp, hev⟩ := relV_ptr hxv
      exact value_sound hs hn (by unfold execOp; rw [ho]; simp only [hev]; rfl) (by rw [hev] at hxv; exact hxv) hk
    · cases hxn
      generalize hcv : a.eval x = cv at hxv
      cases hxv with
      | rop f hb hcell hrel => exact value_sound hs hn (by unfold execOp; rw [ho]; simp only [hcv]; rfl) (.rop f hb hcell hrel) hk
    · cases hxn
  · rename_i f first caps ho
    split at hk
    · rename_i hf
      obtain ⟨cs, hcs, hk⟩ := bnd_elim hk
      have hr := evs_sound hs hcs
      refine value_sound hs hn (cv := .func (.func f) #[] (caps.map a.eval)) ?_ ?_ hk
      · unfold execOp; rw [ho]
        have : first = #[] := by simpa using hf
        subst this
        exact run_v (by simp [Instr.makeFunc])
      · exact .fn (by simp [hr.1]) fun i h1 h2 => hr.2 i _ _ (by simp [h1]) (by simp at h2; simp [h2])
    · exact hk.elim
  · rename_i c ho
    split at hk
    · rename_i xf hcal
      obtain ⟨f, hf, hk⟩ := bnd_elim hk
      obtain ⟨args, ha, hk⟩ := bnd_elim hk
      exact callK_sound hs hn ho hcal hf ha hk
    · rename_i b hcal
      obtain ⟨args, ha, hk⟩ := bnd_elim hk
      obtain ⟨cv, w', q1, q2⟩ := builtin_sound (P := P) (ty := o.type) (cb := c.args.map fun | .const _ => true | _ => false) hs (evs_sound hs ha) hk
      refine made_value hn (cv := cv) (w' := w') ?_ q2
      unfold execOp; rw [ho]
      simp only [resolve, hcal, Sem.run_bind, Sem.run_pure, Result.andThen_ok, invoke]
      have e1 : (c.args.toList.map a.eval).toArray = c.args.map a.eval := by apply Array.ext'; simp
      have e2 : c.argTypes.toList.toArray = c.argTypes := by simp
      rw [e1, e2] at q1
      exact q1
    · exact hk.elim
  · exact hk.elim

end
end Go.Abs
/-
The abstract layer, part N: regions in the order of the text; the code of a function.
-/
namespace Go.Abs
open Go.RowKit (Below)

/-! #### annotations: which slots count where ways meet -/

inductive Ann where
  | leaf
  | draw (order : List Nat)
  | cut (live : List Nat)
  | drawh (order : List Nat)
  | drawp (phases : List (List Nat))
  | drawg (order : List Nat)
  | seq (a b : Ann)
  | seqc (a b : Ann) (live : List Nat)
  | cond (a b : Ann)
  | block (a : Ann)
  | loop (live : List Nat) (a : Ann)

def dstL (d : Option Tmp) : List Nat := match d with | some d => [d] | none => []
/-- The slots that an operation turns. -/
def omods (g : Cfg) (o : Oper) : List Nat :=
  dstL o.dst ++ (match o.op with | .store _ _ _ => g.L | .alloc _ => g.R | .box _ _ => g.R | _ => [])
def rmods (g : Cfg) : List Oper → List Nat
  | [] => []
  | o :: r => omods g o ++ rmods g r
def mods (g : Cfg) : Code → List Nat
  | .region _ ops _ => rmods g ops.toList
  | .seq a b => mods g a ++ mods g b
  | .cond _ a b => mods g a ++ mods g b
  | .block _ a => mods g a
  | .loop a => mods g a
  | _ => []

def bc : V → List V | .box cs => cs | _ => []
def setMany (g : Cfg) (ms : List Nat) : List Nat → List V → List V → List V
  | [], _, env => env
  | d :: ds, xs, env => setMany g ms ds xs.tail (match ms.contains d with | true => env.set d (match g.L.contains d with | true => .box (bc (xs.headD .any)) | false => xs.headD .any) | false => env)
def getMany (env : List V) : List Nat → List V
  | [] => []
  | d :: ds => env.getD d .any :: getMany env ds
def head (g : Cfg) (ms live : List Nat) (env xs : List V) : List V := setMany g ms live xs (clr ms env)
/-- The local boxes that count are there. -/
def okMany (g : Cfg) (env : List V) : List Nat → Bool
  | [] => true
  | d :: ds => match g.L.contains d with
    | true => (match env[d]? with | some (.box _) => okMany g env ds | _ => false)
    | false => okMany g env ds
/-- In a part of the heap. -/
def Shr (J : Heap → Prop) (H : Heap) : Prop := ∃ H', Abs.sub H' H ∧ J H'
/-- Where ways meet. -/
def meet (g : Cfg) (env : List V) (live : List Nat) (J : List V → Heap → Prop) (H : Heap) : Prop :=
  match okMany g env live with | true => Shr (J (getMany env live)) H | false => False

def regK (P : Program) (g : Cfg) (ops : Array Oper) (draw : Bool) (env : List V) (H : Heap) (K : List V → Heap → Prop) : Prop :=
  match draw with
  | false => opsK P g ops.toList ops.toList env H K
  | true => False

/-! #### regions whose order is left open -/

def opnds : Op → List Operand
  | .move x => [x]
  | .assign x => [x]
  | .pick c a b => [c, a, b]
  | .box _ x => [x]
  | .build _ ps => ps.toList.map (·.2)
  | .buildSlice _ _ ps => ps.toList.map (·.2)
  | .load _ x => [x]
  | .store _ x v => [x, v]
  | .fieldAddr _ x _ => [x]
  | .field _ x _ => [x]
  | .indexAddr _ x i => [x, i]
  | .slice _ x lo hi mx => x :: (lo.toList ++ hi.toList ++ mx.toList)
  | .makeSlice _ l c => [l, c]
  | .binOp _ _ x y _ => [x, y]
  | .unOp _ _ x => [x]
  | .convert _ _ x => [x]
  | .extract x _ => [x]
  | .nilCheck x => [x]
  | .makeFunc _ _ caps => caps.toList
  | .call c => (match c.callee with | .value f => [f] | _ => []) ++ c.args.toList
  | _ => []
def tmpsOf : List Operand → List Nat
  | [] => []
  | .tmp t :: r => t :: tmpsOf r
  | _ :: r => tmpsOf r
/-- The slots that an operation looks at. -/
def rds (g : Cfg) (o : Oper) : List Nat := tmpsOf (opnds o.op) ++ (match (tmpsOf (opnds o.op)).any g.R.contains with | true => g.L | false => [])
/-- The slot of its guard. -/
def gslot (ops : List Oper) (o : Oper) : List Nat := match o.guard with
  | some (j, _) => (match ops[j]? with | some o' => dstL o'.dst | none => [])
  | none => []
/-- The slots that it turns. -/
def wrs (g : Cfg) (o : Oper) : List Nat := dstL o.dst ++ (match o.op with
  | .store _ (.tmp t) _ => (match g.L.contains t with | true => [t] | false => (match g.R.contains t with | true => g.L | false => []))
  | .alloc _ => (match (dstL o.dst).any g.L.contains with | true => g.R | false => [])
  | .box _ _ => (match (dstL o.dst).any g.L.contains with | true => g.R | false => [])
  | _ => [])
/-- The operations that look at no more than the slots and the part HS of the heap, and turn slots alone. -/
def isE (g : Cfg) (o : Oper) : Bool := match o.op with
  | .move _ => true
  | .assign _ => true
  | .pick _ _ _ => true
  | .build _ _ => true
  | .load _ _ => true
  | .fieldAddr _ _ _ => true
  | .field _ _ _ => true
  | .indexAddr _ _ _ => true
  | .slice _ _ _ _ _ => true
  | .binOp _ _ _ _ _ => true
  | .unOp _ _ _ => true
  | .convert _ _ _ => true
  | .extract _ _ => true
  | .nilCheck _ => true
  | .makeFunc _ _ _ => true
  | .alloc _ => (match o.dst with | some d => g.L.contains d | none => false)
  | .box _ _ => (match o.dst with | some d => g.L.contains d | none => false)
  | .store _ (.tmp t) _ => g.L.contains t || g.R.contains t
  | .call c => (match c.callee with | .builtin .len => true | .builtin .min => true | .builtin .max => true | _ => false)
  | _ => false

def opD (P : Program) (g : Cfg) (HS : Heap) (o : Oper) (env : List V) (H : Heap) (K : List V → Heap → Prop) : Prop :=
  match isE g o with
  | true => opK P g o env HS fun env' _ => K env' H
  | false => opK P g o env H fun env' H' => Abs.sub HS H' ∧ K env' H'
def stepD (P : Program) (g : Cfg) (HS : Heap) (ops : List Oper) (o : Oper) (env : List V) (H : Heap) (K : List V → Heap → Prop) : Prop :=
  match o.guard with
  | none => opD P g HS o env H K
  | some (j, want) => guardK ops env j want (fun env => opD P g HS o env H K) (fun env => K (skipDst g env o.dst) H)
def seqD (P : Program) (g : Cfg) (HS : Heap) (ops : List Oper) : List Nat → List V → Heap → (List V → Heap → Prop) → Prop
  | [], env, H, K => K env H
  | i :: r, env, H, K => match ops[i]? with
    | some o => stepD P g HS ops o env H fun e h => seqD P g HS ops r e h K
    | none => False

def depsOf (o : Oper) : List Nat := (o.after.toList.filter (Region.binds .any)).map (·.on)
def maskOf (tab : List Nat) : List Nat → Nat
  | [] => 0
  | d :: r => (2 ^ d) ||| (tab.getD d 0) ||| maskOf tab r
/-- What stands ahead of an operation, itself or by others. -/
def tabOf (ops : List Oper) : List Nat → List Nat → List Nat
  | [], tab => tab
  | i :: r, tab => match ops[i]? with
    | some o => tabOf ops r (tab.set i (maskOf tab (depsOf o)))
    | none => tabOf ops r tab
def noneIn (a b : List Nat) : Bool := a.all fun s => !b.contains s
def swapOk (g : Cfg) (ops : List Oper) (x y : Oper) : Bool :=
  isE g x && noneIn (wrs g x) (rds g y) && noneIn (wrs g x) (gslot ops y) && noneIn (wrs g x) (wrs g y) && noneIn (wrs g y) (rds g x) && noneIn (wrs g y) (gslot ops x)
def okG (g : Cfg) (o : Oper) : Bool := o.guard.isNone || (wrs g o).all fun s => (dstL o.dst).contains s || (rds g o).contains s
/-- A new object of which all is known beforehand. -/
def obA (P : Program) (g : Cfg) (o : Oper) : Option (Ob × Bool × Nat × Nat) :=
  match o.dst with
  | some d => match g.loc d with
    | true => none
    | false => match o.op with
      | .alloc t => (match tZero P t with | some z => some (⟨(cellsOf z).length, [cellsOf z]⟩, false, 0, d) | none => none)
      | .buildSlice t len parts => (match evp g [] parts.toList with
        | some ps => (match tElem P t with
          | some e => (match tSize P e with
            | some sz => (match tZero P e with
              | some z => (match bsl sz len (cellsOf z) ps with | some rows => some (⟨sz, rows⟩, true, len, d) | none => none)
              | none => none)
            | none => none)
          | none => none)
        | none => none)
      | _ => none
  | none => none
def mkA (b : Bool) (n q : Nat) : V := match b with | true => .slice q 0 n (some n) | false => .ptr q 0 0
def isA0 (P : Program) (g : Cfg) (o : Oper) : Bool := o.guard.isNone && (obA P g o).isSome
def swapA (g : Cfg) (ops : List Oper) (x y : Oper) : Bool := noneIn (wrs g x) (rds g y) && noneIn (wrs g x) (wrs g y) && noneIn (wrs g y) (rds g x) && noneIn (wrs g y) (gslot ops x)
def swapD (P : Program) (g : Cfg) (ops : List Oper) (x y : Oper) : Bool := swapOk g ops x y || (isA0 P g y && swapA g ops x y)
def okTail (P : Program) (g : Cfg) (ops : List Oper) (tab : List Nat) (x : Nat) (o : Oper) : List Nat → Bool
  | [] => true
  | y :: r => (match ops[y]? with
    | some o' => (Nat.testBit (tab.getD y 0) x || swapD P g ops o o') && !(depsOf o).contains y
    | none => false) && okTail P g ops tab x o r
def okOrder (P : Program) (g : Cfg) (ops : List Oper) (tab : List Nat) : List Nat → Bool
  | [] => true
  | x :: r => (match ops[x]? with
    | some o => okTail P g ops tab x o r && !(depsOf o).contains x && okG g o && (depsOf o).all fun d => Nat.blt d ops.length
    | none => false) && !r.contains x && okOrder P g ops tab r
def okDraw (P : Program) (g : Cfg) (ops : List Oper) (order : List Nat) : Bool :=
  P.follows .mixedOrders && Nat.ble order.length ops.length && (List.range ops.length).all order.contains && okOrder P g ops (tabOf ops order (List.replicate ops.length 0)) order
def drawK (P : Program) (g : Cfg) (ops : List Oper) (order : List Nat) (env : List V) (H : Heap) (K : List V → Heap → Prop) : Prop :=
  match okDraw P g ops order with
  | true => ∃ HS, Abs.sub HS H ∧ seqD P g HS ops order env H K
  | false => False

/-! A region whose heap reads keep their place among its effects: no part of the heap need be named. -/
/-- The operations that look at no heap. -/
def isE0 (g : Cfg) (o : Oper) : Bool := isE g o && match o.op with
  | .load _ (.tmp t) => g.L.contains t || g.R.contains t
  | .load _ _ => false
  | .indexAddr _ _ _ => false
  | .slice _ _ _ _ _ => false
  | _ => true
def noHeap : Heap := fun _ => none
def opH (P : Program) (g : Cfg) (o : Oper) (env : List V) (H : Heap) (K : List V → Heap → Prop) : Prop :=
  match isE0 g o with
  | true => opK P g o env noHeap fun env' _ => K env' H
  | false => opK P g o env H K
def stepH (P : Program) (g : Cfg) (ops : List Oper) (o : Oper) (env : List V) (H : Heap) (K : List V → Heap → Prop) : Prop :=
  match o.guard with
  | none => opH P g o env H K
  | some (j, want) => guardK ops env j want (fun env => opH P g o env H K) (fun env => K (skipDst g env o.dst) H)
def seqH (P : Program) (g : Cfg) (ops : List Oper) : List Nat → List V → Heap → (List V → Heap → Prop) → Prop
  | [], env, H, K => K env H
  | i :: r, env, H, K => match ops[i]? with
    | some o => stepH P g ops o env H fun e h => seqH P g ops r e h K
    | none => False
def swapH (P : Program) (g : Cfg) (ops : List Oper) (x y : Oper) : Bool := ((isE0 g x || isE g y) && swapOk g ops x y) || (isA0 P g y && swapA g ops x y)
def okTailH (P : Program) (g : Cfg) (ops : List Oper) (tab : List Nat) (x : Nat) (o : Oper) : List Nat → Bool
  | [] => true
  | y :: r => (match ops[y]? with
    | some o' => (Nat.testBit (tab.getD y 0) x || swapH P g ops o o') && !(depsOf o).contains y
    | none => false) && okTailH P g ops tab x o r
def okOrderH (P : Program) (g : Cfg) (ops : List Oper) (tab : List Nat) : List Nat → Bool
  | [] => true
  | x :: r => (match ops[x]? with
    | some o => okTailH P g ops tab x o r && !(depsOf o).contains x && okG g o && (depsOf o).all fun d => Nat.blt d ops.length
    | none => false) && !r.contains x && okOrderH P g ops tab r
def okDrawH (P : Program) (g : Cfg) (ops : List Oper) (order : List Nat) : Bool :=
  P.follows .mixedOrders && Nat.ble order.length ops.length && (List.range ops.length).all order.contains && okOrderH P g ops (tabOf ops order (List.replicate ops.length 0)) order
def drawH (P : Program) (g : Cfg) (ops : List Oper) (order : List Nat) (env : List V) (H : Heap) (K : List V → Heap → Prop) : Prop :=
  match okDrawH P g ops order with
  | true => seqH P g ops order env H K
  | false => False

/-! A region in phases: each phase stands ahead of the next ones; each names the part of the heap that its reads look at. -/
/-- The slot of a number that is turned into another kind. -/
def cvD (g : Cfg) (o : Oper) : Option Nat := match o.guard with
  | none => (match o.op with
    | .convert _ _ _ => (match o.dst with | some t => (match g.loc t with | false => some t | true => none) | none => none)
    | _ => none)
  | some _ => none
/-- No other operation turns the slot. -/
def soleW (g : Cfg) (ops : List Oper) (c t : Nat) : Bool := (List.range ops.length).all fun j => Nat.beq j c || (match ops[j]? with | some o => !(wrs g o).contains t | none => true)
/-- The slot holds a number once what the operation waits for is done. -/
def intS (g : Cfg) (ops : List Oper) (y : Oper) (s : Nat) : Bool := (depsOf y).any fun c => match ops[c]? with
  | some oc => (match cvD g oc with | some t => Nat.beq t s && soleW g ops c s | none => false)
  | none => false
/-- A new object, known once its slots are. -/
def obE (P : Program) (g : Cfg) (env : List V) (o : Oper) : Option (Ob × Bool × Nat × Nat) :=
  match o.dst with
  | some d => match g.loc d with
    | true => none
    | false => match o.op with
      | .alloc t => (match tZero P t with | some z => some (⟨(cellsOf z).length, [cellsOf z]⟩, false, 0, d) | none => none)
      | .buildSlice t len parts => (match evp g env parts.toList with
        | some ps => (match tElem P t with
          | some e => (match tSize P e with
            | some sz => (match tZero P e with
              | some z => (match bsl sz len (cellsOf z) ps with | some rows => some (⟨sz, rows⟩, true, len, d) | none => none)
              | none => none)
            | none => none)
          | none => none)
        | none => none)
      | _ => none
  | none => none
def elem1 (P : Program) (t : TypeId) : Bool := match tElem P t with
  | some e => (match tSize P e with | some sz => (match tZero P e with | some z => Nat.beq sz 1 && Nat.beq (cellsOf z).length 1 | none => false) | none => false)
  | none => false
def one1 (g : Cfg) (ops : List Oper) (y : Oper) (len : Nat) : List (Nat × Operand) → Bool
  | [(i, .tmp s)] => Nat.beq i 0 && Nat.beq len 1 && !g.loc s && intS g ops y s
  | _ => false
def isA1 (P : Program) (g : Cfg) (ops : List Oper) (y : Oper) : Bool := y.guard.isNone && match y.dst with
  | some d => !g.loc d && (match y.op with | .buildSlice t len parts => elem1 P t && one1 g ops y len parts.toList | _ => false)
  | none => false
def swapP (P : Program) (g : Cfg) (ops : List Oper) (x y : Oper) : Bool := swapOk g ops x y || ((isA0 P g y || isA1 P g ops y) && swapA g ops x y)
def okTailP (P : Program) (g : Cfg) (ops : List Oper) (tab : List Nat) (x : Nat) (o : Oper) : List Nat → Bool
  | [] => true
  | y :: r => (match ops[y]? with
    | some o' => (Nat.testBit (tab.getD y 0) x || swapP P g ops o o') && !(depsOf o).contains y
    | none => false) && okTailP P g ops tab x o r
def okOrderP (P : Program) (g : Cfg) (ops : List Oper) (tab : List Nat) : List Nat → Bool
  | [] => true
  | x :: r => (match ops[x]? with
    | some o => okTailP P g ops tab x o r && !(depsOf o).contains x && okG g o && (depsOf o).all fun d => Nat.blt d ops.length
    | none => false) && !r.contains x && okOrderP P g ops tab r
def cat : List (List Nat) → List Nat
  | [] => []
  | p :: r => p ++ cat r
/-- All of a phase stands ahead of what follows. -/
def ahead (ops : List Oper) (tab : List Nat) (p q : List Nat) : Bool := p.all fun x => (match ops[x]? with
  | some o => q.all fun y => Nat.testBit (tab.getD y 0) x && !(depsOf o).contains y && !Nat.beq x y
  | none => false)
/-- Part of a result is taken: nothing of the heap is read. -/
def isX (o : Oper) : Bool := o.guard.isNone && match o.op with | .extract _ _ => true | _ => false
/-- All of a phase stands ahead of the last operation, or may wait for it. -/
def aheadZ (g : Cfg) (ops : List Oper) (tab : List Nat) (p : List Nat) (r : List (List Nat)) : Bool := match r with
  | [[z]] => (match ops[z]? with
    | some oz => !isE g oz && okG g oz && p.all fun x => (match ops[x]? with
      | some o => (Nat.testBit (tab.getD z 0) x || (isX o && swapOk g ops o oz)) && !(depsOf o).contains z && !Nat.beq x z
      | none => false)
    | none => false)
  | _ => false
def okPh (P : Program) (g : Cfg) (ops : List Oper) (tab : List Nat) : List (List Nat) → Bool
  | [] => true
  | p :: r => okOrderP P g ops tab p && (ahead ops tab p (cat r) || aheadZ g ops tab p r) && okPh P g ops tab r
def cvLen (g : Cfg) (ops : List Oper) (n : Nat) : Bool := ops.all fun o => match cvD g o with | some t => Nat.blt t n | none => true
def okDrawP (P : Program) (g : Cfg) (ops : List Oper) (ph : List (List Nat)) (n : Nat) : Bool :=
  P.follows .mixedOrders && Nat.ble (cat ph).length ops.length && (List.range ops.length).all (cat ph).contains && okPh P g ops (tabOf ops (cat ph) (List.replicate ops.length 0)) ph && cvLen g ops n
def phK (P : Program) (g : Cfg) (ops : List Oper) : List (List Nat) → List V → Heap → (List V → Heap → Prop) → Prop
  | [], env, H, K => K env H
  | p :: r, env, H, K => ∃ HS, Abs.sub HS H ∧ seqD P g HS ops p env H fun e h => phK P g ops r e h K
def drawP (P : Program) (g : Cfg) (ops : List Oper) (ph : List (List Nat)) (env : List V) (H : Heap) (K : List V → Heap → Prop) : Prop :=
  match okDrawP P g ops ph env.length with
  | true => phK P g ops ph env H K
  | false => False

/-! A region in which the part of the heap that reads look at may grow behind each effect. -/
def seqG (P : Program) (g : Cfg) (ops : List Oper) : List Nat → Heap → List V → Heap → (List V → Heap → Prop) → Prop
  | [], _, env, H, K => K env H
  | i :: r, HS, env, H, K => match ops[i]? with
    | some o => stepD P g HS ops o env H fun e h => match isE g o with
      | true => seqG P g ops r HS e h K
      | false => ∃ HS', Abs.sub HS HS' ∧ Abs.sub HS' h ∧ seqG P g ops r HS' e h K
    | none => False
def okDrawG (P : Program) (g : Cfg) (ops : List Oper) (order : List Nat) : Bool := okDraw P g ops order && ops.all fun o => !isA0 P g o
def drawG (P : Program) (g : Cfg) (ops : List Oper) (order : List Nat) (env : List V) (H : Heap) (K : List V → Heap → Prop) : Prop :=
  match okDrawG P g ops order with
  | true => ∃ HS, Abs.sub HS H ∧ seqG P g ops order HS env H K
  | false => False

def awp (P : Program) (g : Cfg) : Code → Ann → (Ex → List V → Heap → Prop) → List V → Heap → Prop
  | .skip, _, Q, env, H => Q .normal env H
  | .ret, _, Q, env, H => Q .ret env H
  | .exit id, _, Q, env, H => Q (.exit id) env H
  | .region _ ops draw, .cut live, Q, env, H => ∃ J : List V → Heap → Prop, regK P g ops draw env H (fun env' H' => meet g env' live J H') ∧
      ∀ xs H', J xs H' → Q .normal (head g (mods g (.region 0 ops draw)) live env xs) H'
  | .region _ ops draw, .draw order, Q, env, H => match draw with
    | true => drawK P g ops.toList order env H (fun env' H' => Q .normal env' H')
    | false => False
  | .region _ ops draw, .drawh order, Q, env, H => match draw with
    | true => drawH P g ops.toList order env H (fun env' H' => Q .normal env' H')
    | false => False
  | .region _ ops draw, .drawp ph, Q, env, H => match draw with
    | true => drawP P g ops.toList ph env H (fun env' H' => Q .normal env' H')
    | false => False
  | .region _ ops draw, .drawg order, Q, env, H => match draw with
    | true => drawG P g ops.toList order env H (fun env' H' => Q .normal env' H')
    | false => False
  | .region _ ops draw, _, Q, env, H => regK P g ops draw env H (fun env' H' => Q .normal env' H')
  | .seq a b, .seq x y, Q, env, H => awp P g a x (fun e env' H' => match e with | .normal => awp P g b y Q env' H' | e => Q e env' H') env H
  | .seq a b, .seqc x y live, Q, env, H => ∃ J : List V → Heap → Prop, awp P g a x (fun e env' H' => match e with | .normal => meet g env' live J H' | e => Q e env' H') env H ∧
      ∀ xs H', J xs H' → awp P g b y Q (head g (mods g a) live env xs) H'
  | .cond c a b, .cond x y, Q, env, H => bnd (ev g env c) fun v => cnd v (awp P g a x Q env H) (awp P g b y Q env H)
  | .block id a, .block x, Q, env, H => awp P g a x (fun e env' H' => match e with
      | .exit id' => match id' == id with | true => Q .normal env' H' | false => Q (.exit id') env' H'
      | e => Q e env' H') env H
  | .loop a, .loop live x, Q, env, H => ∃ (I : Nat → List V → Heap → Prop) (n0 : Nat), meet g env live (I n0) H ∧
      ∀ n xs H', I n xs H' → awp P g a x (fun e env' H'' => match e with
        | .normal => ∃ m, m < n ∧ meet g env' live (I m) H''
        | e => Q e env' H'') (head g (mods g a) live env xs) H'
  | _, _, _, _, _ => False

/-! #### which slots an operation turns -/

def agree (ms : List Nat) (e e' : List V) : Prop := e.length = e'.length ∧ ∀ s, s ∉ ms → e[s]? = e'[s]?
theorem agree.refl (ms : List Nat) (e : List V) : agree ms e e := ⟨rfl, fun _ _ => rfl⟩
theorem agree.trans {ms : List Nat} {a b c : List V} (h : agree ms a b) (k : agree ms b c) : agree ms a c := ⟨h.1.trans k.1, fun s hs => (h.2 s hs).trans (k.2 s hs)⟩
theorem agree.mono {ms ms' : List Nat} {a b : List V} (h : agree ms a b) (hm : ∀ s, s ∈ ms → s ∈ ms') : agree ms' a b := ⟨h.1, fun s hs => h.2 s (fun h' => hs (hm s h'))⟩
theorem agree.set {ms : List Nat} (e : List V) {d : Nat} (v : V) (hd : d ∈ ms) : agree ms e (e.set d v) :=
  ⟨by simp, fun s hs => by
    have : d ≠ s := by rintro rfl; exact hs hd
    simp [this]⟩
theorem agree.clr {ms : List Nat} : ∀ (ds : List Nat) (e : List V), (∀ d, d ∈ ds → d ∈ ms) → agree ms e (clr ds e)
  | [], e, _ => agree.refl _ _
  | d :: ds, e, h => (agree.set e .any (h d List.mem_cons_self)).trans (agree.clr ds _ (fun d hd => h d (List.mem_cons_of_mem _ hd)))


section
variable {P : Program} {g : Cfg} {w0 : World} {base : Nat} {F : Heap} {ι : Nat → Option Place} {β : Nat → Option Nat} {G : Heap} {env : List V} {H : Heap} {a : Act} {w : World}

theorem ACalls.mono {f : FuncId} {args : List V} {R R' : V → Heap → Prop} (h : ACalls P f args H R) (hr : ∀ v H', R v H' → R' v H') : ACalls P f args H R' :=
  ⟨fun w0 base F ι G w cargs h1 h2 h3 h4 h5 => (h.run w0 base F ι G w cargs h1 h2 h3 h4 h5).mono fun _ _ ⟨v, cv, ι', G', H', q1, q2, q3, q4, q5, q6, q7, q8⟩ => ⟨v, cv, ι', G', H', q1, q2, q3, q4, q5, q6, q7, hr _ _ q8⟩⟩

theorem bnd_mono {α : Type} {o : Option α} {K K' : α → Prop} (h : bnd o K) (hk : ∀ v, o = some v → K v → K' v) : bnd o K' := by
  obtain ⟨v, rfl, h⟩ := bnd_elim h; exact hk v rfl h

theorem putK_lift {dst : Option Tmp} {v : V} {K K' : List V → Prop} (h : putK g env dst v K) (hk : ∀ env', agree (dstL dst) env env' → K env' → K' env') : putK g env dst v K' := by
  cases dst with
  | none => exact hk env (agree.refl _ _) h
  | some d =>
    simp only [putK, setK_eq] at h ⊢
    revert h
    cases g.loc d with
    | true => exact fun h => h
    | false => exact fun h => hk _ (agree.set _ _ (by simp [dstL])) h

theorem newBox_lift {dst : Option Tmp} {cs : List V} {K K' : List V → Heap → Prop} (h : newBox g env H dst cs K) (hk : ∀ env' H', agree (dstL dst ++ g.R) env env' → K env' H' → K' env' H') : newBox g env H dst cs K' := by
  cases dst with
  | none => exact h
  | some d =>
    simp only [newBox, setK_eq] at h ⊢
    revert h
    cases g.L.contains d with
    | true =>
      refine fun h => hk _ _ ?_ h
      exact (agree.clr _ _ (fun d hd => List.mem_append_right _ hd)).trans (agree.set _ _ (by simp [dstL]))
    | false =>
      cases g.R.contains d with
      | true => exact fun h => h
      | false => exact fun h o ho => hk _ _ (agree.set _ _ (by simp [dstL])) (h o ho)

theorem fieldK_lift {dst : Option Tmp} {off : Nat} {l : Loc} {K K' : List V → Prop} (h : fieldK g env dst off l K) (hk : ∀ env', agree (dstL dst) env env' → K env' → K' env') : fieldK g env dst off l K' := by
  cases l with
  | heap p => exact bnd_mono h fun v _ h => putK_lift h hk
  | here s c cs =>
    cases dst with
    | none => exact hk env (agree.refl _ _) h
    | some d =>
      simp only [fieldK, setK_eq] at h ⊢
      revert h
      cases g.L.contains d with
      | true => exact fun h => h
      | false =>
        cases g.R.contains d with
        | true => exact fun h => hk _ (agree.set _ _ (by simp [dstL])) h
        | false => exact fun h => h

theorem appendK_mono {sz by_ : Nat} {s : V} {xs : List (List V)} {K K' : V → Heap → Prop} (h : appendK H sz by_ s xs K) (hk : ∀ v H', K v H' → K' v H') : appendK H sz by_ s xs K' := by
  unfold appendK at *
  split at h
  · exact ⟨fun e => hk _ _ (h.1 e), fun e => ⟨(h.2 e).1, fun o ho => hk _ _ ((h.2 e).2 o ho)⟩⟩
  · split at h
    · exact h.elim
    · obtain ⟨h1, h2, h3, h4⟩ := h
      refine ⟨h1, h2, fun e => hk _ _ (h3 e), fun e => ⟨(h4 e).1, ?_⟩⟩
      have h5 := (h4 e).2
      split at h5
      · exact ⟨h5.1, fun o ho => hk _ _ (h5.2 o ho)⟩
      · exact ⟨fun q => ⟨(h5.1 q).1, hk _ _ (h5.1 q).2⟩, fun q o ho => hk _ _ (h5.2 q o ho)⟩
  · exact h.elim

theorem copyK_mono {sz : Nat} {d : V} {xs : List (List V)} {K K' : V → Heap → Prop} (h : copyK H sz d xs K) (hk : ∀ v H', K v H' → K' v H') : copyK H sz d xs K' := by
  unfold copyK at *
  split at h
  · exact hk _ _ h
  · split at h
    · exact h.elim
    · exact ⟨h.1, h.2.1, hk _ _ h.2.2⟩
  · exact h.elim

theorem clearK_mono {sz : Nat} {z : List V} {d : V} {K K' : V → Heap → Prop} (h : clearK H sz z d K) (hk : ∀ v H', K v H' → K' v H') : clearK H sz z d K' := by
  unfold clearK at *
  split at h
  · exact hk _ _ h
  · split at h
    · exact h.elim
    · exact ⟨h.1, h.2.1, h.2.2.1, hk _ _ h.2.2.2⟩
  · exact h.elim

theorem extK_mono {f : FuncId} {args : List V} {K K' : V → Heap → Prop} (h : extK P H f args K) (hk : ∀ v H', K v H' → K' v H') : extK P H f args K' := by
  obtain ⟨h0, o1, s1, n1, c1, o2, s2, n2, c2, h1, h2, h3, h4, h5⟩ := h
  exact ⟨h0, o1, s1, n1, c1, o2, s2, n2, c2, h1, h2, h3, h4, hk _ _ h5⟩
theorem growZ_mono {sz by_ : Nat} {z : List V} {s x : V} {K K' : V → Heap → Prop} (h : growZ H sz by_ z s x K) (hk : ∀ v H', K v H' → K' v H') : growZ H sz by_ z s x K' := by
  unfold growZ at *
  split at h
  · split at h
    · exact h.elim
    · obtain ⟨h1, h2, h3, h4, h5, h6, h7⟩ := h
      exact ⟨h1, h2, h3, h4, h5, h6, fun o' ho' => hk _ _ (h7 o' ho')⟩
  · exact h.elim
theorem builtinK_mono {b : Builtin} {tys : List TypeId} {args : List V} {K K' : V → Heap → Prop} (h : builtinK P H b tys args K) (hk : ∀ v H', K v H' → K' v H') : builtinK P H b tys args K' := by
  unfold builtinK at *
  split at h
  · exact bnd_mono h fun _ _ h => bnd_mono h fun _ _ h => hk _ _ h
  · refine bnd_mono h fun _ _ h => ?_
    unfold capK at *
    split at h
    · exact fun c hc => hk _ _ (h c hc)
    · exact hk _ _ h
    · exact hk _ _ h
    · exact h.elim
  · split at h
    · rename_i e
      rw [if_pos e]
      refine bnd_mono h fun _ _ h => bnd_mono h fun _ _ h => bnd_mono h fun _ _ h => bnd_mono h fun _ _ h => ?_
      split at h
      · rename_i hc; rw [if_pos hc]; exact bnd_mono h fun _ _ h => appendK_mono h hk
      · exact h.elim
    · rename_i e
      rw [if_neg e]
      refine bnd_mono h fun _ _ h => bnd_mono h fun _ _ h => bnd_mono h fun _ _ h => bnd_mono h fun _ _ h => ?_
      split at h
      · rename_i hc; rw [if_pos hc]; exact growZ_mono h hk
      · exact h.elim
  · exact bnd_mono h fun _ _ h => bnd_mono h fun _ _ h => bnd_mono h fun _ _ h => copyK_mono h hk
  · exact bnd_mono h fun _ _ h => bnd_mono h fun _ _ h => bnd_mono h fun _ _ h => clearK_mono h hk
  · exact bnd_mono h fun _ _ h => hk _ _ h
  · exact bnd_mono h fun _ _ h => hk _ _ h
  · exact h.elim

theorem locOf_here {x : Operand} {s c : Nat} {cs : List V} (h : locOf g env x = some (.here s c cs)) : g.L.contains s = true := by
  unfold locOf at h
  split at h
  · split at h
    · rename_i hl; split at h
      · cases h; exact hl
      · cases h
    · split at h
      · split at h
        · split at h
          · rename_i hl; split at h
            · cases h; exact hl
            · cases h
          · cases h
        · cases h
      · split at h
        · cases h
        · cases h
  · split at h
    · cases h
    · cases h

theorem agree_app {a b : List Nat} {e e' : List V} (h : agree a e e') : agree (a ++ b) e e' := h.mono fun s hs => List.mem_append_left _ hs

theorem opK_lift {o : Oper} {K K' : List V → Heap → Prop} (h : opK P g o env H K) (hk : ∀ env' H', agree (omods g o) env env' → K env' H' → K' env' H') : opK P g o env H K' := by
  have hput : ∀ {v : V} {H' : Heap}, putK g env o.dst v (fun env' => K env' H') → putK g env o.dst v (fun env' => K' env' H') := fun h => putK_lift h fun env' ha h => hk _ _ (agree_app ha) h
  unfold opK at *
  split at h
  · exact bnd_mono h fun _ _ h => hput h
  · exact bnd_mono h fun _ _ h => hput h
  · exact bnd_mono h fun _ _ h => bnd_mono h fun _ _ h => bnd_mono h fun _ _ h => bnd_mono h fun _ _ h => hput h
  · rename_i t ho
    exact bnd_mono h fun _ _ h => newBox_lift h fun env' H' ha h => hk _ _ (by unfold omods; rw [ho]; exact ha) h
  · rename_i t x ho
    exact bnd_mono h fun _ _ h => ⟨h.1, newBox_lift h.2 fun env' H' ha h => hk _ _ (by unfold omods; rw [ho]; exact ha) h⟩
  · refine bnd_mono h fun _ _ h => bnd_mono h fun _ _ h => ?_
    split at h
    · exact bnd_mono h fun _ _ h => hput h
    · exact h.elim
  · exact bnd_mono h fun _ _ h => bnd_mono h fun _ _ h => bnd_mono h fun _ _ h => bnd_mono h fun _ _ h => bnd_mono h fun _ _ h => fun o' ho' => hput (h o' ho')
  · exact bnd_mono h fun _ _ h => bnd_mono h fun _ _ h => hput h
  · rename_i t x v ho
    split at h
    · refine bnd_mono h fun l hl h => bnd_mono h fun _ _ h => ?_
      cases l with
      | heap p => exact bnd_mono h fun H' _ h => hk _ _ (agree.refl _ _) h
      | here s c cs =>
        refine bnd_mono h fun cs' _ h => ?_
        rw [setK_eq] at h
        show setK env s (.box cs') fun e => K' e H
        rw [setK_eq]
        refine hk _ _ (agree.set _ _ ?_) h
        unfold omods; rw [ho]
        have := locOf_here hl
        simp at this
        simp [this]
    · exact h.elim
  · exact bnd_mono h fun _ _ h => bnd_mono h fun _ _ h => fieldK_lift h fun env' ha h => hk _ _ (agree_app ha) h
  · exact bnd_mono h fun _ _ h => bnd_mono h fun _ _ h => bnd_mono h fun _ _ h => bnd_mono h fun _ _ h => hput h
  · exact bnd_mono h fun _ _ h => bnd_mono h fun _ _ h => bnd_mono h fun _ _ h => bnd_mono h fun _ _ h => bnd_mono h fun _ _ h => hput h
  · exact bnd_mono h fun _ _ h => bnd_mono h fun _ _ h => bnd_mono h fun _ _ h => bnd_mono h fun _ _ h => bnd_mono h fun _ _ h => bnd_mono h fun _ _ h => bnd_mono h fun _ _ h => hput h
  · exact bnd_mono h fun _ _ h => bnd_mono h fun _ _ h => bnd_mono h fun _ _ h => bnd_mono h fun _ _ h => bnd_mono h fun _ _ h => bnd_mono h fun _ _ h => bnd_mono h fun _ _ h => bnd_mono h fun _ _ h => ⟨h.1, fun o' ho' => hput (h.2 o' ho')⟩
  · exact bnd_mono h fun _ _ h => bnd_mono h fun _ _ h => bnd_mono h fun _ _ h => hput h
  · exact bnd_mono h fun _ _ h => bnd_mono h fun _ _ h => hput h
  · exact bnd_mono h fun _ _ h => bnd_mono h fun _ _ h => hput h
  · exact bnd_mono h fun _ _ h => bnd_mono h fun _ _ h => hput h
  · exact bnd_mono h fun _ _ h => bnd_mono h fun _ _ h => hput h
  · exact bnd_mono h fun _ _ h => bnd_mono h fun _ _ h => hput h
  · split at h
    · exact bnd_mono h fun _ _ h => hput h
    · exact h.elim
  · split at h
    · refine bnd_mono h fun _ _ h => bnd_mono h fun _ _ h => ?_
      unfold callK at *
      split at h
      · split at h
        · exact h.mono fun v H' h => hput h
        · split at h
          · exact extK_mono h fun v H' h => hput h
          · exact h.elim
      · exact h.elim
    · exact bnd_mono h fun _ _ h => builtinK_mono h fun v H' h => hput h
    · exact h.elim
  · exact h.elim

end
end Go.Abs
/-
The abstract layer, part R: regions whose order is left open: one order stands for all.
-/
namespace Go.Abs
open Go.RowKit (Below)

section
variable {P : Program} {g : Cfg} {HS H : Heap} {env env' : List V} {ops : List Oper}

/-- Two slot lists that agree where the operands look. -/
def Same (g : Cfg) (xs : List Operand) (e e' : List V) : Prop :=
  (∀ s, s ∈ tmpsOf xs → e[s]? = e'[s]?) ∧ ((tmpsOf xs).any g.R.contains = true → ∀ s, s ∈ g.L → e[s]? = e'[s]?)

theorem Same.of_rds {o : Oper} (h : ∀ s, s ∈ rds g o → env[s]? = env'[s]?) : Same g (opnds o.op) env env' := by
  unfold rds at h
  refine ⟨fun s hs => h s (List.mem_append_left _ hs), fun hr s hs => h s (List.mem_append_right _ ?_)⟩
  rw [hr]; exact hs
theorem Same.sub {xs ys : List Operand} (h : Same g xs env env') (hs : ∀ t, t ∈ tmpsOf ys → t ∈ tmpsOf xs) : Same g ys env env' := by
  refine ⟨fun s hm => h.1 s (hs s hm), fun hr => h.2 ?_⟩
  rw [List.any_eq_true] at hr ⊢
  obtain ⟨t, h1, h2⟩ := hr
  exact ⟨t, hs t h1, h2⟩
theorem tmpsOf_append (a b : List Operand) : tmpsOf (a ++ b) = tmpsOf a ++ tmpsOf b := by
  induction a with
  | nil => rfl
  | cons x a ih => cases x <;> simp [tmpsOf, ih]
theorem Same.left {xs ys : List Operand} (h : Same g (xs ++ ys) env env') : Same g xs env env' := h.sub fun t ht => by rw [tmpsOf_append]; exact List.mem_append_left _ ht
theorem Same.right {xs ys : List Operand} (h : Same g (xs ++ ys) env env') : Same g ys env env' := h.sub fun t ht => by rw [tmpsOf_append]; exact List.mem_append_right _ ht
theorem Same.one {x : Operand} {xs : List Operand} (h : Same g (x :: xs) env env') : Same g [x] env env' := Same.left (ys := xs) (by simpa using h)
theorem Same.rest {x : Operand} {xs : List Operand} (h : Same g (x :: xs) env env') : Same g xs env env' := Same.right (xs := [x]) (by simpa using h)

theorem ev_same {x : Operand} (h : Same g [x] env env') : ev g env x = ev g env' x := by
  cases x with
  | tmp t => simp only [ev]; rw [h.1 t (by simp [tmpsOf])]
  | _ => rfl
theorem evs_same : ∀ {xs : List Operand}, Same g xs env env' → evs g env xs = evs g env' xs
  | [], _ => rfl
  | x :: xs, h => by simp only [evs]; rw [ev_same h.one, evs_same h.rest]
theorem evo_same {x : Option Operand} (h : Same g x.toList env env') : evo g env x = evo g env' x := by
  cases x with
  | none => rfl
  | some x => simp only [evo]; rw [ev_same h]
theorem evp_same : ∀ {xs : List (Nat × Operand)}, Same g (xs.map (·.2)) env env' → evp g env xs = evp g env' xs
  | [], _ => rfl
  | (i, x) :: xs, h => by
    simp only [evp]
    rw [ev_same (Same.one (x := x) (xs := xs.map (·.2)) h), evp_same (Same.rest (x := x) h)]
theorem locOf_same {x : Operand} (h : Same g [x] env env') : locOf g env x = locOf g env' x := by
  cases x with
  | tmp t =>
    have ht := h.1 t (by simp [tmpsOf])
    unfold locOf
    simp only [ht]
    cases hR : g.R.contains t with
    | false => rfl
    | true =>
      have h2 := h.2 (by simp [tmpsOf]; simpa using hR)
      cases g.L.contains t with
      | true => rfl
      | false =>
        simp only
        cases he : env'[t]? with
        | none => rfl
        | some v =>
          cases v with
          | lref s c =>
            simp only
            cases hs : g.L.contains s with
            | false => rfl
            | true => simp only; rw [h2 s (by simpa using hs)]
          | _ => rfl
  | _ => rfl

/-- What stands behind the same operation over two slot lists. -/
def Post (g : Cfg) (o : Oper) (env env' : List V) (K : List V → Heap → Prop) (e' : List V) (H' : Heap) : Prop :=
  ∃ e, K e H' ∧ e.length = e'.length ∧ agree (wrs g o) env e ∧ agree (wrs g o) env' e' ∧ ∀ s, s ∈ wrs g o → e[s]? = e'[s]?

theorem set_same (d : Nat) (v : V) {e e' : List V} (hl : e.length = e'.length) : (e.set d v)[d]? = (e'.set d v)[d]? := by
  by_cases h : d < e.length
  · simp [h, show d < e'.length by omega]
  · rw [List.getElem?_eq_none (by simp; omega), List.getElem?_eq_none (by simp; omega)]

theorem putK_rel {o : Oper} {v : V} {H' : Heap} {K : List V → Heap → Prop} (hlen : env.length = env'.length) (hw : wrs g o = dstL o.dst) (h : putK g env o.dst v fun e => K e H') :
    putK g env' o.dst v fun e' => Post g o env env' K e' H' := by
  unfold Post
  rw [hw]
  unfold putK at *
  simp only [setK_eq] at *
  generalize o.dst = dd at *
  cases dd with
  | none => exact ⟨env, h, hlen, agree.refl _ _, agree.refl _ _, fun s hs => by simp [dstL] at hs⟩
  | some d =>
    simp only at h ⊢
    revert h
    cases g.loc d with
    | true => exact fun h => h
    | false =>
      refine fun h => ⟨_, h, by simp [hlen], agree.set _ _ (by simp [dstL]), agree.set _ _ (by simp [dstL]), fun s hs => ?_⟩
      have : s = d := by simpa [dstL] using hs
      subst this
      exact set_same _ _ hlen

theorem clr_same : ∀ (ds : List Nat) (e e' : List V), e.length = e'.length → (∀ s, s ∈ ds → (clr ds e)[s]? = (clr ds e')[s]?)
  | [], _, _, _, s, hs => by simp at hs
  | d :: ds, e, e', hl, s, hs => by
    unfold clr
    by_cases hm : s ∈ ds
    · exact clr_same ds _ _ (by simp [hl]) s hm
    · have hsd : s = d := by rcases List.mem_cons.1 hs with h | h; exact h; exact absurd h hm
      subst hsd
      have a1 := (agree.clr (ms := ds) ds (e.set s .any) fun _ h => h).2 s hm
      have a2 := (agree.clr (ms := ds) ds (e'.set s .any) fun _ h => h).2 s hm
      rw [← a1, ← a2]
      exact set_same _ _ hl

theorem newBox_rel {o : Oper} {cs : List V} {K : List V → Heap → Prop} (hlen : env.length = env'.length) (hw : wrs g o = dstL o.dst ++ (match (dstL o.dst).any g.L.contains with | true => g.R | false => [])) (h : newBox g env H o.dst cs K) :
    newBox g env' H o.dst cs (Post g o env env' K) := by
  unfold Post
  rw [hw]
  unfold newBox at *
  simp only [setK_eq] at *
  generalize o.dst = dd at *
  cases dd with
  | none => exact h.elim
  | some d =>
    simp only at h ⊢
    have hd : (dstL (some d)).any g.L.contains = g.L.contains d := by simp [dstL]
    rw [hd]
    revert h
    cases hL : g.L.contains d with
    | true =>
      refine fun h => ⟨_, h, by simp [clr_len, hlen], ?_, ?_, fun s hs => ?_⟩
      · exact (agree.clr _ _ (fun d hd => List.mem_append_right _ hd)).trans (agree.set _ _ (by simp [dstL]))
      · exact (agree.clr _ _ (fun d hd => List.mem_append_right _ hd)).trans (agree.set _ _ (by simp [dstL]))
      · by_cases hsd : s = d
        · subst hsd; exact set_same _ _ (by simp [clr_len, hlen])
        · have hsR : s ∈ g.R := by
            rcases List.mem_append.1 hs with h | h
            · exact absurd (by simpa [dstL] using h) hsd
            · exact h
          rw [List.getElem?_set_ne (by omega), List.getElem?_set_ne (by omega)]
          exact clr_same _ _ _ hlen s hsR
    | false =>
      simp only
      cases hR : g.R.contains d with
      | true => exact fun h => h
      | false =>
        refine fun h o' ho' => ⟨_, h o' ho', by simp [hlen], agree.set _ _ (by simp [dstL]), agree.set _ _ (by simp [dstL]), fun s hs => ?_⟩
        have : s = d := by simpa [dstL] using hs
        subst this
        exact set_same _ _ hlen

theorem fieldK_rel {o : Oper} {off : Nat} {l : Loc} {H' : Heap} {K : List V → Heap → Prop} (hlen : env.length = env'.length) (hw : wrs g o = dstL o.dst) (h : fieldK g env o.dst off l fun e => K e H') :
    fieldK g env' o.dst off l fun e' => Post g o env env' K e' H' := by
  cases l with
  | heap p => exact bnd_mono h fun v _ h => putK_rel hlen hw h
  | here s c cs =>
    unfold Post
    rw [hw]
    unfold fieldK at *
    simp only [setK_eq] at *
    generalize o.dst = dd at *
    cases dd with
    | none => exact ⟨env, h, hlen, agree.refl _ _, agree.refl _ _, fun s hs => by simp [dstL] at hs⟩
    | some d =>
      simp only at h ⊢
      revert h
      cases g.L.contains d with
      | true => exact fun h => h
      | false =>
        simp only
        cases g.R.contains d with
        | false => exact fun h => h
        | true =>
          refine fun h => ⟨_, h, by simp [hlen], agree.set _ _ (by simp [dstL]), agree.set _ _ (by simp [dstL]), fun s hs => ?_⟩
          have : s = d := by simpa [dstL] using hs
          subst this
          exact set_same _ _ hlen

/-- The slots that a store turns are those that the operation is said to turn. -/
theorem storeK_rel {o : Oper} {t : TypeId} {x y : Operand} {v : V} {l : Loc} {K : List V → Heap → Prop} (ho : o.op = .store t x y) (hd : o.dst = none) (hlen : env.length = env'.length) (hsm : Same g [x] env env') (hl : locOf g env x = some l)
    (h : storeK P env H t v l K) : storeK P env' H t v l (Post g o env env' K) := by
  cases l with
  | heap p => exact bnd_mono h fun H' _ h => ⟨env, h, hlen, agree.refl _ _, agree.refl _ _, fun s hs => by
      exfalso
      unfold wrs at hs
      rw [ho, hd] at hs
      cases x with
      | tmp u =>
        unfold locOf at hl
        simp only [dstL, List.nil_append] at hs hl
        cases hL : g.L.contains u with
        | true => rw [hL] at hl; simp only at hl; split at hl <;> cases hl
        | false =>
          rw [hL] at hl hs
          simp only at hl hs
          cases hR : g.R.contains u with
          | true =>
            rw [hR] at hl
            simp only at hl
            split at hl
            · split at hl
              · split at hl <;> cases hl
              · cases hl
            · cases hl
          | false => rw [hR] at hs; simp at hs
      | _ => simp [dstL] at hs⟩
  | here s c cs =>
    refine bnd_mono h fun cs' _ h => ?_
    have key : s ∈ wrs g o ∧ ∀ s', s' ∈ wrs g o → s' ≠ s → env[s']? = env'[s']? := by
      unfold wrs
      rw [ho, hd]
      cases x with
      | tmp u =>
        unfold locOf at hl
        simp only [dstL, List.nil_append] at hl ⊢
        cases hL : g.L.contains u with
        | true =>
          rw [hL] at hl
          simp only at hl ⊢
          split at hl
          · cases hl; exact ⟨by simp, fun s' h1 h2 => absurd (by simpa using h1) h2⟩
          · cases hl
        | false =>
          rw [hL] at hl
          simp only at hl ⊢
          cases hR : g.R.contains u with
          | true =>
            have h2 := hsm.2 (by simp [tmpsOf]; simpa using hR)
            rw [hR] at hl
            simp only at hl ⊢
            split at hl
            · split at hl
              · rename_i hs
                split at hl
                · cases hl; exact ⟨by simpa using hs, fun s' h1 _ => h2 s' h1⟩
                · cases hl
              · cases hl
            · cases hl
          | false => rw [hR] at hl; simp only at hl; split at hl <;> cases hl
      | _ => unfold locOf at hl; simp only at hl; split at hl <;> cases hl
    rw [setK_eq] at h
    show setK env' s (.box cs') fun e => Post g o env env' K e H
    rw [setK_eq]
    refine ⟨_, h, by simp [hlen], agree.set _ _ key.1, agree.set _ _ key.1, fun s' hs' => ?_⟩
    by_cases e : s' = s
    · subst e; exact set_same _ _ hlen
    · rw [List.getElem?_set_ne (by omega), List.getElem?_set_ne (by omega)]
      exact key.2 s' hs' e

theorem bnd_same {α : Type} {a b : Option α} {K : α → Prop} (h : bnd a K) (e : a = b) : bnd b K := e ▸ h

theorem opK_rel {o : Oper} {K : List V → Heap → Prop} (hlen : env.length = env'.length) (hs : Same g (opnds o.op) env env') (h : opK P g o env H K) : opK P g o env' H (Post g o env env' K) := by
  have hput : wrs g o = dstL o.dst → ∀ {v : V} {H' : Heap}, putK g env o.dst v (fun e => K e H') → putK g env' o.dst v (fun e' => Post g o env env' K e' H') := fun hw _ _ h => putK_rel hlen hw h
  unfold opK at h ⊢
  split at h
  · rename_i x ho
    rw [ho] at hs
    have hw : wrs g o = dstL o.dst := by unfold wrs; rw [ho]; simp
    exact bnd_same (bnd_mono h fun _ _ h => hput hw h) (ev_same hs)
  · rename_i x ho
    rw [ho] at hs
    have hw : wrs g o = dstL o.dst := by unfold wrs; rw [ho]; simp
    exact bnd_same (bnd_mono h fun _ _ h => hput hw h) (ev_same hs)
  · rename_i c a b ho
    rw [ho] at hs
    have hw : wrs g o = dstL o.dst := by unfold wrs; rw [ho]; simp
    exact bnd_same (bnd_mono h fun _ _ h => bnd_same (bnd_mono h fun _ _ h => bnd_same (bnd_mono h fun _ _ h => bnd_mono h fun _ _ h => hput hw h) (ev_same hs.rest.rest.one)) (ev_same hs.rest.one)) (ev_same hs.one)
  · rename_i t ho
    exact bnd_mono h fun _ _ h => newBox_rel hlen (by unfold wrs; rw [ho] <;> rfl) h
  · rename_i t x ho
    rw [ho] at hs
    exact bnd_same (bnd_mono h fun _ _ h => ⟨h.1, newBox_rel hlen (by unfold wrs; rw [ho] <;> rfl) h.2⟩) (ev_same hs)
  · rename_i t ps ho
    rw [ho] at hs
    have hw : wrs g o = dstL o.dst := by unfold wrs; rw [ho]; simp
    refine bnd_same (bnd_mono h fun _ _ h => bnd_mono h fun _ _ h => ?_) (evp_same hs)
    split at h
    · exact bnd_mono h fun _ _ h => hput hw h
    · exact h.elim
  · rename_i t len ps ho
    rw [ho] at hs
    have hw : wrs g o = dstL o.dst := by unfold wrs; rw [ho]; simp
    exact bnd_same (bnd_mono h fun _ _ h => bnd_mono h fun _ _ h => bnd_mono h fun _ _ h => bnd_mono h fun _ _ h => bnd_mono h fun _ _ h => fun o' ho' => hput hw (h o' ho')) (evp_same hs)
  · rename_i t x ho
    rw [ho] at hs
    have hw : wrs g o = dstL o.dst := by unfold wrs; rw [ho]; simp
    exact bnd_same (bnd_mono h fun _ _ h => bnd_mono h fun _ _ h => hput hw h) (locOf_same hs)
  · rename_i t x v ho
    rw [ho] at hs
    split at h
    · rename_i hd
      refine bnd_same (bnd_mono h fun l hl h => bnd_same (bnd_mono h fun _ _ h => ?_) (ev_same hs.rest)) (locOf_same hs.one)
      exact storeK_rel ho hd hlen hs.one hl h
    · exact h.elim
  · rename_i t x f ho
    rw [ho] at hs
    have hw : wrs g o = dstL o.dst := by unfold wrs; rw [ho]; simp
    exact bnd_same (bnd_mono h fun _ _ h => bnd_mono h fun _ _ h => fieldK_rel hlen hw h) (locOf_same hs)
  · rename_i t x f ho
    rw [ho] at hs
    have hw : wrs g o = dstL o.dst := by unfold wrs; rw [ho]; simp
    exact bnd_same (bnd_mono h fun _ _ h => bnd_mono h fun _ _ h => bnd_mono h fun _ _ h => bnd_mono h fun _ _ h => hput hw h) (ev_same hs)
  · rename_i t x i ho
    rw [ho] at hs
    have hw : wrs g o = dstL o.dst := by unfold wrs; rw [ho]; simp
    exact bnd_same (bnd_mono h fun _ _ h => bnd_same (bnd_mono h fun _ _ h => bnd_mono h fun _ _ h => bnd_mono h fun _ _ h => bnd_mono h fun _ _ h => hput hw h) (ev_same hs.rest)) (ev_same hs.one)
  · rename_i t x lo hi mx ho
    rw [ho] at hs
    have hw : wrs g o = dstL o.dst := by unfold wrs; rw [ho]; simp
    have h1 : Same g (lo.toList ++ hi.toList ++ mx.toList) env env' := Same.rest (x := x) hs
    exact bnd_same (bnd_mono h fun _ _ h => bnd_same (bnd_mono h fun _ _ h => bnd_same (bnd_mono h fun _ _ h => bnd_same (bnd_mono h fun _ _ h => bnd_mono h fun _ _ h => bnd_mono h fun _ _ h => bnd_mono h fun _ _ h => hput hw h) (evo_same h1.right)) (evo_same h1.left.right)) (evo_same h1.left.left)) (ev_same (Same.one (xs := lo.toList ++ hi.toList ++ mx.toList) hs))
  · rename_i t l c ho
    rw [ho] at hs
    have hw : wrs g o = dstL o.dst := by unfold wrs; rw [ho]; simp
    exact bnd_same (bnd_mono h fun _ _ h => bnd_same (bnd_mono h fun _ _ h => bnd_mono h fun _ _ h => bnd_mono h fun _ _ h => bnd_mono h fun _ _ h => bnd_mono h fun _ _ h => bnd_mono h fun _ _ h => bnd_mono h fun _ _ h => ⟨h.1, fun o' ho' => hput hw (h.2 o' ho')⟩) (ev_same hs.rest)) (ev_same hs.one)
  · rename_i op t x y cm ho
    rw [ho] at hs
    have hw : wrs g o = dstL o.dst := by unfold wrs; rw [ho]; simp
    exact bnd_same (bnd_mono h fun _ _ h => bnd_same (bnd_mono h fun _ _ h => bnd_mono h fun _ _ h => hput hw h) (ev_same hs.rest)) (ev_same hs.one)
  · rename_i t x ho
    rw [ho] at hs
    have hw : wrs g o = dstL o.dst := by unfold wrs; rw [ho]; simp
    exact bnd_same (bnd_mono h fun _ _ h => bnd_mono h fun _ _ h => hput hw h) (ev_same hs)
  · rename_i t x ho
    rw [ho] at hs
    have hw : wrs g o = dstL o.dst := by unfold wrs; rw [ho]; simp
    exact bnd_same (bnd_mono h fun _ _ h => bnd_mono h fun _ _ h => hput hw h) (ev_same hs)
  · rename_i s d x ho
    rw [ho] at hs
    have hw : wrs g o = dstL o.dst := by unfold wrs; rw [ho]; simp
    exact bnd_same (bnd_mono h fun _ _ h => bnd_mono h fun _ _ h => hput hw h) (ev_same hs)
  · rename_i x i ho
    rw [ho] at hs
    have hw : wrs g o = dstL o.dst := by unfold wrs; rw [ho]; simp
    exact bnd_same (bnd_mono h fun _ _ h => bnd_mono h fun _ _ h => hput hw h) (ev_same hs)
  · rename_i x ho
    rw [ho] at hs
    have hw : wrs g o = dstL o.dst := by unfold wrs; rw [ho]; simp
    exact bnd_same (bnd_mono h fun _ _ h => bnd_mono h fun _ _ h => hput hw h) (ev_same hs)
  · rename_i f first caps ho
    rw [ho] at hs
    have hw : wrs g o = dstL o.dst := by unfold wrs; rw [ho]; simp
    split at h
    · exact bnd_same (bnd_mono h fun _ _ h => hput hw h) (evs_same hs)
    · exact h.elim
  · rename_i c ho
    rw [ho] at hs
    have hw : wrs g o = dstL o.dst := by unfold wrs; rw [ho]; simp
    split at h
    · rename_i f hc
      have hs' : Same g (f :: c.args.toList) env env' := by simpa [opnds, hc] using hs
      refine bnd_same (bnd_mono h fun _ _ h => bnd_same (bnd_mono h fun _ _ h => ?_) (evs_same hs'.rest)) (ev_same hs'.one)
      unfold callK at *
      split at h
      · split at h
        · exact h.mono fun v H' h => hput hw h
        · split at h
          · exact extK_mono h fun v H' h => hput hw h
          · exact h.elim
      · exact h.elim
    · rename_i b hc
      have hs' : Same g c.args.toList env env' := by simpa [opnds, hc] using hs
      exact bnd_same (bnd_mono h fun _ _ h => builtinK_mono h fun v H' h => hput hw h) (evs_same hs')
    · exact h.elim
  · exact h.elim

theorem putK_fun {d : Option Tmp} {v : V} {K : List V → Heap → Prop} {H0 : Heap} (h : putK g env d v fun e => K e H0) : ∃ e, K e H0 ∧ ∀ (H : Heap) (K' : List V → Heap → Prop), K' e H → putK g env d v fun e => K' e H := by
  cases d with
  | none => exact ⟨env, h, fun _ _ h => h⟩
  | some d =>
    simp only [putK, setK_eq] at h ⊢
    revert h
    cases g.loc d with
    | true => exact fun h => h.elim
    | false => exact fun h => ⟨_, h, fun _ _ h => h⟩
theorem newBox_fun {d : Tmp} {cs : List V} {K : List V → Heap → Prop} {H0 : Heap} (hd : g.L.contains d = true) (h : newBox g env H0 (some d) cs K) : ∃ e, K e H0 ∧ ∀ (H : Heap) (K' : List V → Heap → Prop), K' e H → newBox g env H (some d) cs K' := by
  simp only [newBox, setK_eq, hd] at h ⊢
  exact ⟨_, h, fun _ _ h => h⟩
theorem fieldK_fun {d : Option Tmp} {off : Nat} {l : Loc} {K : List V → Heap → Prop} {H0 : Heap} (h : fieldK g env d off l fun e => K e H0) : ∃ e, K e H0 ∧ ∀ (H : Heap) (K' : List V → Heap → Prop), K' e H → fieldK g env d off l fun e => K' e H := by
  cases l with
  | heap p =>
    obtain ⟨v, hv, h⟩ := bnd_elim h
    obtain ⟨e, he, hk⟩ := putK_fun h
    exact ⟨e, he, fun H K' h => by simp only [fieldK, setK_eq, hv, bnd_some]; exact hk H K' h⟩
  | here s c cs =>
    cases d with
    | none => exact ⟨env, h, fun _ _ h => h⟩
    | some d =>
      simp only [fieldK, setK_eq] at h ⊢
      revert h
      cases g.L.contains d with
      | true => exact fun h => h.elim
      | false =>
        simp only
        cases g.R.contains d with
        | true => exact fun h => ⟨_, h, fun _ _ h => h⟩
        | false => exact fun h => h.elim
theorem aLd_up {b : Bool} {sz : Nat} {p v : V} (h : aLd b sz HS p = some v) (hs : Abs.sub HS H) : aLd b sz H p = some v := by
  unfold aLd rowAt at *
  split at h
  · split at h
    · rename_i hr
      split at hr
      · rename_i ob ho
        rw [hs _ _ ho]; simp only [hr]; exact h
      · cases hr
    · cases h
  · exact h
  · cases h
theorem aLoadL_up {t : TypeId} {l : Loc} {v : V} (h : aLoadL P HS t l = some v) (hs : Abs.sub HS H) : aLoadL P H t l = some v := by
  cases l with
  | heap p =>
    simp only [aLoadL, aLoad] at *
    split at h
    · exact aLd_up h hs
    · cases h
  | here s c cs => exact h
theorem aIndex_up {sz : Nat} {x i v : V} (h : aIndex HS sz x i = some v) (hs : Abs.sub HS H) : aIndex H sz x i = some v := by
  unfold aIndex at *
  split at h
  · split at h
    · rename_i hb
      split at h
      · rename_i ob ho
        rw [if_pos hb, hs _ _ ho]; exact h
      · cases h
    · cases h
  · exact h
  · cases h
theorem aSlice_up {sz : Nat} {x v : V} {lo hi mx : Option V} (h : aSlice HS sz x lo hi mx = some v) (hs : Abs.sub HS H) : aSlice H sz x lo hi mx = some v := by
  unfold aSlice at *
  split at h
  · split at h
    · rename_i ob ho
      rw [hs _ _ ho]; exact h
    · cases h
  · exact h
  · cases h
theorem storeK_fun {t : TypeId} {v : V} {s c : Nat} {cs : List V} {K : List V → Heap → Prop} {H0 : Heap} (h : storeK P env H0 t v (.here s c cs) K) : ∃ e, K e H0 ∧ ∀ (H : Heap) (K' : List V → Heap → Prop), K' e H → storeK P env H t v (.here s c cs) K' := by
  obtain ⟨cs', hc, h⟩ := bnd_elim h
  rw [setK_eq] at h
  exact ⟨_, h, fun H K' h => by simp only [storeK, setK_eq, hc, bnd_some]; exact h⟩
theorem locOf_local {t : Tmp} {l : Loc} (ht : (g.L.contains t || g.R.contains t) = true) (h : locOf g env (.tmp t) = some l) : ∃ s c cs, l = .here s c cs := by
  unfold locOf at h
  simp only at h
  cases hL : g.L.contains t with
  | true =>
    rw [hL] at h
    simp only at h
    split at h
    · cases h; exact ⟨_, _, _, rfl⟩
    · cases h
  | false =>
    rw [hL] at h ht
    have hR : g.R.contains t = true := by simpa using ht
    rw [hR] at h
    simp only at h
    split at h
    · split at h
      · split at h
        · cases h; exact ⟨_, _, _, rfl⟩
        · cases h
      · cases h
    · cases h

/-- An operation of this kind has one outcome, and has it over any greater heap. -/
theorem E_fun {o : Oper} {K : List V → Heap → Prop} (hE : isE g o = true) (h : opK P g o env HS K) : ∃ e, K e HS ∧ ∀ H, Abs.sub HS H → ∀ K' : List V → Heap → Prop, K' e H → opK P g o env H K' := by
  unfold opK at h
  unfold isE at hE
  split at h
  · rename_i x ho
    obtain ⟨v, hv, h⟩ := bnd_elim h
    obtain ⟨e, he, hk⟩ := putK_fun h
    exact ⟨e, he, fun H hs K' h => by unfold opK; simp only [ho, hv, bnd_some]; exact hk H K' h⟩
  · rename_i x ho
    obtain ⟨v, hv, h⟩ := bnd_elim h
    obtain ⟨e, he, hk⟩ := putK_fun h
    exact ⟨e, he, fun H hs K' h => by unfold opK; simp only [ho, hv, bnd_some]; exact hk H K' h⟩
  · rename_i c a b ho
    obtain ⟨v, hv, h⟩ := bnd_elim h
    obtain ⟨v1, hv1, h⟩ := bnd_elim h
    obtain ⟨v2, hv2, h⟩ := bnd_elim h
    obtain ⟨v3, hv3, h⟩ := bnd_elim h
    obtain ⟨e, he, hk⟩ := putK_fun h
    exact ⟨e, he, fun H hs K' h => by unfold opK; simp only [ho, hv, hv1, hv2, hv3, bnd_some]; exact hk H K' h⟩
  · rename_i t ho
    rw [ho] at hE
    simp only at hE
    obtain ⟨z, hz, h⟩ := bnd_elim h
    split at hE
    · rename_i d hd
      rw [hd] at h
      obtain ⟨e, he, hk⟩ := newBox_fun hE h
      exact ⟨e, he, fun H hs K' h => by unfold opK; simp only [ho, hz, hd, bnd_some]; exact hk H K' h⟩
    · cases hE
  · rename_i t x ho
    rw [ho] at hE
    simp only at hE
    obtain ⟨v, hv, h⟩ := bnd_elim h
    split at hE
    · rename_i d hd
      rw [hd] at h
      obtain ⟨e, he, hk⟩ := newBox_fun hE h.2
      exact ⟨e, he, fun H hs K' h' => by unfold opK; simp only [ho, hv, hd, bnd_some]; exact ⟨h.1, hk H K' h'⟩⟩
    · cases hE
  · rename_i t ps ho
    obtain ⟨v, hv, h⟩ := bnd_elim h
    obtain ⟨z, hz, h⟩ := bnd_elim h
    split at h
    · rename_i hok
      obtain ⟨cs, hcs, h⟩ := bnd_elim h
      obtain ⟨e, he, hk⟩ := putK_fun h
      exact ⟨e, he, fun H hs K' h => by unfold opK; simp only [ho, hv, hz, hok, hcs, bnd_some]; exact hk H K' h⟩
    · exact h.elim
  · rename_i t len ps ho
    rw [ho] at hE; cases hE
  · rename_i t x ho
    obtain ⟨l, hl, h⟩ := bnd_elim h
    obtain ⟨v, hv, h⟩ := bnd_elim h
    obtain ⟨e, he, hk⟩ := putK_fun h
    exact ⟨e, he, fun H hs K' h => by unfold opK; simp only [ho, hl, aLoadL_up hv hs, bnd_some]; exact hk H K' h⟩
  · rename_i t x v ho
    rw [ho] at hE
    split at h
    · rename_i hd
      obtain ⟨l, hl, h⟩ := bnd_elim h
      obtain ⟨v', hv, h⟩ := bnd_elim h
      cases x with
      | tmp u =>
        obtain ⟨s, c, cs, rfl⟩ := locOf_local hE hl
        obtain ⟨e, he, hk⟩ := storeK_fun h
        exact ⟨e, he, fun H hs K' h => by unfold opK; simp only [ho, hd, hl, hv, bnd_some]; exact hk H K' h⟩
      | _ => cases hE
    · exact h.elim
  · rename_i t x f ho
    obtain ⟨l, hl, h⟩ := bnd_elim h
    obtain ⟨off, hoff, h⟩ := bnd_elim h
    obtain ⟨e, he, hk⟩ := fieldK_fun h
    exact ⟨e, he, fun H hs K' h => by unfold opK; simp only [ho, hl, hoff, bnd_some]; exact hk H K' h⟩
  · rename_i t x f ho
    obtain ⟨v, hv, h⟩ := bnd_elim h
    obtain ⟨off, hoff, h⟩ := bnd_elim h
    obtain ⟨cs, hcs, h⟩ := bnd_elim h
    obtain ⟨y, hy, h⟩ := bnd_elim h
    obtain ⟨e, he, hk⟩ := putK_fun h
    exact ⟨e, he, fun H hs K' h => by unfold opK; simp only [ho, hv, hoff, hcs, hy, bnd_some]; exact hk H K' h⟩
  · rename_i t x i ho
    obtain ⟨v, hv, h⟩ := bnd_elim h
    obtain ⟨v1, hv1, h⟩ := bnd_elim h
    obtain ⟨v2, hv2, h⟩ := bnd_elim h
    obtain ⟨v3, hv3, h⟩ := bnd_elim h
    obtain ⟨v4, hv4, h⟩ := bnd_elim h
    obtain ⟨e, he, hk⟩ := putK_fun h
    exact ⟨e, he, fun H hs K' h => by unfold opK; simp only [ho, hv, hv1, hv2, hv3, aIndex_up hv4 hs, bnd_some]; exact hk H K' h⟩
  · rename_i t x lo hi mx ho
    obtain ⟨v, hv, h⟩ := bnd_elim h
    obtain ⟨v1, hv1, h⟩ := bnd_elim h
    obtain ⟨v2, hv2, h⟩ := bnd_elim h
    obtain ⟨v3, hv3, h⟩ := bnd_elim h
    obtain ⟨v4, hv4, h⟩ := bnd_elim h
    obtain ⟨v5, hv5, h⟩ := bnd_elim h
    obtain ⟨v6, hv6, h⟩ := bnd_elim h
    obtain ⟨e, he, hk⟩ := putK_fun h
    exact ⟨e, he, fun H hs K' h => by unfold opK; simp only [ho, hv, hv1, hv2, hv3, hv4, hv5, aSlice_up hv6 hs, bnd_some]; exact hk H K' h⟩
  · rename_i t l c ho
    rw [ho] at hE; cases hE
  · rename_i op t x y cm ho
    obtain ⟨v, hv, h⟩ := bnd_elim h
    obtain ⟨v1, hv1, h⟩ := bnd_elim h
    obtain ⟨v2, hv2, h⟩ := bnd_elim h
    obtain ⟨e, he, hk⟩ := putK_fun h
    exact ⟨e, he, fun H hs K' h => by unfold opK; simp only [ho, hv, hv1, hv2, bnd_some]; exact hk H K' h⟩
  · rename_i t x ho
    obtain ⟨v, hv, h⟩ := bnd_elim h
    obtain ⟨v1, hv1, h⟩ := bnd_elim h
    obtain ⟨e, he, hk⟩ := putK_fun h
    exact ⟨e, he, fun H hs K' h => by unfold opK; simp only [ho, hv, hv1, bnd_some]; exact hk H K' h⟩
  · rename_i t x ho
    obtain ⟨v, hv, h⟩ := bnd_elim h
    obtain ⟨v1, hv1, h⟩ := bnd_elim h
    obtain ⟨e, he, hk⟩ := putK_fun h
    exact ⟨e, he, fun H hs K' h => by unfold opK; simp only [ho, hv, hv1, bnd_some]; exact hk H K' h⟩
  · rename_i s d x ho
    obtain ⟨v, hv, h⟩ := bnd_elim h
    obtain ⟨v1, hv1, h⟩ := bnd_elim h
    obtain ⟨e, he, hk⟩ := putK_fun h
    exact ⟨e, he, fun H hs K' h => by unfold opK; simp only [ho, hv, hv1, bnd_some]; exact hk H K' h⟩
  · rename_i x i ho
    obtain ⟨v, hv, h⟩ := bnd_elim h
    obtain ⟨v1, hv1, h⟩ := bnd_elim h
    obtain ⟨e, he, hk⟩ := putK_fun h
    exact ⟨e, he, fun H hs K' h => by unfold opK; simp only [ho, hv, hv1, bnd_some]; exact hk H K' h⟩
  · rename_i x ho
    obtain ⟨v, hv, h⟩ := bnd_elim h
    obtain ⟨v1, hv1, h⟩ := bnd_elim h
    obtain ⟨e, he, hk⟩ := putK_fun h
    exact ⟨e, he, fun H hs K' h => by unfold opK; simp only [ho, hv, hv1, bnd_some]; exact hk H K' h⟩
  · rename_i f first caps ho
    split at h
    · rename_i hf
      obtain ⟨v, hv, h⟩ := bnd_elim h
      obtain ⟨e, he, hk⟩ := putK_fun h
      exact ⟨e, he, fun H hs K' h => by unfold opK; simp only [ho, hf, hv, bnd_some]; exact hk H K' h⟩
    · exact h.elim
  · rename_i c ho
    rw [ho] at hE
    simp only at hE
    split at h
    · rename_i f hc
      rw [hc] at hE; cases hE
    · rename_i b hc
      obtain ⟨v, hv, h⟩ := bnd_elim h
      generalize htys : c.argTypes.toList = tys at h
      unfold builtinK at h
      split at h
      · obtain ⟨v1, hv1, h⟩ := bnd_elim h
        obtain ⟨v2, hv2, h⟩ := bnd_elim h
        obtain ⟨e, he, hk⟩ := putK_fun h
        exact ⟨e, he, fun H hs K' h => by unfold opK; simp only [ho, hc, hv, htys, builtinK, hv1, hv2, bnd_some]; exact hk H K' h⟩
      · rw [hc] at hE; cases hE
      · rw [hc] at hE; cases hE
      · rw [hc] at hE; cases hE
      · rw [hc] at hE; cases hE
      · obtain ⟨v1, hv1, h⟩ := bnd_elim h
        obtain ⟨e, he, hk⟩ := putK_fun h
        exact ⟨e, he, fun H hs K' h => by unfold opK; simp only [ho, hc, hv, builtinK, hv1, bnd_some]; exact hk H K' h⟩
      · obtain ⟨v1, hv1, h⟩ := bnd_elim h
        obtain ⟨e, he, hk⟩ := putK_fun h
        exact ⟨e, he, fun H hs K' h => by unfold opK; simp only [ho, hc, hv, builtinK, hv1, bnd_some]; exact hk H K' h⟩
      · exact h.elim
    · exact h.elim
  · exact h.elim


/-! #### one more object, untouched -/
section
variable {P : Program} {g : Cfg} {env : List V} {H : Heap} {q : Nat} {ob : Ob}
/-- The rest goes on from a heap without the object. -/
def Fr {α : Type} (q : Nat) (ob : Ob) (K : α → Heap → Prop) (e : α) (H'' : Heap) : Prop := ∃ H', H' q = none ∧ H'' = upd H' q ob ∧ K e H'
theorem updc {H : Heap} {i j : Nat} (x y : Ob) (h : i ≠ j) : upd (upd H i x) j y = upd (upd H j y) i x := by
  funext k
  unfold upd
  by_cases e1 : k = i
  · subst e1; simp [h]
  · simp [e1]
theorem sub_q (hq : H q = none) : Abs.sub H (upd H q ob) := fun i x hi => by
  unfold upd; split
  · rename_i e; subst e; rw [hq] at hi; cases hi
  · exact hi
theorem ne_q (hq : H q = none) {o : Nat} {x : Ob} (ho : H o = some x) : o ≠ q := by rintro rfl; rw [hq] at ho; cases ho
theorem upd_q {H : Heap} {o q : Nat} {ob : Ob} (h : o ≠ q) : (upd H q ob) o = H o := by unfold upd; rw [if_neg h]
theorem ACalls.frame {f : FuncId} {args : List V} {R : V → Heap → Prop} (h : ACalls P f args H R) (hq : H q = none) : ACalls P f args (upd H q ob) (Fr q ob R) := by
  refine ⟨fun w0 base F ι G w cargs hrel hsub hF hdis hargs => ?_⟩
  have hob : (upd H q ob) q = some ob := by unfold upd; rw [if_pos rfl]
  have hFq : F q = none := hdis _ _ hob
  have e1 : Abs.sub H G := fun i x hi => hsub _ _ (sub_q hq _ _ hi)
  have e2 : Abs.sub (upd F q ob) G := fun i x hi => by
    by_cases e : i = q
    · subst e
      unfold upd at hi; rw [if_pos rfl] at hi; cases hi
      exact hsub _ _ hob
    · rw [upd_q e] at hi; exact hF _ _ hi
  have e3 : disj H (upd F q ob) := fun i x hi => by
    have e := ne_q hq hi
    rw [upd_q e]
    exact hdis i x (by rw [upd_q e]; exact hi)
  refine Calls.mono (h.run w0 base (upd F q ob) ι G w cargs hrel e1 e2 e3 hargs) fun e w' hh => ?_
  obtain ⟨v, cv, ι', G', H', r1, r2, r3, r4, r5, r6, r7, r8⟩ := hh
  have hFob : (upd F q ob) q = some ob := by unfold upd; rw [if_pos rfl]
  have hH'q : H' q = none := by
    cases hx : H' q with
    | none => rfl
    | some x => have := r7 _ _ hx; rw [hFob] at this; cases this
  refine ⟨v, cv, ι', G', upd H' q ob, r1, r2, r3, r4, fun i x hi => ?_, fun i x hi => ?_, fun i x hi => ?_, H', hH'q, rfl, r8⟩
  · by_cases e : i = q
    · subst e
      unfold upd at hi; rw [if_pos rfl] at hi; cases hi
      exact r6 _ _ hFob
    · rw [upd_q e] at hi; exact r5 _ _ hi
  · refine r6 _ _ ?_
    by_cases e : i = q
    · subst e; rw [hFq] at hi; cases hi
    · rw [upd_q e]; exact hi
  · by_cases e : i = q
    · subst e; exact hFq
    · rw [upd_q e] at hi
      have := r7 _ _ hi
      rwa [upd_q e] at this
theorem putK_mono {d : Option Tmp} {v : V} {A B : List V → Prop} (h : putK g env d v A) (hk : ∀ e, A e → B e) : putK g env d v B := by
  unfold putK at *
  split at h
  · exact hk _ h
  · split at h
    · exact h.elim
    · rw [setK_eq] at *; exact hk _ h
theorem aSt_frame {sz : Nat} {p v : V} {H' : Heap} (hq : H q = none) (h : aSt sz H p v = some H') : H' q = none ∧ aSt sz (upd H q ob) p v = some (upd H' q ob) := by
  unfold aSt at h
  split at h
  · rename_i o r c
    split at h
    · rename_i x hx
      have hne := ne_q hq hx
      split at h
      · rename_i row hr
        split at h
        · rename_i row' hz
          cases h
          refine ⟨by rw [upd_q (Ne.symm hne)]; exact hq, ?_⟩
          unfold aSt
          simp only [upd_q hne, hx, hr, hz]
          rw [updc _ _ (Ne.symm hne)]
        · cases h
      · cases h
    · cases h
  · cases h
theorem newBox_frame {d : Option Tmp} {cs : List V} {K : List V → Heap → Prop} (hq : H q = none) (h : newBox g env H d cs K) : newBox g env (upd H q ob) d cs (Fr q ob K) := by
  unfold newBox at *
  split at h
  · exact h.elim
  · split at h
    · rw [setK_eq] at *; exact ⟨H, hq, rfl, h⟩
    · split at h
      · exact h.elim
      · intro o ho
        have hne : o ≠ q := by rintro rfl; unfold upd at ho; rw [if_pos rfl] at ho; cases ho
        rw [upd_q hne] at ho
        have := h o ho
        rw [setK_eq] at *
        exact ⟨_, by rw [upd_q (Ne.symm hne)]; exact hq, updc _ _ (Ne.symm hne), this⟩
theorem fieldK_mono {d : Option Tmp} {off : Nat} {l : Loc} {A B : List V → Prop} (h : fieldK g env d off l A) (hk : ∀ e, A e → B e) : fieldK g env d off l B := by
  unfold fieldK at *
  split at h
  · exact bnd_mono h fun _ _ h => putK_mono h hk
  · split at h
    · exact hk _ h
    · split at h
      · exact h.elim
      · split at h
        · rw [setK_eq] at *; exact hk _ h
        · exact h.elim
theorem appendK_frame {sz by_ : Nat} {s : V} {xs : List (List V)} {K : V → Heap → Prop} (hq : H q = none) (h : appendK H sz by_ s xs K) : appendK (upd H q ob) sz by_ s xs (Fr q ob K) := by
  have fr : ∀ {o : Nat}, (upd H q ob) o = none → o ≠ q ∧ H o = none := fun {o} ho => by
    have hne : o ≠ q := by rintro rfl; unfold upd at ho; rw [if_pos rfl] at ho; cases ho
    exact ⟨hne, by rwa [upd_q hne] at ho⟩
  unfold appendK at *
  split at h
  · refine ⟨fun e => ⟨H, hq, rfl, h.1 e⟩, fun e => ⟨(h.2 e).1, fun o ho => ?_⟩⟩
    obtain ⟨hne, ho'⟩ := fr ho
    exact ⟨_, by rw [upd_q (Ne.symm hne)]; exact hq, updc _ _ (Ne.symm hne), (h.2 e).2 o ho'⟩
  · rename_i o st n cap
    split at h
    · exact h.elim
    · rename_i x hx
      have hne := ne_q hq hx
      simp only [upd_q hne, hx]
      obtain ⟨h1, h2, h3, h4⟩ := h
      refine ⟨h1, h2, fun e => ⟨H, hq, rfl, h3 e⟩, fun e => ⟨(h4 e).1, ?_⟩⟩
      have h5 := (h4 e).2
      split at h5
      · refine ⟨h5.1, fun o' ho' => ?_⟩
        obtain ⟨hne', ho''⟩ := fr ho'
        refine ⟨_, ?_, ?_, h5.2 o' ho''⟩
        · rw [upd_q (Ne.symm hne')]
          simp only [del]
          rw [if_neg (Ne.symm hne)]; exact hq
        · rw [updc (H := del H o) _ _ hne']
          congr 1
          funext i
          simp only [del, upd]
          by_cases e1 : i = q
          · subst e1; simp [Ne.symm hne]
          · simp [e1]
      · refine ⟨fun hh => ⟨(h5.1 hh).1, _, ?_, ?_, (h5.1 hh).2⟩, fun hh o' ho' => ?_⟩
        · rw [upd_q (Ne.symm hne)]; exact hq
        · rw [updc _ _ (Ne.symm hne)]
        · obtain ⟨hne', ho''⟩ := fr ho'
          exact ⟨_, by rw [upd_q (Ne.symm hne')]; exact hq, updc _ _ (Ne.symm hne'), h5.2 hh o' ho''⟩
  · exact h.elim
theorem copyK_frame {sz : Nat} {d : V} {xs : List (List V)} {K : V → Heap → Prop} (hq : H q = none) (h : copyK H sz d xs K) : copyK (upd H q ob) sz d xs (Fr q ob K) := by
  unfold copyK at *
  split at h
  · exact ⟨H, hq, rfl, h⟩
  · split at h
    · exact h.elim
    · rename_i x hx
      have hne := ne_q hq hx
      simp only [upd_q hne, hx]
      exact ⟨h.1, h.2.1, _, by rw [upd_q (Ne.symm hne)]; exact hq, by rw [updc _ _ (Ne.symm hne)], h.2.2⟩
  · exact h.elim
theorem clearK_frame {sz : Nat} {z : List V} {d : V} {K : V → Heap → Prop} (hq : H q = none) (h : clearK H sz z d K) : clearK (upd H q ob) sz z d (Fr q ob K) := by
  unfold clearK at *
  split at h
  · exact ⟨H, hq, rfl, h⟩
  · split at h
    · exact h.elim
    · rename_i x hx
      have hne := ne_q hq hx
      simp only [upd_q hne, hx]
      exact ⟨h.1, h.2.1, h.2.2.1, _, by rw [upd_q (Ne.symm hne)]; exact hq, by rw [updc _ _ (Ne.symm hne)], h.2.2.2⟩
  · exact h.elim
theorem rowsOf_up {sz : Nat} {x : V} {r : List (List V)} (h : rowsOf H sz x = some r) (hq : H q = none) : rowsOf (upd H q ob) sz x = some r := by
  unfold rowsOf at *
  split at h
  · split at h
    · rename_i x hx
      simp only [upd_q (ne_q hq hx), hx]; exact h
    · cases h
  · exact h
  · cases h
theorem growZ_frame {sz by_ : Nat} {z : List V} {s x : V} {K : V → Heap → Prop} (hq : H q = none) (h : growZ H sz by_ z s x K) : growZ (upd H q ob) sz by_ z s x (Fr q ob K) := by
  unfold growZ at *
  split at h
  · split at h
    · exact h.elim
    · rename_i x hx
      have hne := ne_q hq hx
      simp only [upd_q hne, hx]
      obtain ⟨h1, h2, h3, h4, h5, h6, h7⟩ := h
      refine ⟨h1, h2, h3, h4, h5, h6, fun o ho => ?_⟩
      have hne : o ≠ q := by rintro rfl; unfold upd at ho; rw [if_pos rfl] at ho; cases ho
      have ho' : H o = none := by rwa [upd_q hne] at ho
      exact ⟨_, by rw [upd_q (Ne.symm hne)]; exact hq, updc _ _ (Ne.symm hne), h7 o ho'⟩
  · exact h.elim
theorem builtinK_frame {b : Builtin} {tys : List TypeId} {args : List V} {K : V → Heap → Prop} (hq : H q = none) (h : builtinK P H b tys args K) : builtinK P (upd H q ob) b tys args (Fr q ob K) := by
  unfold builtinK at *
  split at h
  · exact bnd_mono h fun _ _ h => bnd_mono h fun _ _ h => ⟨H, hq, rfl, h⟩
  · refine bnd_mono h fun _ _ h => ?_
    unfold capK at *
    split at h
    · exact fun c hc => ⟨H, hq, rfl, h c hc⟩
    · exact ⟨H, hq, rfl, h⟩
    · exact ⟨H, hq, rfl, h⟩
    · exact h.elim
  · split at h
    · rename_i e; rw [if_pos e]
      refine bnd_mono h fun _ _ h => bnd_mono h fun _ _ h => bnd_mono h fun _ _ h => bnd_mono h fun _ _ h => ?_
      split at h
      · rename_i e; rw [if_pos e]
        obtain ⟨r, hr, h⟩ := bnd_elim h
        rw [rowsOf_up hr hq]
        exact appendK_frame hq h
      · exact h.elim
    · rename_i e; rw [if_neg e]
      refine bnd_mono h fun _ _ h => bnd_mono h fun _ _ h => bnd_mono h fun _ _ h => bnd_mono h fun _ _ h => ?_
      split at h
      · rename_i e; rw [if_pos e]; exact growZ_frame hq h
      · exact h.elim
  · refine bnd_mono h fun _ _ h => bnd_mono h fun _ _ h => ?_
    obtain ⟨r, hr, h⟩ := bnd_elim h
    rw [rowsOf_up hr hq]
    exact copyK_frame hq h
  · exact bnd_mono h fun _ _ h => bnd_mono h fun _ _ h => bnd_mono h fun _ _ h => clearK_frame hq h
  · exact bnd_mono h fun _ _ h => ⟨H, hq, rfl, h⟩
  · exact bnd_mono h fun _ _ h => ⟨H, hq, rfl, h⟩
  · exact h.elim
theorem opK_frame {o : Oper} {K : List V → Heap → Prop} (hq : H q = none) (h : opK P g o env H K) : opK P g o env (upd H q ob) (Fr q ob K) := by
  have hs : Abs.sub H (upd H q ob) := sub_q hq
  have hput : ∀ {v : V}, putK g env o.dst v (fun env' => K env' H) → putK g env o.dst v (fun env' => Fr q ob K env' (upd H q ob)) := fun h => putK_mono h fun e h => ⟨H, hq, rfl, h⟩
  have hnew : ∀ {v : Nat → V} {x : Ob}, (∀ o', H o' = none → putK g env o.dst (v o') (fun env' => K env' (upd H o' x))) → ∀ o', (upd H q ob) o' = none → putK g env o.dst (v o') (fun env' => Fr q ob K env' (upd (upd H q ob) o' x)) := fun h o' ho => by
    have hne : o' ≠ q := by rintro rfl; unfold upd at ho; rw [if_pos rfl] at ho; cases ho
    rw [upd_q hne] at ho
    exact putK_mono (h o' ho) fun e h => ⟨_, by rw [upd_q (Ne.symm hne)]; exact hq, updc _ _ (Ne.symm hne), h⟩
  unfold opK at *
  split at h
  · exact bnd_mono h fun _ _ h => hput h
  · exact bnd_mono h fun _ _ h => hput h
  · exact bnd_mono h fun _ _ h => bnd_mono h fun _ _ h => bnd_mono h fun _ _ h => bnd_mono h fun _ _ h => hput h
  · exact bnd_mono h fun _ _ h => newBox_frame hq h
  · exact bnd_mono h fun _ _ h => ⟨h.1, newBox_frame hq h.2⟩
  · refine bnd_mono h fun _ _ h => bnd_mono h fun _ _ h => ?_
    split at h
    · exact bnd_mono h fun _ _ h => hput h
    · exact h.elim
  · exact bnd_mono h fun _ _ h => bnd_mono h fun _ _ h => bnd_mono h fun _ _ h => bnd_mono h fun _ _ h => bnd_mono h fun _ _ h => hnew (v := fun o' => .slice o' 0 _ (some _)) h
  · refine bnd_mono h fun _ _ h => ?_
    obtain ⟨v, hv, h⟩ := bnd_elim h
    rw [aLoadL_up hv hs]
    exact hput h
  · split at h
    · refine bnd_mono h fun l _ h => bnd_mono h fun _ _ h => ?_
      cases l with
      | heap p =>
        obtain ⟨H', hv, h⟩ := bnd_elim h
        unfold aStore at hv
        split at hv
        · rename_i sz hsz
          obtain ⟨g1, g2⟩ := aSt_frame (ob := ob) hq hv
          show bnd (aStore P (upd H q ob) _ p _) _
          unfold aStore
          simp only [hsz, g2]
          exact ⟨H', g1, rfl, h⟩
        · cases hv
      | here s c cs =>
        refine bnd_mono h fun cs' _ h => ?_
        rw [setK_eq] at *
        exact ⟨H, hq, rfl, h⟩
    · exact h.elim
  · exact bnd_mono h fun _ _ h => bnd_mono h fun _ _ h => fieldK_mono h fun env' h => ⟨H, hq, rfl, h⟩
  · exact bnd_mono h fun _ _ h => bnd_mono h fun _ _ h => bnd_mono h fun _ _ h => bnd_mono h fun _ _ h => hput h
  · refine bnd_mono h fun _ _ h => bnd_mono h fun _ _ h => bnd_mono h fun _ _ h => bnd_mono h fun _ _ h => ?_
    obtain ⟨v, hv, h⟩ := bnd_elim h
    rw [aIndex_up hv hs]
    exact hput h
  · refine bnd_mono h fun _ _ h => bnd_mono h fun _ _ h => bnd_mono h fun _ _ h => bnd_mono h fun _ _ h => bnd_mono h fun _ _ h => bnd_mono h fun _ _ h => ?_
    obtain ⟨v, hv, h⟩ := bnd_elim h
    rw [aSlice_up hv hs]
    exact hput h
  · exact bnd_mono h fun _ _ h => bnd_mono h fun _ _ h => bnd_mono h fun _ _ h => bnd_mono h fun _ _ h => bnd_mono h fun _ _ h => bnd_mono h fun _ _ h => bnd_mono h fun _ _ h => bnd_mono h fun _ _ h => ⟨h.1, hnew (v := fun o' => .slice o' 0 _ (some _)) h.2⟩
  · exact bnd_mono h fun _ _ h => bnd_mono h fun _ _ h => bnd_mono h fun _ _ h => hput h
  · exact bnd_mono h fun _ _ h => bnd_mono h fun _ _ h => hput h
  · exact bnd_mono h fun _ _ h => bnd_mono h fun _ _ h => hput h
  · exact bnd_mono h fun _ _ h => bnd_mono h fun _ _ h => hput h
  · exact bnd_mono h fun _ _ h => bnd_mono h fun _ _ h => hput h
  · exact bnd_mono h fun _ _ h => bnd_mono h fun _ _ h => hput h
  · split at h
    · exact bnd_mono h fun _ _ h => hput h
    · exact h.elim
  · have hputF : ∀ v H', putK g env o.dst v (fun env' => K env' H') → True := fun _ _ _ => trivial
    split at h
    · refine bnd_mono h fun _ _ h => bnd_mono h fun _ _ h => ?_
      unfold callK at *
      split at h
      · split at h
        · refine (h.frame hq).mono fun v H'' hh => ?_
          obtain ⟨H', a, b, c⟩ := hh
          exact putK_mono c fun e h => ⟨H', a, b, h⟩
        · split at h
          · obtain ⟨h0, o1, s1, n1, c1, o2, s2, n2, c2, h1, h2, ⟨x, h3⟩, ⟨y, h4, h5⟩, h6⟩ := h
            exact ⟨h0, o1, s1, n1, c1, o2, s2, n2, c2, h1, h2, ⟨x, sub_q hq _ _ h3⟩, ⟨y, sub_q hq _ _ h4, h5⟩, putK_mono h6 fun e h => ⟨H, hq, rfl, h⟩⟩
          · exact h.elim
      · exact h.elim
    · refine bnd_mono h fun _ _ h => ?_
      refine builtinK_mono (builtinK_frame hq h) fun v H'' hh => ?_
      obtain ⟨H', a, b, c⟩ := hh
      exact putK_mono c fun e h => ⟨H', a, b, h⟩
    · exact h.elim
  · exact h.elim
end

end
end Go.Abs
/-
The abstract layer, part S: a region whose order is left open, over the model.
-/
namespace Go.Abs
open Go.RowKit (Below)

section
variable {P : Program} {g : Cfg} {HS H : Heap} {env env' : List V} {ops : List Oper}

theorem set_back {v : V} {t : Nat} (h : env[t]? = some v) : env.set t v = env := by
  obtain ⟨hlt, he⟩ := List.getElem?_eq_some_iff.1 h
  rw [← he]; exact List.set_getElem_self hlt
/-- A guard: its slot holds a Boolean, or, passed over itself, nothing. -/
theorem guardK_elim {j : Nat} {want : Bool} {A B : List V → Prop} (h : guardK ops env j want A B) :
    ∃ o' t v, ops[j]? = some o' ∧ o'.dst = some t ∧ env[t]? = some v ∧ ((∃ b, v = .bool b) ∨ (o'.guard.isSome = true ∧ v = .tup [])) ∧ (v = .bool want → A env) ∧ (v ≠ .bool want → B env) := by
  unfold guardK at h
  simp only [setK_eq] at h
  split at h
  case h_2 => exact h.elim
  rename_i o' ho'
  split at h
  case h_2 => exact h.elim
  rename_i t ht
  split at h
  case h_2 => exact h.elim
  rename_i v hv0
  have two : ∀ b, v = .bool b → gd (.bool b) want (A (env.set t (.bool want))) (B (env.set t (.bool (!want)))) → (v = .bool want → A env) ∧ (v ≠ .bool want → B env) := by
    clear h
    intro b hb h
    subst hb
    have hset := set_back hv0
    cases b <;> cases want <;> simp only [gd, gb, Bool.not_true, Bool.not_false] at h <;> rw [hset] at h <;> simp [h]
  split at h
  · have h' := h
    unfold gd at h
    split at h
    case h_2 => exact h.elim
    exact ⟨o', t, _, ho', ht, hv0, .inl ⟨_, rfl⟩, two _ rfl h'⟩
  · rename_i hg
    have h' := h
    unfold gd3 at h
    split at h
    · exact ⟨o', t, _, ho', ht, hv0, .inl ⟨_, rfl⟩, two _ rfl h'⟩
    · rw [set_back hv0] at h
      exact ⟨o', t, _, ho', ht, hv0, .inr ⟨hg, rfl⟩, ⟨fun e => (by cases e), fun _ => h⟩⟩
    · exact h.elim
theorem guardK_intro {j : Nat} {want : Bool} {A B : List V → Prop} {o' : Oper} {t : Tmp} {v : V} (h1 : ops[j]? = some o') (h2 : o'.dst = some t) (h3 : env[t]? = some v) (hv : (∃ b, v = .bool b) ∨ (o'.guard.isSome = true ∧ v = .tup []))
    (h4 : v = .bool want → A env) (h5 : v ≠ .bool want → B env) : guardK ops env j want A B := by
  unfold guardK
  simp only [h1, h2, h3, setK_eq]
  have hset := set_back h3
  rcases hv with ⟨b, rfl⟩ | ⟨hg, rfl⟩
  · have two : gd (.bool b) want (A (env.set t (.bool want))) (B (env.set t (.bool (!want)))) := by
      cases b <;> cases want <;> simp only [gd, gb, Bool.not_true, Bool.not_false] <;> rw [hset] <;> first | exact h4 rfl | exact h5 (by simp)
    split
    · exact two
    · exact two
  · rw [hg]
    simp only [gd3]
    rw [hset]
    exact h5 (by simp)

theorem opD_lift {o : Oper} {K K' : List V → Heap → Prop} (h : opD P g HS o env H K) (hs : Abs.sub HS H) (hk : ∀ e h, Abs.sub HS h → K e h → K' e h) : opD P g HS o env H K' := by
  unfold opD at *
  split at h
  · exact opK_lift h fun e _ _ h => hk e H hs h
  · exact opK_lift h fun e h' _ h => ⟨h.1, hk e h' h.1 h.2⟩
theorem stepD_lift {o : Oper} {K K' : List V → Heap → Prop} (h : stepD P g HS ops o env H K) (hs : Abs.sub HS H) (hk : ∀ e h, Abs.sub HS h → K e h → K' e h) : stepD P g HS ops o env H K' := by
  unfold stepD at *
  split at h
  · exact opD_lift h hs hk
  · obtain ⟨o', t, b, h1, h2, h3, hv, h4, h5⟩ := guardK_elim h
    exact guardK_intro h1 h2 h3 hv (fun e => opD_lift (h4 e) hs hk) (fun e => hk _ _ hs (h5 e))

theorem opD_rel {o : Oper} {K : List V → Heap → Prop} (hlen : env.length = env'.length) (hsm : Same g (opnds o.op) env env') (h : opD P g HS o env H K) : opD P g HS o env' H (Post g o env env' K) := by
  unfold opD at *
  split at h
  · exact opK_lift (opK_rel hlen hsm h) fun e _ _ ⟨e0, q0, q⟩ => ⟨e0, q0, q⟩
  · exact opK_lift (opK_rel hlen hsm h) fun e _ _ ⟨e0, q0, q⟩ => ⟨q0.1, e0, q0.2, q⟩

theorem skip_get (e : List V) (d : Option Tmp) {s : Nat} (h : s ∉ dstL d) : (skipDst g e d)[s]? = e[s]? := by
  cases d with
  | none => rfl
  | some d =>
    have : d ≠ s := by rintro rfl; exact h (by simp [dstL])
    simp only [skipDst]
    cases g.loc d <;> simp [this]
theorem skip_same {e e' : List V} (d : Option Tmp) (hl : e.length = e'.length) {s : Nat} (h : s ∈ dstL d) : (skipDst g e d)[s]? = (skipDst g e' d)[s]? := by
  cases d with
  | none => simp [dstL] at h
  | some d =>
    have : s = d := by simpa [dstL] using h
    subst this
    simp only [skipDst]
    cases g.loc s <;> exact set_same _ _ hl
theorem skip_len (e : List V) (d : Option Tmp) : (skipDst g e d).length = e.length := by
  cases d with
  | none => rfl
  | some d => simp only [skipDst]; cases g.loc d <;> simp
theorem dst_wrs {o : Oper} {s : Nat} (h : s ∈ dstL o.dst) : s ∈ wrs g o := List.mem_append_left _ h
theorem skip_agree {o : Oper} (e : List V) : agree (wrs g o) e (skipDst g e o.dst) := ⟨(skip_len _ _).symm, fun s hs => (skip_get e o.dst fun h => hs (dst_wrs h)).symm⟩
theorem okG_spec {o : Oper} (h : okG g o = true) (hg : o.guard ≠ none) {s : Nat} (hs : s ∈ wrs g o) (hd : s ∉ dstL o.dst) : s ∈ rds g o := by
  unfold okG at h
  cases ho : o.guard with
  | none => exact absurd ho hg
  | some x =>
    rw [ho] at h
    simp only [Option.isNone_some, Bool.false_or, List.all_eq_true] at h
    have := h s hs
    simp only [Bool.or_eq_true, List.contains_iff_mem] at this
    exact this.resolve_left hd

theorem gslot_mem {o o' : Oper} {j : Nat} {want : Bool} {t : Tmp} (hg : o.guard = some (j, want)) (h1 : ops[j]? = some o') (h2 : o'.dst = some t) : t ∈ gslot ops o := by
  unfold gslot; rw [hg]; simp only [h1, h2]; simp [dstL]

theorem stepD_rel {o : Oper} {K : List V → Heap → Prop} (hG : okG g o = true) (hlen : env.length = env'.length) (hr : ∀ s, s ∈ rds g o → env[s]? = env'[s]?) (hgs : ∀ s, s ∈ gslot ops o → env[s]? = env'[s]?)
    (h : stepD P g HS ops o env H K) : stepD P g HS ops o env' H (Post g o env env' K) := by
  unfold stepD at *
  split at h
  · exact opD_rel hlen (Same.of_rds hr) h
  · rename_i j want hg
    obtain ⟨o', t, b, h1, h2, h3, hv, h4, h5⟩ := guardK_elim h
    refine guardK_intro h1 h2 (by rw [← hgs t (gslot_mem hg h1 h2)]; exact h3) hv (fun e => opD_rel hlen (Same.of_rds hr) (h4 e)) fun e => ?_
    refine ⟨_, h5 e, by rw [skip_len, skip_len, hlen], skip_agree _, skip_agree _, fun s hs => ?_⟩
    by_cases hd : s ∈ dstL o.dst
    · exact skip_same _ hlen hd
    · rw [skip_get _ _ hd, skip_get _ _ hd]
      exact hr s (okG_spec hG (by rw [hg]; simp) hs hd)

/-- A pure step: one outcome, carried over. -/
theorem stepD_fun {o : Oper} {K : List V → Heap → Prop} (hE : isE g o = true) (hG : okG g o = true) (h : stepD P g HS ops o env H K) :
    ∃ e, K e H ∧ e.length = env.length ∧ agree (wrs g o) env e ∧ ∀ env', env.length = env'.length → (∀ s, s ∈ rds g o → env[s]? = env'[s]?) → (∀ s, s ∈ gslot ops o → env[s]? = env'[s]?) →
      ∀ (H2 : Heap) (K' : List V → Heap → Prop), (∀ e', e'.length = env'.length → (∀ s, s ∈ wrs g o → e[s]? = e'[s]?) → (∀ s, s ∉ wrs g o → env'[s]? = e'[s]?) → K' e' H2) → stepD P g HS ops o env' H2 K' := by
  have main : opD P g HS o env H K → ∃ e, K e H ∧ e.length = env.length ∧ agree (wrs g o) env e ∧ ∀ env', env.length = env'.length → (∀ s, s ∈ rds g o → env[s]? = env'[s]?) →
      ∀ (H2 : Heap) (K' : List V → Heap → Prop), (∀ e', e'.length = env'.length → (∀ s, s ∈ wrs g o → e[s]? = e'[s]?) → (∀ s, s ∉ wrs g o → env'[s]? = e'[s]?) → K' e' H2) → opD P g HS o env' H2 K' := by
    intro h
    unfold opD at h
    rw [hE] at h
    simp only at h
    obtain ⟨e, he, hup⟩ := E_fun hE h
    have hdet : opK P g o env HS fun e' _ => e' = e := hup HS (fun _ _ h => h) _ rfl
    obtain ⟨e2, ⟨e3, q1, q2, q3, q4, q5⟩, _⟩ := E_fun hE (opK_rel rfl (Same.of_rds fun s _ => rfl) hdet)
    subst q1
    refine ⟨e3, he, q3.1.symm, q3, fun env' hlen hr H2 K' hk => ?_⟩
    unfold opD
    rw [hE]
    refine opK_lift (opK_rel hlen (Same.of_rds hr) hdet) fun e' _ _ ⟨e4, r1, r2, r3, r4, r5⟩ => ?_
    subst r1
    exact hk e' (by rw [← r4.1]) r5 r4.2
  unfold stepD at h
  split at h
  · rename_i hg
    obtain ⟨e, h1, h2, h3, h4⟩ := main h
    refine ⟨e, h1, h2, h3, fun env' hlen hr _ H2 K' hk => ?_⟩
    unfold stepD; rw [hg]; exact h4 env' hlen hr H2 K' hk
  · rename_i j want hg
    obtain ⟨o', t, b, h1, h2, h3, hv, h4, h5⟩ := guardK_elim h
    by_cases hb : b = .bool want
    · obtain ⟨e, q1, q2, q3, q4⟩ := main (h4 hb)
      refine ⟨e, q1, q2, q3, fun env' hlen hr hgs H2 K' hk => ?_⟩
      unfold stepD; rw [hg]
      exact guardK_intro h1 h2 (by rw [← hgs t (gslot_mem hg h1 h2)]; exact h3) hv (fun _ => q4 env' hlen hr H2 K' hk) (fun e => absurd hb e)
    · refine ⟨_, h5 hb, skip_len _ _, skip_agree _, fun env' hlen hr hgs H2 K' hk => ?_⟩
      unfold stepD; rw [hg]
      refine guardK_intro h1 h2 (by rw [← hgs t (gslot_mem hg h1 h2)]; exact h3) hv (fun e => absurd e hb) fun _ => hk _ (skip_len _ _) (fun s hs => ?_) (fun s hs => (skip_agree (g := g) (o := o) env').2 s hs)
      by_cases hd : s ∈ dstL o.dst
      · exact skip_same _ hlen hd
      · rw [skip_get _ _ hd, skip_get _ _ hd]
        exact hr s (okG_spec hG (by rw [hg]; simp) hs hd)

theorem noneIn_spec {a b : List Nat} (h : noneIn a b = true) {s : Nat} (hs : s ∈ a) : s ∉ b := by
  unfold noneIn at h
  have := List.all_eq_true.1 h s hs
  simpa using this

theorem swap {x y : Oper} {K : List V → Heap → Prop} (hok : swapOk g ops x y = true) (gx : okG g x = true) (gy : okG g y = true) (hs : Abs.sub HS H) (h : stepD P g HS ops x env H fun e h => stepD P g HS ops y e h K) :
    stepD P g HS ops y env H fun e h => stepD P g HS ops x e h K := by
  unfold swapOk at hok
  simp only [Bool.and_eq_true] at hok
  obtain ⟨⟨⟨⟨⟨hE, n1⟩, n2⟩, n3⟩, n4⟩, n5⟩ := hok
  obtain ⟨e1, h1, hl, ha, hf⟩ := stepD_fun hE gx h
  have hy := stepD_rel (env' := env) gy hl (fun s hs => ((ha.2 s fun hw => noneIn_spec n1 hw hs)).symm) (fun s hs => ((ha.2 s fun hw => noneIn_spec n2 hw hs)).symm) h1
  refine stepD_lift hy hs fun e' h' _ ⟨e2, q1, q2, q3, q4, q5⟩ => ?_
  refine hf e' q4.1 (fun s hs => q4.2 s fun hw => noneIn_spec n4 hw hs) (fun s hs => q4.2 s fun hw => noneIn_spec n5 hw hs) h' K fun e'' r1 r2 r3 => ?_
  have : e'' = e2 := by
    apply List.ext_getElem?
    intro s
    by_cases hx : s ∈ wrs g x
    · rw [← r2 s hx]
      exact q3.2 s fun hw => noneIn_spec n3 hx hw
    · rw [← r3 s hx]
      by_cases hyw : s ∈ wrs g y
      · exact (q5 s hyw).symm
      · rw [← q4.2 s hyw, ha.2 s hx, q3.2 s hyw]
  rw [this]; exact q1

theorem ev_nil {x : Operand} {v : V} (h : ev g [] x = some v) : ev g env x = some v := by
  unfold ev at *
  split at h
  · split at h
    · cases h
    · simp at h
  · exact h
  · exact h
  · cases h
theorem evp_nil : ∀ {xs : List (Nat × Operand)} {ps : List (Nat × V)}, evp g [] xs = some ps → evp g env xs = some ps
  | [], ps, h => h
  | (i, x) :: xs, ps, h => by
    unfold evp at h ⊢
    split at h
    · rename_i v vs h1 h2
      rw [ev_nil h1, evp_nil h2]; exact h
    · cases h
/-- A new object, wherever it is made. -/
theorem opK_A {y : Oper} {ob : Ob} {b : Bool} {n d : Nat} (h : obA P g y = some (ob, b, n, d)) (K : List V → Heap → Prop) : y.dst = some d ∧ g.loc d = false ∧ (opK P g y env H K ↔ ∀ q, H q = none → K (env.set d (mkA b n q)) (upd H q ob)) := by
  unfold obA at h
  split at h
  case h_2 => cases h
  rename_i d' hd
  split at h
  case h_1 => cases h
  rename_i hloc
  have hL : g.L.contains d' = false ∧ g.R.contains d' = false := by
    unfold Cfg.loc at hloc
    simpa using hloc
  split at h
  case h_3 => cases h
  · rename_i t ho
    split at h
    case h_2 => cases h
    rename_i z hz
    cases h
    refine ⟨hd, hloc, ?_⟩
    unfold opK
    simp only [ho, hz, bnd_some, hd, newBox, hL.1, hL.2, setK_eq, mkA]
  · rename_i t len parts ho
    split at h
    case h_2 => cases h
    rename_i ps hps
    split at h
    case h_2 => cases h
    rename_i e he
    split at h
    case h_2 => cases h
    rename_i sz hsz
    split at h
    case h_2 => cases h
    rename_i z hz
    split at h
    case h_2 => cases h
    rename_i rows hrows
    cases h
    refine ⟨hd, hloc, ?_⟩
    unfold opK
    simp only [ho, evp_nil hps, he, hsz, hz, hrows, bnd_some, hd, putK, hloc, setK_eq, mkA]
theorem isE0_alloc {y : Oper} {r : Ob × Bool × Nat × Nat} (h : obA P g y = some r) : isE0 g y = false := by
  obtain ⟨ob, b, n, d⟩ := r
  unfold obA at h
  split at h
  case h_2 => cases h
  rename_i d' hd
  split at h
  case h_1 => cases h
  rename_i hloc
  have hL : g.L.contains d' = false := by
    unfold Cfg.loc at hloc
    simp at hloc
    simpa using hloc.1
  split at h
  case h_3 => cases h
  · rename_i t ho
    unfold isE0 isE
    simp only [ho, hd, hL, Bool.false_and]
  · rename_i t len parts ho
    unfold isE0 isE
    simp only [ho, Bool.false_and]

theorem isE_A {y : Oper} {r : Ob × Bool × Nat × Nat} (h : obA P g y = some r) : isE g y = false := by
  obtain ⟨ob, b, n, d⟩ := r
  unfold obA at h
  split at h
  case h_2 => cases h
  rename_i d' hd
  split at h
  case h_1 => cases h
  rename_i hloc
  have hL : g.L.contains d' = false := by
    unfold Cfg.loc at hloc
    simp at hloc
    simpa using hloc.1
  split at h
  case h_3 => cases h
  · rename_i t ho
    unfold isE
    simp only [ho, hd, hL]
  · rename_i t len parts ho
    unfold isE
    simp only [ho]
theorem opD_frame {x : Oper} {K : List V → Heap → Prop} {q : Nat} {ob : Ob} (hq : H q = none) (h : opD P g HS x env H K) : opD P g HS x env (upd H q ob) (Fr q ob K) := by
  unfold opD at *
  split at h
  · exact opK_lift h fun e _ _ h => ⟨H, hq, rfl, h⟩
  · exact opK_lift (opK_frame hq h) fun e H'' _ hh => by
      obtain ⟨H', a, rfl, c, d⟩ := hh
      exact ⟨fun i x hi => sub_q a _ _ (c _ _ hi), H', a, rfl, d⟩
theorem stepD_frame {x : Oper} {K : List V → Heap → Prop} {q : Nat} {ob : Ob} (hq : H q = none) (h : stepD P g HS ops x env H K) : stepD P g HS ops x env (upd H q ob) (Fr q ob K) := by
  unfold stepD at *
  split at h
  · exact opD_frame hq h
  · obtain ⟨o', t, b, h1, h2, h3, hv, h4, h5⟩ := guardK_elim h
    exact guardK_intro h1 h2 h3 hv (fun e => opD_frame hq (h4 e)) (fun e => ⟨H, hq, rfl, h5 e⟩)
theorem swapDa {x y : Oper} {K : List V → Heap → Prop} (hy : isA0 P g y = true) (hok : swapA g ops x y = true) (gx : okG g x = true) (hs : Abs.sub HS H) (h : stepD P g HS ops x env H fun e h => stepD P g HS ops y e h K) :
    stepD P g HS ops y env H fun e h => stepD P g HS ops x e h K := by
  unfold isA0 at hy
  simp only [Bool.and_eq_true] at hy
  obtain ⟨hguard, hsome⟩ := hy
  have hg : y.guard = none := by simpa using hguard
  obtain ⟨⟨ob, b, n, d⟩, hob⟩ := Option.isSome_iff_exists.1 hsome
  have h0 := isE_A hob
  have shape : ∀ (env : List V) (H : Heap) (K : List V → Heap → Prop), stepD P g HS ops y env H K ↔ ∀ q, H q = none → Abs.sub HS (upd H q ob) ∧ K (env.set d (mkA b n q)) (upd H q ob) := fun env H K => by
    unfold stepD opD
    rw [hg, h0]
    exact (opK_A hob _).2.2
  have hd : y.dst = some d := (opK_A (env := env) (H := H) hob K).1
  have hdw : d ∈ wrs g y := dst_wrs (by rw [hd]; simp [dstL])
  unfold swapA at hok
  simp only [Bool.and_eq_true] at hok
  obtain ⟨⟨⟨n1, n2⟩, n3⟩, n4⟩ := hok
  rw [shape]
  intro q hq
  refine ⟨fun i x hi => sub_q hq _ _ (hs _ _ hi), ?_⟩
  have hxr := stepD_rel (env' := env.set d (mkA b n q)) gx (by simp) (fun s hs => by
      have : d ≠ s := by rintro rfl; exact noneIn_spec n3 hdw hs
      rw [List.getElem?_set_ne this]) (fun s hs => by
      have : d ≠ s := by rintro rfl; exact noneIn_spec n4 hdw hs
      rw [List.getElem?_set_ne this]) (stepD_frame (ob := ob) hq h)
  refine stepD_lift hxr (fun i x hi => sub_q hq _ _ (hs _ _ hi)) fun e' H' _ hp => ?_
  obtain ⟨e0, ⟨H1, a1, rfl, a3⟩, p1, p2, p3, p4⟩ := hp
  rw [shape] at a3
  have hk := (a3 q a1).2
  have hdx : d ∉ wrs g x := fun hm => noneIn_spec n2 hm hdw
  have : e0.set d (mkA b n q) = e' := by
    apply List.ext_getElem?
    intro s
    by_cases hs : s = d
    · subst hs
      have := p3.2 s hdx
      rw [← this]
      by_cases hl : s < env.length
      · rw [List.getElem?_set_self (by rw [← p2.1]; exact hl), List.getElem?_set_self hl]
      · rw [List.getElem?_eq_none (by simp; rw [← p2.1]; omega), List.getElem?_eq_none (by simp; omega)]
    · rw [List.getElem?_set_ne (Ne.symm hs)]
      by_cases hx : s ∈ wrs g x
      · exact p4 s hx
      · rw [← p2.2 s hx, ← p3.2 s hx, List.getElem?_set_ne (Ne.symm hs)]
  rw [← this]; exact hk
theorem swapDs {x y : Oper} {K : List V → Heap → Prop} (hok : swapD P g ops x y = true) (gx : okG g x = true) (gy : okG g y = true) (hs : Abs.sub HS H) (h : stepD P g HS ops x env H fun e h => stepD P g HS ops y e h K) :
    stepD P g HS ops y env H fun e h => stepD P g HS ops x e h K := by
  unfold swapD at hok
  rw [Bool.or_eq_true] at hok
  rcases hok with hok | hok
  · exact swap hok gx gy hs h
  · rw [Bool.and_eq_true] at hok
    exact swapDa hok.1 hok.2 gx hs h

/-- What stands ahead may wait. -/
theorem bubble {i : Nat} {oi : Oper} {l2 : List Nat} {K : List V → Heap → Prop} (hi : ops[i]? = some oi) (gi : okG g oi = true) : ∀ {l1 : List Nat} {env : List V} {H : Heap}, (∀ x, x ∈ l1 → ∃ ox, ops[x]? = some ox ∧ swapD P g ops ox oi = true ∧ okG g ox = true) →
    Abs.sub HS H → seqD P g HS ops (l1 ++ i :: l2) env H K → stepD P g HS ops oi env H fun e h => seqD P g HS ops (l1 ++ l2) e h K
  | [], env, H, _, hs, h => by
    simp only [List.nil_append, seqD, hi] at h ⊢
    exact h
  | x :: l1, env, H, hx, hs, h => by
    obtain ⟨ox, h1, h2, h3⟩ := hx x List.mem_cons_self
    simp only [List.cons_append, seqD, h1] at h ⊢
    exact swapDs h2 h3 gi hs (stepD_lift h hs fun e h hs' hk => bubble hi gi (fun x hm => hx x (List.mem_cons_of_mem _ hm)) hs' hk)

end

section
variable {P : Program} {g : Cfg} {w0 : World} {base : Nat} {F : Heap} {ι : Nat → Option Place} {β : Nat → Option Nat} {G : Heap} {env : List V} {H HS : Heap} {a : Act} {w : World}

theorem guard_sound (hs : St g w0 base F ι β G env H a w) {ops : Array Oper} {o : Oper} {j : Nat} {want : Bool} (hg : o.guard = some (j, want)) {A B : List V → Prop} (h : guardK ops.toList env j want A B) :
    (Region.wanted o (yielded ops a.tmps) = true ∧ A env) ∨ (Region.wanted o (yielded ops a.tmps) = false ∧ B env) := by
  obtain ⟨o', t, v, ho', ht, hv0, hv, h4, h5⟩ := guardK_elim h
  have hlt : t < a.tmps.size := by rw [← hs.len]; exact (List.getElem?_eq_some_iff.1 hv0).1
  have hrel := hs.slot t _ a.tmps[t] hv0 (by simp [hlt])
  have hpl : RelV w0 base ι v a.tmps[t] := by
    unfold SlotRel at hrel
    rcases hv with ⟨b, rfl⟩ | ⟨_, rfl⟩ <;>
    · split at hrel
      · rcases hrel with h | ⟨_, _, _, h, _⟩ <;> cases h
      · split at hrel
        · rcases hrel with h | ⟨_, _, _, _, h, _⟩ <;> cases h
        · exact hrel
  have ho2 : ops[j]? = some o' := by simpa using ho'
  have hy : yielded ops a.tmps j = (match a.tmps[t] with | .bool b => some b | _ => none) := by
    unfold yielded
    simp only [ho2, Option.bind_some, ht]
    simp [hlt]
    cases a.tmps[t] <;> rfl
  have hw : Region.wanted o (yielded ops a.tmps) = (yielded ops a.tmps j == some want) := by
    unfold Region.wanted; rw [hg]
  rcases hv with ⟨b, rfl⟩ | ⟨_, rfl⟩
  · have hcv : a.tmps[t] = .bool b := relV_bool hpl
    rw [hcv] at hy
    by_cases hb : b = want
    · subst hb; exact .inl ⟨by rw [hw, hy]; simp, h4 rfl⟩
    · exact .inr ⟨by rw [hw, hy]; simpa using hb, h5 (by intro e; cases e; exact hb rfl)⟩
  · obtain ⟨cvs, hcv, _⟩ := relL_of_tup hpl
    rw [hcv] at hy
    exact .inr ⟨by rw [hw, hy]; simp, h5 (by simp)⟩

theorem opD_up {o : Oper} {K : List V → Heap → Prop} (hs : Abs.sub HS H) (h : opD P g HS o env H K) : opK P g o env H fun e h => Abs.sub HS h ∧ K e h := by
  unfold opD at h
  split at h
  · rename_i hE
    obtain ⟨e, he, hup⟩ := E_fun hE h
    exact hup H hs _ ⟨hs, he⟩
  · exact h

theorem wpOp_sound {ops : Array Oper} {i : Nat} {o : Oper} {Q : Exit → Act → World → Prop} {next : Act → World → Prop} {K : List V → Heap → Prop} (hs : St g w0 base F ι β G env H a w) (hi : ops[i]? = some o) (hsub : Abs.sub HS H)
    (hn : Cont g w0 base F ι (fun e h => Abs.sub HS h ∧ K e h) next) (h : stepD P g HS ops.toList o env H K) : wpOp P ops Q i next a w := by
  unfold wpOp
  simp only [hi]
  unfold stepD at h
  split at h
  · rename_i hg
    rw [if_pos (by unfold Region.wanted; rw [hg])]
    exact .inl (opK_sound hs hn (opD_up hsub h))
  · rename_i j want hg
    rcases guard_sound hs hg h with ⟨h1, h2⟩ | ⟨h1, h2⟩
    · rw [if_pos h1]; exact .inl (opK_sound hs hn (opD_up hsub h2))
    · rw [if_neg (by rw [h1]; exact Bool.false_ne_true)]
      exact hn _ _ _ _ _ _ _ (ile.refl _) (skipDst_sound hs o.dst) ⟨hsub, h2⟩

theorem St.drawn (hs : St g w0 base F ι β G env H a w) (n : Nat) : St g w0 base F ι β G env H a { w with drawn := n } :=
  ⟨⟨hs.heap.obj, hs.heap.inj, ⟨hs.heap.low.os, hs.heap.low.tape, hs.heap.low.output, hs.heap.low.size, hs.heap.low.block⟩, hs.heap.base_le, hs.heap.fin⟩, hs.sub, hs.frm, hs.dis, hs.len, hs.slot, hs.binj, hs.bout, hs.bin, hs.nodef⟩

/-! #### the order -/

theorem depsOf_mem {o : Oper} {d : Nat} : d ∈ depsOf o ↔ ∃ e ∈ o.after, Region.binds .any e = true ∧ e.on = d := by
  unfold depsOf
  simp only [List.mem_map, List.mem_filter, Array.mem_toList_iff]
  constructor
  · rintro ⟨e, ⟨h1, h2⟩, h3⟩; exact ⟨e, h1, h2, h3⟩
  · rintro ⟨e, h1, h2, h3⟩; exact ⟨e, ⟨h1, h2⟩, h3⟩

/-- All that an entry waits for is listed. -/
def closed (ops : List Oper) (lst : Nat → Bool) : Prop := ∀ z o, lst z = true → ops[z]? = some o → ∀ d, d ∈ depsOf o → lst d = true
/-- A table of what stands ahead is right. -/
def tabRight (ops : List Oper) (tab : List Nat) : Prop := ∀ (y : Nat) (o : Oper) (x : Nat), ops[y]? = some o → Nat.testBit (tab.getD y 0) x = true → ∀ lst, closed ops lst → (∀ d, d ∈ depsOf o → lst d = true) → lst x = true
theorem maskOf_bit {tab : List Nat} {x : Nat} : ∀ {ds : List Nat}, Nat.testBit (maskOf tab ds) x = true → ∃ d, d ∈ ds ∧ (d = x ∨ Nat.testBit (tab.getD d 0) x = true)
  | [], h => by simp [maskOf] at h
  | d :: ds, h => by
    simp only [maskOf, Nat.testBit_or, Bool.or_eq_true] at h
    rcases h with (h | h) | h
    · rw [Nat.testBit_two_pow] at h
      exact ⟨d, List.mem_cons_self, .inl (by simpa using h)⟩
    · exact ⟨d, List.mem_cons_self, .inr h⟩
    · obtain ⟨d', h1, h2⟩ := maskOf_bit h
      exact ⟨d', List.mem_cons_of_mem _ h1, h2⟩
theorem tabRight_set {ops : List Oper} {tab : List Nat} {i : Nat} {o : Oper} (hd : (depsOf o).all (fun d => Nat.blt d ops.length) = true) (hi : ops[i]? = some o) (h : tabRight ops tab) : tabRight ops (tab.set i (maskOf tab (depsOf o))) := by
  intro y o' x hy hb lst hc hdeps
  by_cases e : i = y
  · subst e
    rw [hi] at hy; cases hy
    by_cases hlt : i < tab.length
    · simp only [List.getD_eq_getElem?_getD, List.getElem?_set_self hlt, Option.getD_some] at hb
      obtain ⟨d, h1, h2⟩ := maskOf_bit hb
      rcases h2 with rfl | h2
      · exact hdeps d h1
      · have hdl : d < ops.length := by
          have := List.all_eq_true.1 hd d h1
          rw [Nat.blt_eq] at this; exact this
        exact h d ops[d] x (by simp [hdl]) h2 lst hc (hc d ops[d] (hdeps d h1) (by simp [hdl]))
    · rw [List.getD_eq_getElem?_getD, List.getElem?_eq_none (by simp; omega)] at hb
      simp at hb
  · rw [List.getD_eq_getElem?_getD, List.getElem?_set_ne e, ← List.getD_eq_getElem?_getD] at hb
    exact h y o' x hy hb lst hc hdeps
theorem tabOf_right {ops : List Oper} : ∀ {l : List Nat} {tab : List Nat}, (∀ i o, i ∈ l → ops[i]? = some o → (depsOf o).all (fun d => Nat.blt d ops.length) = true) → tabRight ops tab → tabRight ops (tabOf ops l tab)
  | [], tab, _, h => h
  | i :: l, tab, hl, h => by
    unfold tabOf
    split
    · rename_i o ho
      exact tabOf_right (fun i o hm => hl i o (List.mem_cons_of_mem _ hm)) (tabRight_set (hl i o List.mem_cons_self ho) ho h)
    · exact tabOf_right (fun i o hm => hl i o (List.mem_cons_of_mem _ hm)) h

theorem okTail_spec {ops : List Oper} {tab : List Nat} {x : Nat} {o : Oper} : ∀ {r : List Nat}, okTail P g ops tab x o r = true ↔ ∀ y, y ∈ r → ∃ o', ops[y]? = some o' ∧ (Nat.testBit (tab.getD y 0) x = true ∨ swapD P g ops o o' = true) ∧ y ∉ depsOf o
  | [] => by simp [okTail]
  | y :: r => by
    unfold okTail
    rw [Bool.and_eq_true, okTail_spec]
    constructor
    · rintro ⟨h1, h2⟩ z hz
      rcases List.mem_cons.1 hz with rfl | hz
      · split at h1
        · rename_i o' ho'
          simp only [Bool.and_eq_true, Bool.or_eq_true, Bool.not_eq_true'] at h1
          exact ⟨o', ho', h1.1, fun hm => by have := h1.2; simp [hm] at this⟩
        · cases h1
      · exact h2 z hz
    · intro h
      refine ⟨?_, fun z hz => h z (List.mem_cons_of_mem _ hz)⟩
      obtain ⟨o', h1, h2, h3⟩ := h y List.mem_cons_self
      rw [h1]
      simp only [Bool.and_eq_true, Bool.or_eq_true, Bool.not_eq_true']
      exact ⟨h2, by simpa using h3⟩

theorem okOrder_cons {ops : List Oper} {tab : List Nat} {x : Nat} {r : List Nat} (h : okOrder P g ops tab (x :: r) = true) :
    ∃ o, ops[x]? = some o ∧ okTail P g ops tab x o r = true ∧ x ∉ depsOf o ∧ okG g o = true ∧ (depsOf o).all (fun d => Nat.blt d ops.length) = true ∧ x ∉ r ∧ okOrder P g ops tab r = true := by
  unfold okOrder at h
  simp only [Bool.and_eq_true, Bool.not_eq_true'] at h
  obtain ⟨⟨h1, h2⟩, h3⟩ := h
  split at h1
  · rename_i o ho
    simp only [Bool.and_eq_true, Bool.not_eq_true'] at h1
    exact ⟨o, ho, h1.1.1.1, fun hm => by have := h1.1.1.2; simp [hm] at this, h1.1.2, h1.2, fun hm => by simp [hm] at h2, h3⟩
  · cases h1
theorem okOrder_mem {ops : List Oper} {tab : List Nat} : ∀ {r : List Nat}, okOrder P g ops tab r = true → ∀ x, x ∈ r → ∃ o, ops[x]? = some o ∧ okG g o = true ∧ (depsOf o).all (fun d => Nat.blt d ops.length) = true
  | [], _, x, hx => by simp at hx
  | y :: r, h, x, hx => by
    obtain ⟨o, h1, _, _, h4, h5, _, h7⟩ := okOrder_cons h
    rcases List.mem_cons.1 hx with rfl | hx
    · exact ⟨o, h1, h4, h5⟩
    · exact okOrder_mem h7 x hx
theorem okOrder_mk {ops : List Oper} {tab : List Nat} {x : Nat} {r : List Nat} {o : Oper} (h1 : ops[x]? = some o) (h2 : okTail P g ops tab x o r = true) (h3 : x ∉ depsOf o) (h4 : okG g o = true) (h5 : (depsOf o).all (fun d => Nat.blt d ops.length) = true) (h6 : x ∉ r) (h7 : okOrder P g ops tab r = true) : okOrder P g ops tab (x :: r) = true := by
  unfold okOrder
  simp only [h1, h2, h4, h5, h7, Bool.true_and, Bool.and_true, Bool.and_eq_true, Bool.not_eq_true']
  exact ⟨by simpa using h3, by simpa using h6⟩
/-- One taken out: the rest is still in order, and what stood ahead of it is named or may wait. -/
theorem okOrder_out {ops : List Oper} {tab : List Nat} {i : Nat} {l2 : List Nat} : ∀ {l1 : List Nat}, okOrder P g ops tab (l1 ++ i :: l2) = true → okOrder P g ops tab (l1 ++ l2) = true ∧
    (∀ x, x ∈ l1 → ∃ ox oi, ops[x]? = some ox ∧ ops[i]? = some oi ∧ (Nat.testBit (tab.getD i 0) x = true ∨ swapD P g ops ox oi = true) ∧ okG g ox = true) ∧ i ∉ l1 ++ l2
  | [], h => by
    obtain ⟨o, h1, h2, h3, h4, h5, h6, h7⟩ := okOrder_cons h
    exact ⟨h7, fun x hx => by simp at hx, h6⟩
  | y :: l1, h => by
    obtain ⟨o, h1, h2, h3, h4, h5, h6, h7⟩ := okOrder_cons h
    obtain ⟨q1, q2, q3⟩ := okOrder_out h7
    rw [okTail_spec] at h2
    refine ⟨okOrder_mk h1 (okTail_spec.2 fun z hz => h2 z ?_) h3 h4 h5 (fun hm => h6 ?_) q1, fun x hx => ?_, fun hm => ?_⟩
    · rcases List.mem_append.1 hz with h | h
      · exact List.mem_append_left _ h
      · exact List.mem_append_right _ (List.mem_cons_of_mem _ h)
    · rcases List.mem_append.1 hm with h | h
      · exact List.mem_append_left _ h
      · exact List.mem_append_right _ (List.mem_cons_of_mem _ h)
    · rcases List.mem_cons.1 hx with rfl | hx
      · obtain ⟨oi, r1, r2, _⟩ := h2 i (List.mem_append_right _ List.mem_cons_self)
        exact ⟨o, oi, h1, r1, r2, h4⟩
      · exact q2 x hx
    · rcases List.mem_cons.1 hm with rfl | hm
      · exact h6 (List.mem_append_right _ List.mem_cons_self)
      · exact q3 hm

theorem anyD_sound {ops : Array Oper} {Q : Exit → Act → World → Prop} {K : List V → Heap → Prop} {tab : List Nat} (htab : tabRight ops.toList tab) :
    ∀ (fuel : Nat) (rem : List Nat) (listed : Array Bool) {env : List V} {H : Heap} {ι : Nat → Option Place} {β : Nat → Option Nat} {G : Heap} {a : Act} {w : World}, rem.length ≤ fuel →
      listed.size = ops.size → (∀ i, i < ops.size → (listed.getD i true = false ↔ i ∈ rem)) → closed ops.toList (fun d => listed.getD d false) → okOrder P g ops.toList tab rem = true →
      St g w0 base F ι β G env H a w → Abs.sub HS H → Cont g w0 base F ι K (Q .normal) → seqD P g HS ops.toList rem env H K → wpAny P .any ops Q fuel listed a w := by
  intro fuel
  have hnil : ∀ (listed : Array Bool), listed.size = ops.size → (∀ i, i < ops.size → (listed.getD i true = false ↔ i ∈ ([] : List Nat))) → Region.ready .any ops listed = [] := by
    intro listed hsz hl
    apply List.eq_nil_iff_forall_not_mem.2
    intro i hi
    obtain ⟨h0, o, ho, _⟩ := mem_ready.1 hi
    have := (hl i (Array.getElem?_eq_some_iff.1 ho).1).1 h0
    simp at this
  induction fuel with
  | zero =>
    intro rem listed env H ι β G a w hf hsz hl hc hok hs hsub hn h
    have : rem = [] := List.eq_nil_of_length_eq_zero (by omega)
    subst this
    exact ⟨hnil listed hsz hl, hn _ _ _ _ _ _ _ (ile.refl _) hs h⟩
  | succ fuel ih =>
    intro rem listed env H ι β G a w hf hsz hl hc hok hs hsub hn h
    refine ⟨fun hr => ?_, fun i hi => ?_⟩
    · cases rem with
      | nil => exact hn _ _ _ _ _ _ _ (ile.refl _) hs h
      | cons x r =>
        exfalso
        obtain ⟨o, h1, h2, h3, h4, h5, h6, h7⟩ := okOrder_cons hok
        have h1' : ops[x]? = some o := by simpa using h1
        have hx : x ∈ Region.ready .any ops listed := by
          refine mem_ready.2 ⟨(hl x (Array.getElem?_eq_some_iff.1 h1').1).2 List.mem_cons_self, o, h1', fun e he hb => ?_⟩
          have hd : e.on ∈ depsOf o := depsOf_mem.2 ⟨e, he, hb, rfl⟩
          have hlt : e.on < ops.size := by
            have := List.all_eq_true.1 h5 _ hd
            rw [Nat.blt_eq] at this; simpa using this
          have hnot : e.on ∉ x :: r := by
            intro hm
            rcases List.mem_cons.1 hm with q | q
            · rw [q] at hd; exact h3 hd
            · obtain ⟨_, _, _, q3⟩ := okTail_spec.1 h2 _ q
              exact q3 hd
          have hlt' : e.on < listed.size := by omega
          have := mt (hl e.on hlt).1 hnot
          simp [Array.getD, hlt'] at this ⊢
          exact this
        rw [hr] at hx; simp at hx
    · obtain ⟨h0, oi, hoi, hdeps⟩ := mem_ready.1 hi
      have hilt : i < ops.size := (Array.getElem?_eq_some_iff.1 hoi).1
      have him : i ∈ rem := (hl i hilt).1 h0
      obtain ⟨l1, l2, rfl⟩ := List.append_of_mem him
      obtain ⟨q1, q2, q3⟩ := okOrder_out hok
      have hoi' : ops.toList[i]? = some oi := by simpa using hoi
      have gi : okG g oi = true := by
        obtain ⟨o, r1, r2, _⟩ := okOrder_mem hok i him
        rw [hoi'] at r1; cases r1; exact r2
      have hb := bubble (K := K) hoi' gi (fun x hx => by
        obtain ⟨ox, oi2, r1, r2, r3, r4⟩ := q2 x hx
        rw [hoi'] at r2; cases r2
        refine ⟨ox, r1, r3.resolve_left fun hbit => ?_, r4⟩
        have hlx := htab i oi x hoi' hbit (fun d => listed.getD d false) hc (fun d hd => by
          obtain ⟨e, he, hbnd, rfl⟩ := depsOf_mem.1 hd
          exact hdeps e he hbnd)
        have hxlt : x < ops.size := by
          have : ops[x]? = some ox := by simpa using r1
          exact (Array.getElem?_eq_some_iff.1 this).1
        have := (hl x hxlt).2 (List.mem_append_left _ hx)
        have hlt' : x < listed.size := by omega
        simp [Array.getD, hlt'] at this hlx
        rw [this] at hlx; cases hlx) hsub h
      refine wpOp_sound hs hoi hsub (fun ι' β' G' env' H' a' w' hi' hs' hk => ?_) hb
      refine ih (l1 ++ l2) (listed.setIfInBounds i true) (by simp at hf ⊢; omega) (by simpa using hsz) (fun j hj => ?_) ?_ q1 hs' hk.1 (fun ι'' β'' G'' env'' H'' a'' w'' hi'' hs'' hk'' => hn _ _ _ _ _ _ _ (hi'.trans hi'') hs'' hk'') hk.2
      · by_cases e : i = j
        · subst e
          have hlt' : i < listed.size := by omega
          simp only [q3, iff_false]
          simp [Array.getD, hlt']
        · rw [getD_set_ne true e, hl j hj]
          simp only [List.mem_append, List.mem_cons]
          constructor
          · rintro (h | h | h)
            · exact .inl h
            · exact absurd h.symm e
            · exact .inr h
          · rintro (h | h)
            · exact .inl h
            · exact .inr (.inr h)
      · intro z o hz ho d hd
        by_cases e : i = z
        · subst e
          rw [hoi'] at ho; cases ho
          obtain ⟨e', he, hbnd, rfl⟩ := depsOf_mem.1 hd
          exact getD_set_true (hdeps e' he hbnd)
        · have hz' : listed.getD z false = true := by
            have := getD_set_ne (listed := listed) (i := i) (j := z) false e
            simp only at hz
            rw [this] at hz; exact hz
          exact getD_set_true (hc z o hz' ho d hd)

theorem drawK_sound {id : Nat} {ops : Array Oper} {order : List Nat} {Q : Exit → Act → World → Prop} {K : List V → Heap → Prop} (hs : St g w0 base F ι β G env H a w) (hn : Cont g w0 base F ι K (Q .normal)) (hk : drawK P g ops.toList order env H K) :
    (Code.region id ops true).wp P Q a w := by
  unfold drawK at hk
  split at hk
  case h_2 => exact hk.elim
  rename_i hok
  obtain ⟨HS, hsub, hk⟩ := hk
  unfold okDraw at hok
  simp only [Bool.and_eq_true] at hok
  obtain ⟨⟨⟨h1, hle⟩, h2⟩, h3⟩ := hok
  have hmem : ∀ i o, i ∈ order → ops.toList[i]? = some o → (depsOf o).all (fun d => Nat.blt d ops.toList.length) = true := fun i o hm ho => by
    obtain ⟨o', r1, _, r3⟩ := okOrder_mem h3 i hm
    rw [ho] at r1; cases r1; exact r3
  have htab : tabRight ops.toList (tabOf ops.toList order (List.replicate ops.toList.length 0)) := tabOf_right hmem fun y o x _ hb => by
    rw [List.getD_eq_getElem?_getD, List.getElem?_replicate] at hb
    split at hb <;> simp at hb
  have hin : ∀ i, i < ops.size → i ∈ order := fun i hi => by
    have := List.all_eq_true.1 h2 i (by simpa using hi)
    simpa using this
  have hlen : order.length ≤ ops.size := by simpa using Nat.le_of_ble_eq_true hle
  refine wp_region_any h1 (anyD_sound htab ops.size order (Array.replicate ops.size false) hlen (by simp) (fun i hi => ?_) ?_ h3 (hs.drawn _) hsub hn hk)
  · simp [Array.getD, hi, hin i hi]
  · intro z o hz
    exfalso
    simp only [Array.getD] at hz
    split at hz <;> simp at hz

end

/-! #### heap reads that keep their place -/
section
variable {P : Program} {g : Cfg} {H : Heap} {env env' : List V} {ops : List Oper}
theorem none_sub (H : Heap) : Abs.sub noHeap H := fun _ _ h => by cases h
theorem isE_of_E0 {o : Oper} (h : isE0 g o = true) : isE g o = true := by unfold isE0 at h; rw [Bool.and_eq_true] at h; exact h.1
theorem opH_lift {o : Oper} {K K' : List V → Heap → Prop} (h : opH P g o env H K) (hk : ∀ e h, K e h → K' e h) : opH P g o env H K' := by
  unfold opH at *
  split at h
  · exact opK_lift h fun e _ _ h => hk e H h
  · exact opK_lift h fun e h' _ h => hk e h' h
theorem stepH_lift {o : Oper} {K K' : List V → Heap → Prop} (h : stepH P g ops o env H K) (hk : ∀ e h, K e h → K' e h) : stepH P g ops o env H K' := by
  unfold stepH at *
  split at h
  · exact opH_lift h hk
  · obtain ⟨o', t, b, h1, h2, h3, hv, h4, h5⟩ := guardK_elim h
    exact guardK_intro h1 h2 h3 hv (fun e => opH_lift (h4 e) hk) (fun e => hk _ _ (h5 e))
theorem opH_rel {o : Oper} {K : List V → Heap → Prop} (hlen : env.length = env'.length) (hsm : Same g (opnds o.op) env env') (h : opH P g o env H K) : opH P g o env' H (Post g o env env' K) := by
  unfold opH at *
  split at h
  · exact opK_lift (opK_rel hlen hsm h) fun e _ _ ⟨e0, q0, q⟩ => ⟨e0, q0, q⟩
  · exact opK_rel hlen hsm h
theorem stepH_rel {o : Oper} {K : List V → Heap → Prop} (hG : okG g o = true) (hlen : env.length = env'.length) (hr : ∀ s, s ∈ rds g o → env[s]? = env'[s]?) (hgs : ∀ s, s ∈ gslot ops o → env[s]? = env'[s]?)
    (h : stepH P g ops o env H K) : stepH P g ops o env' H (Post g o env env' K) := by
  unfold stepH at *
  split at h
  · exact opH_rel hlen (Same.of_rds hr) h
  · rename_i j want hg
    obtain ⟨o', t, b, h1, h2, h3, hv, h4, h5⟩ := guardK_elim h
    refine guardK_intro h1 h2 (by rw [← hgs t (gslot_mem hg h1 h2)]; exact h3) hv (fun e => opH_rel hlen (Same.of_rds hr) (h4 e)) fun e => ?_
    refine ⟨_, h5 e, by rw [skip_len, skip_len, hlen], skip_agree _, skip_agree _, fun s hs => ?_⟩
    by_cases hd : s ∈ dstL o.dst
    · exact skip_same _ hlen hd
    · rw [skip_get _ _ hd, skip_get _ _ hd]
      exact hr s (okG_spec hG (by rw [hg]; simp) hs hd)
/-- A pure step, at the heap that it looks at. -/
theorem stepH_D {o : Oper} {K : List V → Heap → Prop} (hE : isE g o = true) (h : stepH P g ops o env H K) : stepD P g H ops o env H K := by
  have main : opH P g o env H K → opD P g H o env H K := fun h => by
    unfold opH at h
    unfold opD
    rw [hE]
    split at h
    · obtain ⟨e, h1, h2⟩ := E_fun hE h
      exact h2 H (none_sub H) _ h1
    · obtain ⟨e, h1, h2⟩ := E_fun hE h
      exact h2 H (Abs.sub_refl _) _ h1
  unfold stepH at h
  unfold stepD
  split at h
  · exact main h
  · obtain ⟨o', t, b, h1, h2, h3, hv, h4, h5⟩ := guardK_elim h
    exact guardK_intro h1 h2 h3 hv (fun e => main (h4 e)) (fun e => h5 e)
theorem stepD_H {o : Oper} {K : List V → Heap → Prop} (hE : isE g o = true) (h0 : isE0 g o = false) (h : stepD P g H ops o env H K) : stepH P g ops o env H K := by
  have main : opD P g H o env H K → opH P g o env H K := fun h => by
    unfold opD at h
    rw [hE] at h
    unfold opH
    rw [h0]
    obtain ⟨e, h1, h2⟩ := E_fun hE h
    exact h2 H (Abs.sub_refl _) _ h1
  unfold stepD at h
  unfold stepH
  split at h
  · exact main h
  · obtain ⟨o', t, b, h1, h2, h3, hv, h4, h5⟩ := guardK_elim h
    exact guardK_intro h1 h2 h3 hv (fun e => main (h4 e)) (fun e => h5 e)
theorem stepH_D0 {o : Oper} {K : List V → Heap → Prop} (h0 : isE0 g o = true) (h : stepH P g ops o env H K) : stepD P g noHeap ops o env H K := by
  have hE := isE_of_E0 h0
  have main : opH P g o env H K → opD P g noHeap o env H K := fun h => by
    unfold opH at h; rw [h0] at h
    unfold opD; rw [hE]; exact h
  unfold stepH at h
  unfold stepD
  split at h
  · exact main h
  · obtain ⟨o', t, b, h1, h2, h3, hv, h4, h5⟩ := guardK_elim h
    exact guardK_intro h1 h2 h3 hv (fun e => main (h4 e)) (fun e => h5 e)
theorem stepD0_H {o : Oper} {K : List V → Heap → Prop} (h0 : isE0 g o = true) (h : stepD P g noHeap ops o env H K) : stepH P g ops o env H K := by
  have hE := isE_of_E0 h0
  have main : opD P g noHeap o env H K → opH P g o env H K := fun h => by
    unfold opD at h; rw [hE] at h
    unfold opH; rw [h0]; exact h
  unfold stepD at h
  unfold stepH
  split at h
  · exact main h
  · obtain ⟨o', t, b, h1, h2, h3, hv, h4, h5⟩ := guardK_elim h
    exact guardK_intro h1 h2 h3 hv (fun e => main (h4 e)) (fun e => h5 e)
/-- A pure step has one outcome, at the heap as it stands. -/
theorem stepH_fun {x : Oper} {K : List V → Heap → Prop} (hE : isE g x = true) (hG : okG g x = true) (h : stepH P g ops x env H K) :
    ∃ e, K e H ∧ e.length = env.length ∧ agree (wrs g x) env e ∧ ∀ env', env.length = env'.length → (∀ s, s ∈ rds g x → env[s]? = env'[s]?) → (∀ s, s ∈ gslot ops x → env[s]? = env'[s]?) →
      ∀ (H2 : Heap) (K' : List V → Heap → Prop), (isE0 g x = true ∨ H2 = H) → (∀ e', e'.length = env'.length → (∀ s, s ∈ wrs g x → e[s]? = e'[s]?) → (∀ s, s ∉ wrs g x → env'[s]? = e'[s]?) → K' e' H2) → stepH P g ops x env' H2 K' := by
  cases h0 : isE0 g x with
  | true =>
    obtain ⟨e, h1, h2, h3, h4⟩ := stepD_fun hE hG (stepH_D0 h0 h)
    exact ⟨e, h1, h2, h3, fun env' q1 q2 q3 H2 K' _ hk => stepD0_H h0 (h4 env' q1 q2 q3 H2 K' hk)⟩
  | false =>
    obtain ⟨e, h1, h2, h3, h4⟩ := stepD_fun hE hG (stepH_D hE h)
    refine ⟨e, h1, h2, h3, fun env' q1 q2 q3 H2 K' hh hk => ?_⟩
    rcases hh with hh | rfl
    · cases hh
    · exact stepD_H hE h0 (h4 env' q1 q2 q3 H2 K' hk)
/-- A pure step leaves the heap. -/
theorem stepH_stay {y : Oper} {K : List V → Heap → Prop} (hE : isE g y = true) (hG : okG g y = true) (h : stepH P g ops y env H K) : stepH P g ops y env H fun e h => h = H ∧ K e h := by
  obtain ⟨e, h1, h2, h3, h4⟩ := stepH_fun hE hG h
  refine h4 env rfl (fun _ _ => rfl) (fun _ _ => rfl) H _ (.inr rfl) fun e' q1 q2 q3 => ⟨rfl, ?_⟩
  have : e' = e := by
    apply List.ext_getElem?
    intro s
    by_cases hs : s ∈ wrs g y
    · exact (q2 s hs).symm
    · rw [← q3 s hs, h3.2 s hs]
  rw [this]; exact h1
theorem swapHe {x y : Oper} {K : List V → Heap → Prop} (hok : ((isE0 g x || isE g y) && swapOk g ops x y) = true) (gx : okG g x = true) (gy : okG g y = true) (h : stepH P g ops x env H fun e h => stepH P g ops y e h K) :
    stepH P g ops y env H fun e h => stepH P g ops x e h K := by
  rw [Bool.and_eq_true] at hok
  obtain ⟨hor, hok⟩ := hok
  unfold swapOk at hok
  simp only [Bool.and_eq_true] at hok
  obtain ⟨⟨⟨⟨⟨hE, n1⟩, n2⟩, n3⟩, n4⟩, n5⟩ := hok
  obtain ⟨e1, h1, hl, ha, hf⟩ := stepH_fun hE gx h
  have fin : ∀ (e' : List V) (h' : Heap), (isE0 g x = true ∨ h' = H) → Post g y e1 env K e' h' → stepH P g ops x e' h' K := by
    rintro e' h' hh ⟨e2, q1, q2, q3, q4, q5⟩
    refine hf e' q4.1 (fun s hs => q4.2 s fun hw => noneIn_spec n4 hw hs) (fun s hs => q4.2 s fun hw => noneIn_spec n5 hw hs) h' K hh fun e'' r1 r2 r3 => ?_
    have : e'' = e2 := by
      apply List.ext_getElem?
      intro s
      by_cases hx : s ∈ wrs g x
      · rw [← r2 s hx]
        exact q3.2 s fun hw => noneIn_spec n3 hx hw
      · rw [← r3 s hx]
        by_cases hyw : s ∈ wrs g y
        · exact (q5 s hyw).symm
        · rw [← q4.2 s hyw, ha.2 s hx, q3.2 s hyw]
    rw [this]; exact q1
  have rel : ∀ {K : List V → Heap → Prop}, stepH P g ops y e1 H K → stepH P g ops y env H (Post g y e1 env K) := fun h =>
    stepH_rel gy hl (fun s hs => ((ha.2 s fun hw => noneIn_spec n1 hw hs)).symm) (fun s hs => ((ha.2 s fun hw => noneIn_spec n2 hw hs)).symm) h
  rw [Bool.or_eq_true] at hor
  rcases hor with h0 | hEy
  · exact stepH_lift (rel h1) fun e' h' hp => fin e' h' (.inl h0) hp
  · refine stepH_lift (rel (stepH_stay hEy gy h1)) fun e' h' hp => ?_
    obtain ⟨e2, ⟨q0, q1⟩, q⟩ := hp
    exact fin e' h' (.inr q0) ⟨e2, q1, q⟩

theorem opH_frame {x : Oper} {K : List V → Heap → Prop} {q : Nat} {ob : Ob} (hq : H q = none) (h : opH P g x env H K) : opH P g x env (upd H q ob) (Fr q ob K) := by
  unfold opH at *
  split at h
  · exact opK_lift h fun e _ _ h => ⟨H, hq, rfl, h⟩
  · exact opK_frame hq h
theorem stepH_frame {x : Oper} {K : List V → Heap → Prop} {q : Nat} {ob : Ob} (hq : H q = none) (h : stepH P g ops x env H K) : stepH P g ops x env (upd H q ob) (Fr q ob K) := by
  unfold stepH at *
  split at h
  · exact opH_frame hq h
  · obtain ⟨o', t, b, h1, h2, h3, hv, h4, h5⟩ := guardK_elim h
    exact guardK_intro h1 h2 h3 hv (fun e => opH_frame hq (h4 e)) (fun e => ⟨H, hq, rfl, h5 e⟩)
theorem swapHa {x y : Oper} {K : List V → Heap → Prop} (hy : isA0 P g y = true) (hok : swapA g ops x y = true) (gx : okG g x = true) (h : stepH P g ops x env H fun e h => stepH P g ops y e h K) :
    stepH P g ops y env H fun e h => stepH P g ops x e h K := by
  unfold isA0 at hy
  simp only [Bool.and_eq_true] at hy
  obtain ⟨hguard, hsome⟩ := hy
  have hg : y.guard = none := by simpa using hguard
  obtain ⟨⟨ob, b, n, d⟩, hob⟩ := Option.isSome_iff_exists.1 hsome
  have h0 := isE0_alloc hob
  have shape : ∀ (env : List V) (H : Heap) (K : List V → Heap → Prop), stepH P g ops y env H K ↔ ∀ q, H q = none → K (env.set d (mkA b n q)) (upd H q ob) := fun env H K => by
    unfold stepH opH
    rw [hg, h0]
    exact (opK_A hob K).2.2
  have hd : y.dst = some d := (opK_A (env := env) (H := H) hob K).1
  have hdw : d ∈ wrs g y := dst_wrs (by rw [hd]; simp [dstL])
  unfold swapA at hok
  simp only [Bool.and_eq_true] at hok
  obtain ⟨⟨⟨n1, n2⟩, n3⟩, n4⟩ := hok
  rw [shape]
  intro q hq
  have hxr := stepH_rel (env' := env.set d (mkA b n q)) gx (by simp) (fun s hs => by
      have : d ≠ s := by rintro rfl; exact noneIn_spec n3 hdw hs
      rw [List.getElem?_set_ne this]) (fun s hs => by
      have : d ≠ s := by rintro rfl; exact noneIn_spec n4 hdw hs
      rw [List.getElem?_set_ne this]) (stepH_frame (ob := ob) hq h)
  refine stepH_lift hxr fun e' H' hp => ?_
  obtain ⟨e0, ⟨H1, a1, rfl, a3⟩, p1, p2, p3, p4⟩ := hp
  rw [shape] at a3
  have hk := a3 q a1
  have hdx : d ∉ wrs g x := fun hm => noneIn_spec n2 hm hdw
  have : e0.set d (mkA b n q) = e' := by
    apply List.ext_getElem?
    intro s
    by_cases hs : s = d
    · subst hs
      have := p3.2 s hdx
      rw [← this]
      by_cases hl : s < env.length
      · rw [List.getElem?_set_self (by rw [← p2.1]; exact hl), List.getElem?_set_self hl]
      · rw [List.getElem?_eq_none (by simp; rw [← p2.1]; omega), List.getElem?_eq_none (by simp; omega)]
    · rw [List.getElem?_set_ne (Ne.symm hs)]
      by_cases hx : s ∈ wrs g x
      · exact p4 s hx
      · rw [← p2.2 s hx, ← p3.2 s hx, List.getElem?_set_ne (Ne.symm hs)]
  rw [← this]; exact hk
theorem swapHs {x y : Oper} {K : List V → Heap → Prop} (hok : swapH P g ops x y = true) (gx : okG g x = true) (gy : okG g y = true) (h : stepH P g ops x env H fun e h => stepH P g ops y e h K) :
    stepH P g ops y env H fun e h => stepH P g ops x e h K := by
  unfold swapH at hok
  rw [Bool.or_eq_true] at hok
  rcases hok with hok | hok
  · exact swapHe hok gx gy h
  · rw [Bool.and_eq_true] at hok
    exact swapHa hok.1 hok.2 gx h
theorem bubbleH {i : Nat} {oi : Oper} {l2 : List Nat} {K : List V → Heap → Prop} (hi : ops[i]? = some oi) (gi : okG g oi = true) : ∀ {l1 : List Nat} {env : List V} {H : Heap}, (∀ x, x ∈ l1 → ∃ ox, ops[x]? = some ox ∧ swapH P g ops ox oi = true ∧ okG g ox = true) →
    seqH P g ops (l1 ++ i :: l2) env H K → stepH P g ops oi env H fun e h => seqH P g ops (l1 ++ l2) e h K
  | [], env, H, _, h => by
    simp only [List.nil_append, seqH, hi] at h ⊢
    exact h
  | x :: l1, env, H, hx, h => by
    obtain ⟨ox, h1, h2, h3⟩ := hx x List.mem_cons_self
    simp only [List.cons_append, seqH, h1] at h ⊢
    exact swapHs h2 h3 gi (stepH_lift h fun e h hk => bubbleH hi gi (fun x hm => hx x (List.mem_cons_of_mem _ hm)) hk)
end

section
variable {P : Program} {g : Cfg} {w0 : World} {base : Nat} {F : Heap} {ι : Nat → Option Place} {β : Nat → Option Nat} {G : Heap} {env : List V} {H : Heap} {a : Act} {w : World}
theorem opH_up {o : Oper} {K : List V → Heap → Prop} (h : opH P g o env H K) : opK P g o env H K := by
  unfold opH at h
  split at h
  · rename_i h0
    obtain ⟨e, he, hup⟩ := E_fun (isE_of_E0 h0) h
    exact hup H (none_sub H) _ he
  · exact h
theorem wpOpH_sound {ops : Array Oper} {i : Nat} {o : Oper} {Q : Exit → Act → World → Prop} {next : Act → World → Prop} {K : List V → Heap → Prop} (hs : St g w0 base F ι β G env H a w) (hi : ops[i]? = some o)
    (hn : Cont g w0 base F ι K next) (h : stepH P g ops.toList o env H K) : wpOp P ops Q i next a w := by
  unfold wpOp
  simp only [hi]
  unfold stepH at h
  split at h
  · rename_i hg
    rw [if_pos (by unfold Region.wanted; rw [hg])]
    exact .inl (opK_sound hs hn (opH_up h))
  · rename_i j want hg
    rcases guard_sound hs hg h with ⟨h1, h2⟩ | ⟨h1, h2⟩
    · rw [if_pos h1]; exact .inl (opK_sound hs hn (opH_up h2))
    · rw [if_neg (by rw [h1]; exact Bool.false_ne_true)]
      exact hn _ _ _ _ _ _ _ (ile.refl _) (skipDst_sound hs o.dst) h2

theorem okTailH_spec {ops : List Oper} {tab : List Nat} {x : Nat} {o : Oper} : ∀ {r : List Nat}, okTailH P g ops tab x o r = true ↔ ∀ y, y ∈ r → ∃ o', ops[y]? = some o' ∧ (Nat.testBit (tab.getD y 0) x = true ∨ swapH P g ops o o' = true) ∧ y ∉ depsOf o
  | [] => by simp [okTailH]
  | y :: r => by
    unfold okTailH
    rw [Bool.and_eq_true, okTailH_spec]
    constructor
    · rintro ⟨h1, h2⟩ z hz
      rcases List.mem_cons.1 hz with rfl | hz
      · split at h1
        · rename_i o' ho'
          simp only [Bool.and_eq_true, Bool.or_eq_true, Bool.not_eq_true'] at h1
          exact ⟨o', ho', h1.1, fun hm => by have := h1.2; simp [hm] at this⟩
        · cases h1
      · exact h2 z hz
    · intro h
      refine ⟨?_, fun z hz => h z (List.mem_cons_of_mem _ hz)⟩
      obtain ⟨o', h1, h2, h3⟩ := h y List.mem_cons_self
      rw [h1]
      simp only [Bool.and_eq_true, Bool.or_eq_true, Bool.not_eq_true']
      exact ⟨h2, by simpa using h3⟩

theorem okOrderH_cons {ops : List Oper} {tab : List Nat} {x : Nat} {r : List Nat} (h : okOrderH P g ops tab (x :: r) = true) :
    ∃ o, ops[x]? = some o ∧ okTailH P g ops tab x o r = true ∧ x ∉ depsOf o ∧ okG g o = true ∧ (depsOf o).all (fun d => Nat.blt d ops.length) = true ∧ x ∉ r ∧ okOrderH P g ops tab r = true := by
  unfold okOrderH at h
  simp only [Bool.and_eq_true, Bool.not_eq_true'] at h
  obtain ⟨⟨h1, h2⟩, h3⟩ := h
  split at h1
  · rename_i o ho
    simp only [Bool.and_eq_true, Bool.not_eq_true'] at h1
    exact ⟨o, ho, h1.1.1.1, fun hm => by have := h1.1.1.2; simp [hm] at this, h1.1.2, h1.2, fun hm => by simp [hm] at h2, h3⟩
  · cases h1
theorem okOrderH_mem {ops : List Oper} {tab : List Nat} : ∀ {r : List Nat}, okOrderH P g ops tab r = true → ∀ x, x ∈ r → ∃ o, ops[x]? = some o ∧ okG g o = true ∧ (depsOf o).all (fun d => Nat.blt d ops.length) = true
  | [], _, x, hx => by simp at hx
  | y :: r, h, x, hx => by
    obtain ⟨o, h1, _, _, h4, h5, _, h7⟩ := okOrderH_cons h
    rcases List.mem_cons.1 hx with rfl | hx
    · exact ⟨o, h1, h4, h5⟩
    · exact okOrderH_mem h7 x hx
theorem okOrderH_mk {ops : List Oper} {tab : List Nat} {x : Nat} {r : List Nat} {o : Oper} (h1 : ops[x]? = some o) (h2 : okTailH P g ops tab x o r = true) (h3 : x ∉ depsOf o) (h4 : okG g o = true) (h5 : (depsOf o).all (fun d => Nat.blt d ops.length) = true) (h6 : x ∉ r) (h7 : okOrderH P g ops tab r = true) : okOrderH P g ops tab (x :: r) = true := by
  unfold okOrderH
  simp only [h1, h2, h4, h5, h7, Bool.true_and, Bool.and_true, Bool.and_eq_true, Bool.not_eq_true']
  exact ⟨by simpa using h3, by simpa using h6⟩
/-- One taken out: the rest is still in order, and what stood ahead of it is named or may wait. -/
theorem okOrderH_out {ops : List Oper} {tab : List Nat} {i : Nat} {l2 : List Nat} : ∀ {l1 : List Nat}, okOrderH P g ops tab (l1 ++ i :: l2) = true → okOrderH P g ops tab (l1 ++ l2) = true ∧
    (∀ x, x ∈ l1 → ∃ ox oi, ops[x]? = some ox ∧ ops[i]? = some oi ∧ (Nat.testBit (tab.getD i 0) x = true ∨ swapH P g ops ox oi = true) ∧ okG g ox = true) ∧ i ∉ l1 ++ l2
  | [], h => by
    obtain ⟨o, h1, h2, h3, h4, h5, h6, h7⟩ := okOrderH_cons h
    exact ⟨h7, fun x hx => by simp at hx, h6⟩
  | y :: l1, h => by
    obtain ⟨o, h1, h2, h3, h4, h5, h6, h7⟩ := okOrderH_cons h
    obtain ⟨q1, q2, q3⟩ := okOrderH_out h7
    rw [okTailH_spec] at h2
    refine ⟨okOrderH_mk h1 (okTailH_spec.2 fun z hz => h2 z ?_) h3 h4 h5 (fun hm => h6 ?_) q1, fun x hx => ?_, fun hm => ?_⟩
    · rcases List.mem_append.1 hz with h | h
      · exact List.mem_append_left _ h
      · exact List.mem_append_right _ (List.mem_cons_of_mem _ h)
    · rcases List.mem_append.1 hm with h | h
      · exact List.mem_append_left _ h
      · exact List.mem_append_right _ (List.mem_cons_of_mem _ h)
    · rcases List.mem_cons.1 hx with rfl | hx
      · obtain ⟨oi, r1, r2, _⟩ := h2 i (List.mem_append_right _ List.mem_cons_self)
        exact ⟨o, oi, h1, r1, r2, h4⟩
      · exact q2 x hx
    · rcases List.mem_cons.1 hm with rfl | hm
      · exact h6 (List.mem_append_right _ List.mem_cons_self)
      · exact q3 hm

theorem anyH_sound {ops : Array Oper} {Q : Exit → Act → World → Prop} {K : List V → Heap → Prop} {tab : List Nat} (htab : tabRight ops.toList tab) :
    ∀ (fuel : Nat) (rem : List Nat) (listed : Array Bool) {env : List V} {H : Heap} {ι : Nat → Option Place} {β : Nat → Option Nat} {G : Heap} {a : Act} {w : World}, rem.length ≤ fuel →
      listed.size = ops.size → (∀ i, i < ops.size → (listed.getD i true = false ↔ i ∈ rem)) → closed ops.toList (fun d => listed.getD d false) → okOrderH P g ops.toList tab rem = true →
      St g w0 base F ι β G env H a w → Cont g w0 base F ι K (Q .normal) → seqH P g ops.toList rem env H K → wpAny P .any ops Q fuel listed a w := by
  intro fuel
  have hnil : ∀ (listed : Array Bool), listed.size = ops.size → (∀ i, i < ops.size → (listed.getD i true = false ↔ i ∈ ([] : List Nat))) → Region.ready .any ops listed = [] := by
    intro listed hsz hl
    apply List.eq_nil_iff_forall_not_mem.2
    intro i hi
    obtain ⟨h0, o, ho, _⟩ := mem_ready.1 hi
    have := (hl i (Array.getElem?_eq_some_iff.1 ho).1).1 h0
    simp at this
  induction fuel with
  | zero =>
    intro rem listed env H ι β G a w hf hsz hl hc hok hs hn h
    have : rem = [] := List.eq_nil_of_length_eq_zero (by omega)
    subst this
    exact ⟨hnil listed hsz hl, hn _ _ _ _ _ _ _ (ile.refl _) hs h⟩
  | succ fuel ih =>
    intro rem listed env H ι β G a w hf hsz hl hc hok hs hn h
    refine ⟨fun hr => ?_, fun i hi => ?_⟩
    · cases rem with
      | nil => exact hn _ _ _ _ _ _ _ (ile.refl _) hs h
      | cons x r =>
        exfalso
        obtain ⟨o, h1, h2, h3, h4, h5, h6, h7⟩ := okOrderH_cons hok
        have h1' : ops[x]? = some o := by simpa using h1
        have hx : x ∈ Region.ready .any ops listed := by
          refine mem_ready.2 ⟨(hl x (Array.getElem?_eq_some_iff.1 h1').1).2 List.mem_cons_self, o, h1', fun e he hb => ?_⟩
          have hd : e.on ∈ depsOf o := depsOf_mem.2 ⟨e, he, hb, rfl⟩
          have hlt : e.on < ops.size := by
            have := List.all_eq_true.1 h5 _ hd
            rw [Nat.blt_eq] at this; simpa using this
          have hnot : e.on ∉ x :: r := by
            intro hm
            rcases List.mem_cons.1 hm with q | q
            · rw [q] at hd; exact h3 hd
            · obtain ⟨_, _, _, q3⟩ := okTailH_spec.1 h2 _ q
              exact q3 hd
          have hlt' : e.on < listed.size := by omega
          have := mt (hl e.on hlt).1 hnot
          simp [Array.getD, hlt'] at this ⊢
          exact this
        rw [hr] at hx; simp at hx
    · obtain ⟨h0, oi, hoi, hdeps⟩ := mem_ready.1 hi
      have hilt : i < ops.size := (Array.getElem?_eq_some_iff.1 hoi).1
      have him : i ∈ rem := (hl i hilt).1 h0
      obtain ⟨l1, l2, rfl⟩ := List.append_of_mem him
      obtain ⟨q1, q2, q3⟩ := okOrderH_out hok
      have hoi' : ops.toList[i]? = some oi := by simpa using hoi
      have gi : okG g oi = true := by
        obtain ⟨o, r1, r2, _⟩ := okOrderH_mem hok i him
        rw [hoi'] at r1; cases r1; exact r2
      have hb := bubbleH (K := K) hoi' gi (fun x hx => by
        obtain ⟨ox, oi2, r1, r2, r3, r4⟩ := q2 x hx
        rw [hoi'] at r2; cases r2
        refine ⟨ox, r1, r3.resolve_left fun hbit => ?_, r4⟩
        have hlx := htab i oi x hoi' hbit (fun d => listed.getD d false) hc (fun d hd => by
          obtain ⟨e, he, hbnd, rfl⟩ := depsOf_mem.1 hd
          exact hdeps e he hbnd)
        have hxlt : x < ops.size := by
          have : ops[x]? = some ox := by simpa using r1
          exact (Array.getElem?_eq_some_iff.1 this).1
        have := (hl x hxlt).2 (List.mem_append_left _ hx)
        have hlt' : x < listed.size := by omega
        simp [Array.getD, hlt'] at this hlx
        rw [this] at hlx; cases hlx) h
      refine wpOpH_sound hs hoi (fun ι' β' G' env' H' a' w' hi' hs' hk => ?_) hb
      refine ih (l1 ++ l2) (listed.setIfInBounds i true) (by simp at hf ⊢; omega) (by simpa using hsz) (fun j hj => ?_) ?_ q1 hs' (fun ι'' β'' G'' env'' H'' a'' w'' hi'' hs'' hk'' => hn _ _ _ _ _ _ _ (hi'.trans hi'') hs'' hk'') hk
      · by_cases e : i = j
        · subst e
          have hlt' : i < listed.size := by omega
          simp only [q3, iff_false]
          simp [Array.getD, hlt']
        · rw [getD_set_ne true e, hl j hj]
          simp only [List.mem_append, List.mem_cons]
          constructor
          · rintro (h | h | h)
            · exact .inl h
            · exact absurd h.symm e
            · exact .inr h
          · rintro (h | h)
            · exact .inl h
            · exact .inr (.inr h)
      · intro z o hz ho d hd
        by_cases e : i = z
        · subst e
          rw [hoi'] at ho; cases ho
          obtain ⟨e', he, hbnd, rfl⟩ := depsOf_mem.1 hd
          exact getD_set_true (hdeps e' he hbnd)
        · have hz' : listed.getD z false = true := by
            have := getD_set_ne (listed := listed) (i := i) (j := z) false e
            simp only at hz
            rw [this] at hz; exact hz
          exact getD_set_true (hc z o hz' ho d hd)

theorem drawH_sound {id : Nat} {ops : Array Oper} {order : List Nat} {Q : Exit → Act → World → Prop} {K : List V → Heap → Prop} (hs : St g w0 base F ι β G env H a w) (hn : Cont g w0 base F ι K (Q .normal)) (hk : drawH P g ops.toList order env H K) :
    (Code.region id ops true).wp P Q a w := by
  unfold drawH at hk
  split at hk
  case h_2 => exact hk.elim
  rename_i hok
  unfold okDrawH at hok
  simp only [Bool.and_eq_true] at hok
  obtain ⟨⟨⟨h1, hle⟩, h2⟩, h3⟩ := hok
  have hmem : ∀ i o, i ∈ order → ops.toList[i]? = some o → (depsOf o).all (fun d => Nat.blt d ops.toList.length) = true := fun i o hm ho => by
    obtain ⟨o', r1, _, r3⟩ := okOrderH_mem h3 i hm
    rw [ho] at r1; cases r1; exact r3
  have htab : tabRight ops.toList (tabOf ops.toList order (List.replicate ops.toList.length 0)) := tabOf_right hmem fun y o x _ hb => by
    rw [List.getD_eq_getElem?_getD, List.getElem?_replicate] at hb
    split at hb <;> simp at hb
  have hin : ∀ i, i < ops.size → i ∈ order := fun i hi => by
    have := List.all_eq_true.1 h2 i (by simpa using hi)
    simpa using this
  have hlen : order.length ≤ ops.size := by simpa using Nat.le_of_ble_eq_true hle
  refine wp_region_any h1 (anyH_sound htab ops.size order (Array.replicate ops.size false) hlen (by simp) (fun i hi => ?_) ?_ h3 (hs.drawn _) hn hk)
  · simp [Array.getD, hi, hin i hi]
  · intro z o hz
    exfalso
    simp only [Array.getD] at hz
    split at hz <;> simp at hz

end
end Go.Abs
/-
The abstract layer, part Y: regions in phases; new objects of known content may wait.
-/
namespace Go.Abs
open Go.RowKit (Below)

section
variable {P : Program} {g : Cfg} {HS H : Heap} {env env' : List V} {ops : List Oper}

theorem stepD_agree {o : Oper} {K : List V → Heap → Prop} (hG : okG g o = true) (hs : Abs.sub HS H) (h : stepD P g HS ops o env H K) : stepD P g HS ops o env H fun e h => agree (wrs g o) env e ∧ K e h := by
  refine stepD_lift (stepD_rel hG rfl (fun _ _ => rfl) (fun _ _ => rfl) h) hs fun e' h' _ hp => ?_
  obtain ⟨e, h1, h2, h3, h4, h5⟩ := hp
  have : e = e' := by
    apply List.ext_getElem?
    intro s
    by_cases hw : s ∈ wrs g o
    · exact h5 s hw
    · rw [← h3.2 s hw, ← h4.2 s hw]
  subst this
  exact ⟨h3, h1⟩

theorem opK_E {y : Oper} {ob : Ob} {b : Bool} {n d : Nat} (h : obE P g env y = some (ob, b, n, d)) (K : List V → Heap → Prop) : y.dst = some d ∧ g.loc d = false ∧ (opK P g y env H K ↔ ∀ q, H q = none → K (env.set d (mkA b n q)) (upd H q ob)) := by
  unfold obE at h
  split at h
  case h_2 => cases h
  rename_i d' hd
  split at h
  case h_1 => cases h
  rename_i hloc
  have hL : g.L.contains d' = false ∧ g.R.contains d' = false := by
    unfold Cfg.loc at hloc
    simpa using hloc
  split at h
  case h_3 => cases h
  · rename_i t ho
    split at h
    case h_2 => cases h
    rename_i z hz
    cases h
    refine ⟨hd, hloc, ?_⟩
    unfold opK
    simp only [ho, hz, bnd_some, hd, newBox, hL.1, hL.2, setK_eq, mkA]
  · rename_i t len parts ho
    split at h
    case h_2 => cases h
    rename_i ps hps
    split at h
    case h_2 => cases h
    rename_i e he
    split at h
    case h_2 => cases h
    rename_i sz hsz
    split at h
    case h_2 => cases h
    rename_i z hz
    split at h
    case h_2 => cases h
    rename_i rows hrows
    cases h
    refine ⟨hd, hloc, ?_⟩
    unfold opK
    simp only [ho, hps, he, hsz, hz, hrows, bnd_some, hd, putK, hloc, setK_eq, mkA]
theorem isE_E {y : Oper} {r : Ob × Bool × Nat × Nat} (h : obE P g env y = some r) : isE g y = false := by
  obtain ⟨ob, b, n, d⟩ := r
  unfold obE at h
  split at h
  case h_2 => cases h
  rename_i d' hd
  split at h
  case h_1 => cases h
  rename_i hloc
  have hL : g.L.contains d' = false := by
    unfold Cfg.loc at hloc
    simp at hloc
    simpa using hloc.1
  split at h
  case h_3 => cases h
  · rename_i t ho
    unfold isE
    simp only [ho, hd, hL]
  · rename_i t len parts ho
    unfold isE
    simp only [ho]
theorem obE_of_A {y : Oper} (h : (obA P g y).isSome = true) : (obE P g env y).isSome = true := by
  obtain ⟨r, h⟩ := Option.isSome_iff_exists.1 h
  unfold obA at h
  unfold obE
  split at h
  case h_2 => cases h
  rename_i d' hd
  split at h
  case h_1 => cases h
  rename_i hloc
  split at h
  case h_3 => cases h
  · rename_i t ho
    simp only [ho, h]; rfl
  · rename_i t len parts ho
    split at h
    case h_2 => cases h
    rename_i ps hps
    simp only [ho, evp_nil hps, h]; rfl
theorem obE_same {y : Oper} (h : ∀ s, s ∈ rds g y → env[s]? = env'[s]?) : obE P g env y = obE P g env' y := by
  have hs := Same.of_rds h
  unfold obE
  split
  · split
    · rfl
    · split
      · rfl
      · rename_i ho
        rw [ho] at hs
        rw [evp_same hs]
      · rfl
  · rfl
theorem obE_int {y : Oper} (h : isA1 P g ops y = true) (hs : ∀ s, intS g ops y s = true → ∃ k n, env[s]? = some (.int k n)) : (obE P g env y).isSome = true := by
  unfold isA1 at h
  rw [Bool.and_eq_true] at h
  obtain ⟨_, h⟩ := h
  unfold obE
  split at h
  case h_2 => cases h
  rename_i d hd
  rw [Bool.and_eq_true] at h
  obtain ⟨hl, h⟩ := h
  have hl : g.loc d = false := by simpa using hl
  simp only [hl]
  split at h
  case h_2 => cases h
  rename_i t len parts ho
  rw [Bool.and_eq_true] at h
  obtain ⟨he, h⟩ := h
  simp only [ho]
  unfold one1 at h
  split at h
  case h_2 => cases h
  rename_i i s' hp
  simp only [Bool.and_eq_true, Bool.not_eq_true'] at h
  obtain ⟨⟨⟨hi, hlen⟩, hls⟩, hint⟩ := h
  obtain ⟨k, n, hk⟩ := hs _ hint
  have hi := Nat.eq_of_beq_eq_true hi
  have hlen := Nat.eq_of_beq_eq_true hlen
  subst hi hlen
  unfold elem1 at he
  split at he
  case h_2 => cases he
  rename_i e he1
  split at he
  case h_2 => cases he
  rename_i sz hsz
  split at he
  case h_2 => cases he
  rename_i z hz
  rw [Bool.and_eq_true] at he
  have h1 := Nat.eq_of_beq_eq_true he.1
  have h2 := Nat.eq_of_beq_eq_true he.2
  subst h1
  have hev : ev g env (.tmp s') = some (.int k n) := by
    unfold ev
    simp only [hls, hk]
  have hc : cellsOf (V.int k n) = [V.int k n] := rfl
  have hb : bsl 1 1 (cellsOf z) [(0, V.int k n)] = some [[V.int k n]] := by
    unfold bsl
    rw [if_pos (by simp [allW, h2, hc]; rfl)]
    simp [fillR, hc]
  simp only [hp, evp, hev, he1, hsz, hz, hb]
  rfl

theorem swapDe {x y : Oper} {K : List V → Heap → Prop} (hg : y.guard = none) (hsome : (obE P g env y).isSome = true) (hok : swapA g ops x y = true) (gx : okG g x = true) (hs : Abs.sub HS H) (h : stepD P g HS ops x env H fun e h => stepD P g HS ops y e h K) :
    stepD P g HS ops y env H fun e h => stepD P g HS ops x e h K := by
  obtain ⟨⟨ob, b, n, d⟩, hob⟩ := Option.isSome_iff_exists.1 hsome
  have h0 := isE_E hob
  have shape : ∀ (env : List V) (H : Heap) (K : List V → Heap → Prop), obE P g env y = some (ob, b, n, d) → (stepD P g HS ops y env H K ↔ ∀ q, H q = none → Abs.sub HS (upd H q ob) ∧ K (env.set d (mkA b n q)) (upd H q ob)) := fun env H K hob => by
    unfold stepD opD
    rw [hg, h0]
    exact (opK_E hob _).2.2
  have hd : y.dst = some d := (opK_E (env := env) (H := H) hob K).1
  have hdw : d ∈ wrs g y := dst_wrs (by rw [hd]; simp [dstL])
  unfold swapA at hok
  simp only [Bool.and_eq_true] at hok
  obtain ⟨⟨⟨n1, n2⟩, n3⟩, n4⟩ := hok
  rw [shape _ _ _ hob]
  intro q hq
  refine ⟨fun i x hi => sub_q hq _ _ (hs _ _ hi), ?_⟩
  have hxr := stepD_rel (env' := env.set d (mkA b n q)) gx (by simp) (fun s hs => by
      have : d ≠ s := by rintro rfl; exact noneIn_spec n3 hdw hs
      rw [List.getElem?_set_ne this]) (fun s hs => by
      have : d ≠ s := by rintro rfl; exact noneIn_spec n4 hdw hs
      rw [List.getElem?_set_ne this]) (stepD_frame (ob := ob) hq h)
  refine stepD_lift hxr (fun i x hi => sub_q hq _ _ (hs _ _ hi)) fun e' H' _ hp => ?_
  obtain ⟨e0, ⟨H1, a1, rfl, a3⟩, p1, p2, p3, p4⟩ := hp
  have hob0 : obE P g e0 y = some (ob, b, n, d) := by
    rw [← hob]
    refine obE_same fun s hs => ?_
    exact (p2.2 s fun hm => noneIn_spec n1 hm hs).symm
  rw [shape _ _ _ hob0] at a3
  have hk := (a3 q a1).2
  have hdx : d ∉ wrs g x := fun hm => noneIn_spec n2 hm hdw
  have : e0.set d (mkA b n q) = e' := by
    apply List.ext_getElem?
    intro s
    by_cases hs : s = d
    · subst hs
      have := p3.2 s hdx
      rw [← this]
      by_cases hl : s < env.length
      · rw [List.getElem?_set_self (by rw [← p2.1]; exact hl), List.getElem?_set_self hl]
      · rw [List.getElem?_eq_none (by simp; rw [← p2.1]; omega), List.getElem?_eq_none (by simp; omega)]
    · rw [List.getElem?_set_ne (Ne.symm hs)]
      by_cases hx : s ∈ wrs g x
      · exact p4 s hx
      · rw [← p2.2 s hx, ← p3.2 s hx, List.getElem?_set_ne (Ne.symm hs)]
  rw [← this]; exact hk
/-- What may be made early is known. -/
def Kn (P : Program) (g : Cfg) (ops : List Oper) (y : Oper) (env : List V) : Prop := isA1 P g ops y = true → (obE P g env y).isSome = true
theorem swapPs {x y : Oper} {K : List V → Heap → Prop} (hok : swapP P g ops x y = true) (hkn : Kn P g ops y env) (gx : okG g x = true) (gy : okG g y = true) (hs : Abs.sub HS H) (h : stepD P g HS ops x env H fun e h => stepD P g HS ops y e h K) :
    stepD P g HS ops y env H fun e h => stepD P g HS ops x e h K := by
  unfold swapP at hok
  rw [Bool.or_eq_true] at hok
  rcases hok with hok | hok
  · exact swap hok gx gy hs h
  · rw [Bool.and_eq_true, Bool.or_eq_true] at hok
    obtain ⟨hA | hA, hok⟩ := hok
    · have hA' := hA
      unfold isA0 at hA'
      rw [Bool.and_eq_true] at hA'
      exact swapDe (by simpa using hA'.1) (obE_of_A hA'.2) hok gx hs h
    · have hA' := hA
      unfold isA1 at hA'
      rw [Bool.and_eq_true] at hA'
      exact swapDe (by simpa using hA'.1) (hkn hA) hok gx hs h
theorem swapP_rd {x y : Oper} (hok : swapP P g ops x y = true) : noneIn (wrs g x) (rds g y) = true := by
  unfold swapP at hok
  rw [Bool.or_eq_true] at hok
  rcases hok with hok | hok
  · unfold swapOk at hok
    simp only [Bool.and_eq_true] at hok
    exact hok.1.1.1.1.2
  · rw [Bool.and_eq_true] at hok
    have hok := hok.2
    unfold swapA at hok
    simp only [Bool.and_eq_true] at hok
    exact hok.1.1.1
theorem bubbleP {i : Nat} {oi : Oper} {l2 : List Nat} {K : List V → Heap → Prop} (hi : ops[i]? = some oi) (gi : okG g oi = true) : ∀ {l1 : List Nat} {env : List V} {H : Heap}, (∀ x, x ∈ l1 → ∃ ox, ops[x]? = some ox ∧ swapP P g ops ox oi = true ∧ okG g ox = true) → Kn P g ops oi env →
    Abs.sub HS H → seqD P g HS ops (l1 ++ i :: l2) env H K → stepD P g HS ops oi env H fun e h => seqD P g HS ops (l1 ++ l2) e h K
  | [], env, H, _, _, hs, h => by
    simp only [List.nil_append, seqD, hi] at h ⊢
    exact h
  | x :: l1, env, H, hx, hkn, hs, h => by
    obtain ⟨ox, h1, h2, h3⟩ := hx x List.mem_cons_self
    simp only [List.cons_append, seqD, h1] at h ⊢
    refine swapPs h2 hkn h3 gi hs (stepD_lift (stepD_agree h3 hs h) hs fun e h hs' hk => bubbleP hi gi (fun x hm => hx x (List.mem_cons_of_mem _ hm)) ?_ hs' hk.2)
    intro hA
    rw [← obE_same (env := env) fun s hs => hk.1.2 s fun hm => noneIn_spec (swapP_rd h2) hm hs]
    exact hkn hA

theorem cv_step {o : Oper} {t : Nat} {K : List V → Heap → Prop} (hc : cvD g o = some t) (ht : t < env.length) (hs : Abs.sub HS H) (h : stepD P g HS ops o env H K) : stepD P g HS ops o env H fun e h => (∃ k n, e[t]? = some (.int k n)) ∧ K e h := by
  unfold cvD at hc
  split at hc
  case h_2 => cases hc
  rename_i hg
  split at hc
  case h_2 => cases hc
  rename_i s d x ho
  split at hc
  case h_2 => cases hc
  rename_i t' hd
  split at hc
  case h_2 => cases hc
  rename_i hl
  cases hc
  have hE : isE g o = true := by unfold isE; rw [ho]
  unfold stepD opD at *
  simp only [hg, hE] at h ⊢
  unfold opK at h ⊢
  simp only [ho] at h ⊢
  refine bnd_mono h fun v _ h => bnd_mono h fun v' hv' h => ?_
  have hint : ∃ k n, v' = V.int k n := by
    unfold aConv at hv'
    split at hv'
    · unfold aCv at hv'
      split at hv'
      · cases hv'; exact ⟨_, _, rfl⟩
      · cases hv'
    · cases hv'
  obtain ⟨k, n, rfl⟩ := hint
  unfold putK at h ⊢
  simp only [hd, hl, setK_eq] at h ⊢
  exact ⟨⟨k, n, by rw [List.getElem?_set_self ht]⟩, h⟩
end

section
variable {P : Program} {g : Cfg} {w0 : World} {base : Nat} {F : Heap} {ι : Nat → Option Place} {β : Nat → Option Nat} {G : Heap} {env : List V} {H HS : Heap} {a : Act} {w : World}

/-- The numbers that were turned into another kind stand in their slots. -/
def Iv (g : Cfg) (ops : List Oper) (lst : Nat → Bool) (env : List V) : Prop :=
  ∀ c oc t, lst c = true → ops[c]? = some oc → cvD g oc = some t → soleW g ops c t = true → ∃ k n, env[t]? = some (.int k n)
theorem Iv.kn {ops : List Oper} {lst : Nat → Bool} {y : Oper} (h : Iv g ops lst env) (hd : ∀ d, d ∈ depsOf y → lst d = true) : Kn P g ops y env := fun hA => by
  refine obE_int hA fun s hs => ?_
  unfold intS at hs
  obtain ⟨c, h1, h2⟩ := List.any_eq_true.1 hs
  split at h2
  case h_2 => cases h2
  rename_i oc hoc
  split at h2
  case h_2 => cases h2
  rename_i t ht
  rw [Bool.and_eq_true] at h2
  have := Nat.eq_of_beq_eq_true h2.1
  subst this
  exact h c oc t (hd c h1) hoc ht h2.2
theorem soleW_spec {ops : List Oper} {c t j : Nat} {o : Oper} (h : soleW g ops c t = true) (hj : ops[j]? = some o) (hne : j ≠ c) : t ∉ wrs g o := by
  unfold soleW at h
  have hlt := (List.getElem?_eq_some_iff.1 hj).1
  have := List.all_eq_true.1 h j (by simpa using hlt)
  rw [hj, Bool.or_eq_true] at this
  rcases this with h | h
  · exact absurd (Nat.eq_of_beq_eq_true h) hne
  · simpa using h

theorem okTailP_spec {ops : List Oper} {tab : List Nat} {x : Nat} {o : Oper} : ∀ {r : List Nat}, okTailP P g ops tab x o r = true ↔ ∀ y, y ∈ r → ∃ o', ops[y]? = some o' ∧ (Nat.testBit (tab.getD y 0) x = true ∨ swapP P g ops o o' = true) ∧ y ∉ depsOf o
  | [] => by simp [okTailP]
  | y :: r => by
    unfold okTailP
    rw [Bool.and_eq_true, okTailP_spec]
    constructor
    · rintro ⟨h1, h2⟩ z hz
      rcases List.mem_cons.1 hz with rfl | hz
      · split at h1
        · rename_i o' ho'
          simp only [Bool.and_eq_true, Bool.or_eq_true, Bool.not_eq_true'] at h1
          exact ⟨o', ho', h1.1, fun hm => by have := h1.2; simp [hm] at this⟩
        · cases h1
      · exact h2 z hz
    · intro h
      refine ⟨?_, fun z hz => h z (List.mem_cons_of_mem _ hz)⟩
      obtain ⟨o', h1, h2, h3⟩ := h y List.mem_cons_self
      rw [h1]
      simp only [Bool.and_eq_true, Bool.or_eq_true, Bool.not_eq_true']
      exact ⟨h2, by simpa using h3⟩
theorem okOrderP_cons {ops : List Oper} {tab : List Nat} {x : Nat} {r : List Nat} (h : okOrderP P g ops tab (x :: r) = true) :
    ∃ o, ops[x]? = some o ∧ okTailP P g ops tab x o r = true ∧ x ∉ depsOf o ∧ okG g o = true ∧ (depsOf o).all (fun d => Nat.blt d ops.length) = true ∧ x ∉ r ∧ okOrderP P g ops tab r = true := by
  unfold okOrderP at h
  simp only [Bool.and_eq_true, Bool.not_eq_true'] at h
  obtain ⟨⟨h1, h2⟩, h3⟩ := h
  split at h1
  · rename_i o ho
    simp only [Bool.and_eq_true, Bool.not_eq_true'] at h1
    exact ⟨o, ho, h1.1.1.1, fun hm => by have := h1.1.1.2; simp [hm] at this, h1.1.2, h1.2, fun hm => by simp [hm] at h2, h3⟩
  · cases h1
theorem okOrderP_mem {ops : List Oper} {tab : List Nat} : ∀ {r : List Nat}, okOrderP P g ops tab r = true → ∀ x, x ∈ r → ∃ o, ops[x]? = some o ∧ okG g o = true ∧ (depsOf o).all (fun d => Nat.blt d ops.length) = true
  | [], _, x, hx => by simp at hx
  | y :: r, h, x, hx => by
    obtain ⟨o, h1, _, _, h4, h5, _, h7⟩ := okOrderP_cons h
    rcases List.mem_cons.1 hx with rfl | hx
    · exact ⟨o, h1, h4, h5⟩
    · exact okOrderP_mem h7 x hx
theorem okOrderP_mk {ops : List Oper} {tab : List Nat} {x : Nat} {r : List Nat} {o : Oper} (h1 : ops[x]? = some o) (h2 : okTailP P g ops tab x o r = true) (h3 : x ∉ depsOf o) (h4 : okG g o = true) (h5 : (depsOf o).all (fun d => Nat.blt d ops.length) = true) (h6 : x ∉ r) (h7 : okOrderP P g ops tab r = true) : okOrderP P g ops tab (x :: r) = true := by
  unfold okOrderP
  simp only [h1, h2, h4, h5, h7, Bool.true_and, Bool.and_true, Bool.and_eq_true, Bool.not_eq_true']
  exact ⟨by simpa using h3, by simpa using h6⟩
theorem okOrderP_out {ops : List Oper} {tab : List Nat} {i : Nat} {l2 : List Nat} : ∀ {l1 : List Nat}, okOrderP P g ops tab (l1 ++ i :: l2) = true → okOrderP P g ops tab (l1 ++ l2) = true ∧
    (∀ x, x ∈ l1 → ∃ ox oi, ops[x]? = some ox ∧ ops[i]? = some oi ∧ (Nat.testBit (tab.getD i 0) x = true ∨ swapP P g ops ox oi = true) ∧ okG g ox = true) ∧ i ∉ l1 ++ l2
  | [], h => by
    obtain ⟨o, h1, h2, h3, h4, h5, h6, h7⟩ := okOrderP_cons h
    exact ⟨h7, fun x hx => by simp at hx, h6⟩
  | y :: l1, h => by
    obtain ⟨o, h1, h2, h3, h4, h5, h6, h7⟩ := okOrderP_cons h
    obtain ⟨q1, q2, q3⟩ := okOrderP_out h7
    rw [okTailP_spec] at h2
    refine ⟨okOrderP_mk h1 (okTailP_spec.2 fun z hz => h2 z ?_) h3 h4 h5 (fun hm => h6 ?_) q1, fun x hx => ?_, fun hm => ?_⟩
    · rcases List.mem_append.1 hz with h | h
      · exact List.mem_append_left _ h
      · exact List.mem_append_right _ (List.mem_cons_of_mem _ h)
    · rcases List.mem_append.1 hm with h | h
      · exact List.mem_append_left _ h
      · exact List.mem_append_right _ (List.mem_cons_of_mem _ h)
    · rcases List.mem_cons.1 hx with rfl | hx
      · obtain ⟨oi, r1, r2, _⟩ := h2 i (List.mem_append_right _ List.mem_cons_self)
        exact ⟨o, oi, h1, r1, r2, h4⟩
      · exact q2 x hx
    · rcases List.mem_cons.1 hm with rfl | hm
      · exact h6 (List.mem_append_right _ List.mem_cons_self)
      · exact q3 hm

/-- One phase, and what comes after it. -/
theorem phase_sound {ops : Array Oper} {Q : Exit → Act → World → Prop} {K : List V → Heap → Prop} {tab rest : List Nat} (htab : tabRight ops.toList tab) :
    ∀ (m : Nat) (rem : List Nat) (fuel : Nat) (listed : Array Bool) {env : List V} {H : Heap} {ι : Nat → Option Place} {β : Nat → Option Nat} {G : Heap} {a : Act} {w : World}, rem.length = m → rem.length + rest.length ≤ fuel →
      listed.size = ops.size → (∀ i, i < ops.size → (listed.getD i true = false ↔ i ∈ rem ∨ i ∈ rest)) → closed ops.toList (fun d => listed.getD d false) → okOrderP P g ops.toList tab rem = true →
      (∀ x o, x ∈ rem → ops.toList[x]? = some o → ∀ y, y ∈ rest → Nat.testBit (tab.getD y 0) x = true ∧ y ∉ depsOf o ∧ y ≠ x) →
      St g w0 base F ι β G env H a w → Abs.sub HS H → Iv g ops.toList (fun d => listed.getD d false) env → cvLen g ops.toList env.length = true →
      (∀ (fuel : Nat) (listed : Array Bool) ι' β' G' env' H' a' w', ile ι ι' → rest.length ≤ fuel → listed.size = ops.size → (∀ i, i < ops.size → (listed.getD i true = false ↔ i ∈ rest)) → closed ops.toList (fun d => listed.getD d false) →
        St g w0 base F ι' β' G' env' H' a' w' → Iv g ops.toList (fun d => listed.getD d false) env' → env'.length = env.length → K env' H' → wpAny P .any ops Q fuel listed a' w') →
      seqD P g HS ops.toList rem env H K → wpAny P .any ops Q fuel listed a w := by
  intro m
  induction m with
  | zero =>
    intro rem fuel listed env H ι β G a w hm hf hsz hl hc hok hah hs hsub hiv hcv hn h
    have : rem = [] := List.eq_nil_of_length_eq_zero hm
    subst this
    exact hn fuel listed _ _ _ _ _ _ _ (ile.refl _) (by simpa using hf) hsz (fun i hi => by simpa using hl i hi) hc hs hiv rfl h
  | succ m ih =>
    intro rem fuel listed env H ι β G a w hm hf hsz hl hc hok hah hs hsub hiv hcv hn h
    obtain ⟨n, rfl⟩ : ∃ n, fuel = n + 1 := ⟨fuel - 1, by omega⟩
    refine ⟨fun hr => ?_, fun i hi => ?_⟩
    · cases rem with
      | nil => simp at hm
      | cons x r =>
        exfalso
        obtain ⟨o, h1, h2, h3, h4, h5, h6, h7⟩ := okOrderP_cons hok
        have h1' : ops[x]? = some o := by simpa using h1
        have hx : x ∈ Region.ready .any ops listed := by
          refine mem_ready.2 ⟨(hl x (Array.getElem?_eq_some_iff.1 h1').1).2 (.inl List.mem_cons_self), o, h1', fun e he hb => ?_⟩
          have hd : e.on ∈ depsOf o := depsOf_mem.2 ⟨e, he, hb, rfl⟩
          have hlt : e.on < ops.size := by
            have := List.all_eq_true.1 h5 _ hd
            rw [Nat.blt_eq] at this; simpa using this
          have hnot : ¬ (e.on ∈ x :: r ∨ e.on ∈ rest) := by
            rintro (hm | hm)
            · rcases List.mem_cons.1 hm with q | q
              · rw [q] at hd; exact h3 hd
              · obtain ⟨_, _, _, q3⟩ := okTailP_spec.1 h2 _ q
                exact q3 hd
            · exact (hah x o List.mem_cons_self h1 _ hm).2.1 hd
          have hlt' : e.on < listed.size := by omega
          have := mt (hl e.on hlt).1 hnot
          simp [Array.getD, hlt'] at this ⊢
          exact this
        rw [hr] at hx; simp at hx
    · obtain ⟨h0, oi, hoi, hdeps⟩ := mem_ready.1 hi
      have hilt : i < ops.size := (Array.getElem?_eq_some_iff.1 hoi).1
      have hoi' : ops.toList[i]? = some oi := by simpa using hoi
      have hdl : ∀ d, d ∈ depsOf oi → listed.getD d false = true := fun d hd => by
        obtain ⟨e, he, hbnd, rfl⟩ := depsOf_mem.1 hd
        exact hdeps e he hbnd
      have nolist : ∀ x, x < ops.size → Nat.testBit (tab.getD i 0) x = true → ¬ (x ∈ rem ∨ x ∈ rest) := fun x hxlt hbit hmem => by
        have hlx := htab i oi x hoi' hbit (fun d => listed.getD d false) hc hdl
        have := (hl x hxlt).2 hmem
        have hlt' : x < listed.size := by omega
        simp [Array.getD, hlt'] at this hlx
        rw [this] at hlx; cases hlx
      have him : i ∈ rem := by
        rcases (hl i hilt).1 h0 with hh | hh
        · exact hh
        · exfalso
          cases rem with
          | nil => simp at hm
          | cons x r =>
            obtain ⟨o, r1, _, _⟩ := okOrderP_mem hok x List.mem_cons_self
            have hxlt : x < ops.size := by
              have : ops[x]? = some o := by simpa using r1
              exact (Array.getElem?_eq_some_iff.1 this).1
            exact nolist x hxlt (hah x o List.mem_cons_self r1 i hh).1 (.inl List.mem_cons_self)
      obtain ⟨l1, l2, rfl⟩ := List.append_of_mem him
      obtain ⟨q1, q2, q3⟩ := okOrderP_out hok
      have gi : okG g oi = true := by
        obtain ⟨o, r1, r2, _⟩ := okOrderP_mem hok i him
        rw [hoi'] at r1; cases r1; exact r2
      have hb := bubbleP (K := K) hoi' gi (fun x hx => by
        obtain ⟨ox, oi2, r1, r2, r3, r4⟩ := q2 x hx
        rw [hoi'] at r2; cases r2
        refine ⟨ox, r1, r3.resolve_left fun hbit => ?_, r4⟩
        have hxlt : x < ops.size := by
          have : ops[x]? = some ox := by simpa using r1
          exact (Array.getElem?_eq_some_iff.1 this).1
        exact nolist x hxlt hbit (.inl (List.mem_append_left _ hx))) (hiv.kn hdl) hsub h
      have hb := stepD_agree gi hsub hb
      have hb : stepD P g HS ops.toList oi env H fun e h => (∀ t, cvD g oi = some t → ∃ k n, e[t]? = some (.int k n)) ∧ agree (wrs g oi) env e ∧ seqD P g HS ops.toList (l1 ++ l2) e h K := by
        cases hcd : cvD g oi with
        | none => exact stepD_lift hb hsub fun e h _ hk => ⟨fun t ht => (by cases ht), hk⟩
        | some t =>
          have ht : t < env.length := by
            unfold cvLen at hcv
            have := List.all_eq_true.1 hcv oi (List.mem_of_getElem? hoi')
            rw [hcd, Nat.blt_eq] at this
            exact this
          refine stepD_lift (cv_step hcd ht hsub hb) hsub fun e h _ hk => ⟨fun t' ht' => ?_, hk.2⟩
          cases ht'
          exact hk.1
      refine wpOp_sound hs hoi hsub (fun ι' β' G' env' H' a' w' hi' hs' hk => ?_) hb
      have hlm : (l1 ++ l2).length = m := by simp at hm ⊢; omega
      have hup : ∀ c, (listed.setIfInBounds i true).getD c false = true → c = i ∨ listed.getD c false = true := fun c hc => by
        by_cases e : i = c
        · exact .inl e.symm
        · rw [getD_set_ne false e] at hc; exact .inr hc
      refine ih (l1 ++ l2) n (listed.setIfInBounds i true) hlm (by simp at hf ⊢; omega) (by simpa using hsz) (fun j hj => ?_) ?_ q1 (fun x o hx ho y hy => hah x o (by
        rcases List.mem_append.1 hx with h | h
        · exact List.mem_append_left _ h
        · exact List.mem_append_right _ (List.mem_cons_of_mem _ h)) ho y hy) hs' hk.1 ?_ (by rw [← hk.2.2.1.1]; exact hcv) (fun fuel listed ι'' β'' G'' env'' H'' a'' w'' hi'' h1 h2 h3 h4 h5 h6 h7 h8 => hn fuel listed _ _ _ _ _ _ _ (hi'.trans hi'') h1 h2 h3 h4 h5 h6 (h7.trans hk.2.2.1.1.symm) h8) hk.2.2.2
      · by_cases e : i = j
        · subst e
          have hlt' : i < listed.size := by omega
          have hr : i ∉ rest := fun hm => (hah i oi him hoi' i hm).2.2 rfl
          simp only [q3, hr, iff_false, or_self]
          simp [Array.getD, hlt']
        · rw [getD_set_ne true e, hl j hj]
          simp only [List.mem_append, List.mem_cons]
          constructor
          · rintro ((h | h | h) | h)
            · exact .inl (.inl h)
            · exact absurd h.symm e
            · exact .inl (.inr h)
            · exact .inr h
          · rintro ((h | h) | h)
            · exact .inl (.inl h)
            · exact .inl (.inr (.inr h))
            · exact .inr h
      · intro z o hz ho d hd
        by_cases e : i = z
        · subst e
          rw [hoi'] at ho; cases ho
          exact getD_set_true (hdl d hd)
        · have hz' : listed.getD z false = true := by
            have := getD_set_ne (listed := listed) (i := i) (j := z) false e
            simp only at hz
            rw [this] at hz; exact hz
          exact getD_set_true (hc z o hz' ho d hd)
      · intro c oc t hlc hoc hcd hsole
        rcases hup c hlc with rfl | hlc'
        · rw [hoi'] at hoc; cases hoc
          exact hk.2.1 t hcd
        · by_cases e : i = c
          · subst e
            rw [hoi'] at hoc; cases hoc
            exact hk.2.1 t hcd
          · obtain ⟨k, v, hv⟩ := hiv c oc t hlc' hoc hcd hsole
            refine ⟨k, v, ?_⟩
            rw [← hk.2.2.1.2 t (soleW_spec hsole hoi' e)]
            exact hv

theorem noHeap_sub (H : Heap) : Abs.sub noHeap H := fun i x hi => by cases hi
theorem stepX {P : Program} {g : Cfg} {HS H : Heap} {env : List V} {ops : List Oper} {o : Oper} {K : List V → Heap → Prop} (hx : isX o = true) (h : stepD P g HS ops o env H K) : stepD P g noHeap ops o env H K := by
  unfold isX at hx
  rw [Bool.and_eq_true] at hx
  obtain ⟨hg, hx⟩ := hx
  have hg : o.guard = none := by simpa using hg
  split at hx
  case h_2 => cases hx
  rename_i a b ho
  have hE : isE g o = true := by unfold isE; rw [ho]
  unfold stepD opD at *
  simp only [hg, hE] at h ⊢
  unfold opK at h ⊢
  simp only [ho] at h ⊢
  exact h
theorem stepZ {P : Program} {g : Cfg} {HS H : Heap} {env : List V} {ops : List Oper} {o : Oper} {K : List V → Heap → Prop} (hE : isE g o = false) (h : stepD P g HS ops o env H K) : stepD P g noHeap ops o env H K := by
  have aux : ∀ env, opD P g HS o env H K → opD P g noHeap o env H K := fun env h => by
    unfold opD at h ⊢
    simp only [hE] at h ⊢
    exact opK_lift h fun e h' _ hk => ⟨noHeap_sub _, hk.2⟩
  unfold stepD at *
  split at h
  · exact aux _ h
  · obtain ⟨o', t, b, h1, h2, h3, hv, h4, h5⟩ := guardK_elim h
    exact guardK_intro h1 h2 h3 hv (fun e => aux _ (h4 e)) h5
/-- What may wait for the last operation waits for it. -/
theorem lateZ {P : Program} {g : Cfg} {HS : Heap} {ops : List Oper} {z : Nat} {oz : Oper} {K : List V → Heap → Prop} (hz : ops[z]? = some oz) (hE : isE g oz = false) (gz : okG g oz = true) :
    ∀ {L : List Nat} {env : List V} {H : Heap}, (∀ x, x ∈ L → ∃ ox, ops[x]? = some ox ∧ isX ox = true ∧ swapOk g ops ox oz = true ∧ okG g ox = true) →
      seqD P g HS ops L env H (fun e h => ∃ S2, Abs.sub S2 h ∧ seqD P g S2 ops [z] e h K) → stepD P g noHeap ops oz env H fun e h => seqD P g noHeap ops L e h K
  | [], env, H, _, h => by
    obtain ⟨S2, hs, h⟩ := h
    simp only [seqD, hz] at h ⊢
    exact stepZ hE h
  | x :: L, env, H, hx, h => by
    obtain ⟨ox, h1, h2, h3, h4⟩ := hx x List.mem_cons_self
    simp only [seqD, h1] at h ⊢
    refine swap h3 h4 gz (noHeap_sub _) (stepD_lift (stepX h2 h) (noHeap_sub _) fun e h' _ hk => ?_)
    exact lateZ hz hE gz (fun y hy => hx y (List.mem_cons_of_mem _ hy)) hk
/-- One operation fires. -/
theorem fire {ops : Array Oper} {Q : Exit → Act → World → Prop} {K : List V → Heap → Prop} {listed : Array Bool} {i fuel : Nat} {oi : Oper} (hs : St g w0 base F ι β G env H a w) (hoi : ops[i]? = some oi) (gi : okG g oi = true) (hsub : Abs.sub HS H)
    (hiv : Iv g ops.toList (fun d => listed.getD d false) env) (hcv : cvLen g ops.toList env.length = true) (hb : stepD P g HS ops.toList oi env H K)
    (hn : ∀ ι' β' G' env' H' a' w', ile ι ι' → St g w0 base F ι' β' G' env' H' a' w' → Abs.sub HS H' → env'.length = env.length → Iv g ops.toList (fun d => (listed.setIfInBounds i true).getD d false) env' → K env' H' → wpAny P .any ops Q fuel (listed.setIfInBounds i true) a' w') :
    wpOp P ops Q i (wpAny P .any ops Q fuel (listed.setIfInBounds i true)) a w := by
  have hoi' : ops.toList[i]? = some oi := by simpa using hoi
  have hb := stepD_agree gi hsub hb
  have hb : stepD P g HS ops.toList oi env H fun e h => (∀ t, cvD g oi = some t → ∃ k n, e[t]? = some (.int k n)) ∧ agree (wrs g oi) env e ∧ K e h := by
    cases hcd : cvD g oi with
    | none => exact stepD_lift hb hsub fun e h _ hk => ⟨fun t ht => (by cases ht), hk⟩
    | some t =>
      have ht : t < env.length := by
        unfold cvLen at hcv
        have := List.all_eq_true.1 hcv oi (List.mem_of_getElem? hoi')
        rw [hcd, Nat.blt_eq] at this
        exact this
      refine stepD_lift (cv_step hcd ht hsub hb) hsub fun e h _ hk => ⟨fun t' ht' => ?_, hk.2⟩
      cases ht'
      exact hk.1
  refine wpOp_sound hs hoi hsub (fun ι' β' G' env' H' a' w' hi' hs' hk => ?_) hb
  have hup : ∀ c, (listed.setIfInBounds i true).getD c false = true → c = i ∨ listed.getD c false = true := fun c hc => by
    by_cases e : i = c
    · exact .inl e.symm
    · rw [getD_set_ne false e] at hc; exact .inr hc
  refine hn _ _ _ _ _ _ _ hi' hs' hk.1 hk.2.2.1.1.symm ?_ hk.2.2.2
  intro c oc t hlc hoc hcd hsole
  rcases hup c hlc with rfl | hlc'
  · rw [hoi'] at hoc; cases hoc
    exact hk.2.1 t hcd
  · by_cases e : i = c
    · subst e
      rw [hoi'] at hoc; cases hoc
      exact hk.2.1 t hcd
    · obtain ⟨k, v, hv⟩ := hiv c oc t hlc' hoc hcd hsole
      refine ⟨k, v, ?_⟩
      rw [← hk.2.2.1.2 t (soleW_spec hsole hoi' e)]
      exact hv
theorem nil_sound {ops : Array Oper} {Q : Exit → Act → World → Prop} {K : List V → Heap → Prop} {fuel : Nat} {listed : Array Bool} (hl : ∀ i, i < ops.size → (listed.getD i true = false ↔ i ∈ ([] : List Nat))) (hs : St g w0 base F ι β G env H a w) (hn : Cont g w0 base F ι K (Q .normal)) (h : K env H) : wpAny P .any ops Q fuel listed a w := by
  have hnil : Region.ready .any ops listed = [] := by
    apply List.eq_nil_iff_forall_not_mem.2
    intro i hi
    obtain ⟨h0, o, ho, _⟩ := mem_ready.1 hi
    have := (hl i (Array.getElem?_eq_some_iff.1 ho).1).1 h0
    simp at this
  cases fuel with
  | zero => exact ⟨hnil, hn _ _ _ _ _ _ _ (ile.refl _) hs h⟩
  | succ n => exact ⟨fun _ => hn _ _ _ _ _ _ _ (ile.refl _) hs h, fun i hi => by rw [hnil] at hi; simp at hi⟩
/-- One phase and one last operation, for which part of the phase may wait. -/
theorem phase_soundZ {ops : Array Oper} {Q : Exit → Act → World → Prop} {K : List V → Heap → Prop} {tab : List Nat} {z : Nat} {oz : Oper} (htab : tabRight ops.toList tab) (hz : ops.toList[z]? = some oz) (hE : isE g oz = false) (gz : okG g oz = true) (hzd : (depsOf oz).all (fun d => Nat.blt d ops.size) = true) (hzz : z ∉ depsOf oz) :
    ∀ (m : Nat) (rem : List Nat) (fuel : Nat) (listed : Array Bool) {env : List V} {H : Heap} {ι : Nat → Option Place} {β : Nat → Option Nat} {G : Heap} {a : Act} {w : World}, rem.length = m → rem.length + 1 ≤ fuel →
      listed.size = ops.size → (∀ i, i < ops.size → (listed.getD i true = false ↔ i ∈ rem ∨ i = z)) → closed ops.toList (fun d => listed.getD d false) → okOrderP P g ops.toList tab rem = true →
      (∀ x o, x ∈ rem → ops.toList[x]? = some o → (Nat.testBit (tab.getD z 0) x = true ∨ isX o = true ∧ swapOk g ops.toList o oz = true) ∧ z ∉ depsOf o ∧ z ≠ x) →
      St g w0 base F ι β G env H a w → Abs.sub HS H → Iv g ops.toList (fun d => listed.getD d false) env → cvLen g ops.toList env.length = true →
      Cont g w0 base F ι K (Q .normal) →
      seqD P g HS ops.toList rem env H (fun e h => ∃ S2, Abs.sub S2 h ∧ seqD P g S2 ops.toList [z] e h K) → wpAny P .any ops Q fuel listed a w := by
  intro m
  induction m with
  | zero =>
    intro rem fuel listed env H ι β G a w hm hf hsz hl hc hok hah hs hsub hiv hcv hn h
    have : rem = [] := List.eq_nil_of_length_eq_zero hm
    subst this
    obtain ⟨S2, hs2, h⟩ := h
    have hzlt : z < ops.size := by
      have : ops[z]? = some oz := by simpa using hz
      exact (Array.getElem?_eq_some_iff.1 this).1
    refine phase_sound (rest := []) (HS := S2) (K := K) htab 1 [z] fuel listed rfl (by simpa using hf) hsz (fun i hi => by rw [hl i hi]; simp) hc ?_ (fun x o hx ho y hy => by simp at hy) hs hs2 hiv hcv
      (fun fuel listed ι' β' G' env' H' a' w' g1 g2 g3 g4 g5 g6 g7 g8 g9 => nil_sound g4 g6 (fun ι'' β'' G'' env'' H'' a'' w'' hi'' hs'' hk'' => hn _ _ _ _ _ _ _ (g1.trans hi'') hs'' hk'') g9) h
    exact okOrderP_mk hz (by simp [okTailP]) hzz gz (by simpa using hzd) (by simp) rfl
  | succ m ih =>
    intro rem fuel listed env H ι β G a w hm hf hsz hl hc hok hah hs hsub hiv hcv hn h
    obtain ⟨n, rfl⟩ : ∃ n, fuel = n + 1 := ⟨fuel - 1, by omega⟩
    refine ⟨fun hr => ?_, fun i hi => ?_⟩
    · cases rem with
      | nil => simp at hm
      | cons x r =>
        exfalso
        obtain ⟨o, h1, h2, h3, h4, h5, h6, h7⟩ := okOrderP_cons hok
        have h1' : ops[x]? = some o := by simpa using h1
        have hx : x ∈ Region.ready .any ops listed := by
          refine mem_ready.2 ⟨(hl x (Array.getElem?_eq_some_iff.1 h1').1).2 (.inl List.mem_cons_self), o, h1', fun e he hb => ?_⟩
          have hd : e.on ∈ depsOf o := depsOf_mem.2 ⟨e, he, hb, rfl⟩
          have hlt : e.on < ops.size := by
            have := List.all_eq_true.1 h5 _ hd
            rw [Nat.blt_eq] at this; simpa using this
          have hnot : ¬ (e.on ∈ x :: r ∨ e.on = z) := by
            rintro (hm | hm)
            · rcases List.mem_cons.1 hm with q | q
              · rw [q] at hd; exact h3 hd
              · obtain ⟨_, _, _, q3⟩ := okTailP_spec.1 h2 _ q
                exact q3 hd
            · rw [hm] at hd
              exact (hah x o List.mem_cons_self h1).2.1 hd
          have hlt' : e.on < listed.size := by omega
          have := mt (hl e.on hlt).1 hnot
          simp [Array.getD, hlt'] at this ⊢
          exact this
        rw [hr] at hx; simp at hx
    · obtain ⟨h0, oi, hoi, hdeps⟩ := mem_ready.1 hi
      have hilt : i < ops.size := (Array.getElem?_eq_some_iff.1 hoi).1
      have hoi' : ops.toList[i]? = some oi := by simpa using hoi
      have hdl : ∀ d, d ∈ depsOf oi → listed.getD d false = true := fun d hd => by
        obtain ⟨e, he, hbnd, rfl⟩ := depsOf_mem.1 hd
        exact hdeps e he hbnd
      have nolist : ∀ x, x < ops.size → Nat.testBit (tab.getD i 0) x = true → ¬ (x ∈ rem ∨ x = z) := fun x hxlt hbit hmem => by
        have hlx := htab i oi x hoi' hbit (fun d => listed.getD d false) hc hdl
        have := (hl x hxlt).2 hmem
        have hlt' : x < listed.size := by omega
        simp [Array.getD, hlt'] at this hlx
        rw [this] at hlx; cases hlx
      have hclosed : closed ops.toList (fun d => (listed.setIfInBounds i true).getD d false) := by
        intro z o hz ho d hd
        by_cases e : i = z
        · subst e
          rw [hoi'] at ho; cases ho
          exact getD_set_true (hdl d hd)
        · have hz' : listed.getD z false = true := by
            have := getD_set_ne (listed := listed) (i := i) (j := z) false e
            simp only at hz
            rw [this] at hz; exact hz
          exact getD_set_true (hc z o hz' ho d hd)
      by_cases hiz : i = z
      · subst hiz
        rw [hz] at hoi'; cases hoi'
        have hlate : ∀ x, x ∈ rem → ∃ ox, ops.toList[x]? = some ox ∧ isX ox = true ∧ swapOk g ops.toList ox oz = true ∧ okG g ox = true := fun x hx => by
          obtain ⟨o, r1, r2, _⟩ := okOrderP_mem hok x hx
          have hxlt : x < ops.size := by
            have : ops[x]? = some o := by simpa using r1
            exact (Array.getElem?_eq_some_iff.1 this).1
          obtain ⟨q, _⟩ := hah x o hx r1
          have q := q.resolve_left fun hbit => nolist x hxlt hbit (.inl hx)
          exact ⟨o, r1, q.1, q.2, r2⟩
        have hb := lateZ hz hE gz hlate h
        refine fire hs hoi gz (noHeap_sub _) hiv hcv hb fun ι' β' G' env' H' a' w' hi' hs' hsub' hlen hiv' hk => ?_
        refine phase_sound (rest := []) (HS := noHeap) (K := K) htab rem.length rem n (listed.setIfInBounds i true) rfl (by simp; omega) (by simpa using hsz) (fun j hj => ?_) hclosed hok (fun x o hx ho y hy => by simp at hy) hs' hsub' hiv' (by rw [hlen]; exact hcv)
          (fun fuel listed ι'' β'' G'' env'' H'' a'' w'' g1 g2 g3 g4 g5 g6 g7 g8 g9 => nil_sound g4 g6 (fun ι3 β3 G3 env3 H3 a3 w3 hi3 hs3 hk3 => hn _ _ _ _ _ _ _ (hi'.trans (g1.trans hi3)) hs3 hk3) g9) hk
        by_cases e : i = j
        · subst e
          have hlt' : i < listed.size := by omega
          have hr : i ∉ rem := fun hm => by
            obtain ⟨o, r1, _, _⟩ := okOrderP_mem hok i hm
            exact (hah i o hm r1).2.2 rfl
          simp [Array.getD, hlt', hr]
        · rw [getD_set_ne true e, hl j hj]
          simp [Ne.symm e]
      · have him : i ∈ rem := by
          rcases (hl i hilt).1 h0 with hh | hh
          · exact hh
          · exact absurd hh hiz
        obtain ⟨l1, l2, rfl⟩ := List.append_of_mem him
        obtain ⟨q1, q2, q3⟩ := okOrderP_out hok
        have gi : okG g oi = true := by
          obtain ⟨o, r1, r2, _⟩ := okOrderP_mem hok i him
          rw [hoi'] at r1; cases r1; exact r2
        have hb := bubbleP hoi' gi (fun x hx => by
          obtain ⟨ox, oi2, r1, r2, r3, r4⟩ := q2 x hx
          rw [hoi'] at r2; cases r2
          refine ⟨ox, r1, r3.resolve_left fun hbit => ?_, r4⟩
          have hxlt : x < ops.size := by
            have : ops[x]? = some ox := by simpa using r1
            exact (Array.getElem?_eq_some_iff.1 this).1
          exact nolist x hxlt hbit (.inl (List.mem_append_left _ hx))) (hiv.kn hdl) hsub h
        have hlm : (l1 ++ l2).length = m := by simp at hm ⊢; omega
        refine fire hs hoi gi hsub hiv hcv hb fun ι' β' G' env' H' a' w' hi' hs' hsub' hlen hiv' hk => ?_
        refine ih (l1 ++ l2) n (listed.setIfInBounds i true) hlm (by simp at hf ⊢; omega) (by simpa using hsz) (fun j hj => ?_) hclosed q1 (fun x o hx ho => hah x o (by
          rcases List.mem_append.1 hx with h | h
          · exact List.mem_append_left _ h
          · exact List.mem_append_right _ (List.mem_cons_of_mem _ h)) ho) hs' hsub' hiv' (by rw [hlen]; exact hcv) (fun ι'' β'' G'' env'' H'' a'' w'' hi'' hs'' hk'' => hn _ _ _ _ _ _ _ (hi'.trans hi'') hs'' hk'') hk
        by_cases e : i = j
        · subst e
          have hlt' : i < listed.size := by omega
          simp only [q3, hiz, iff_false, or_self]
          simp [Array.getD, hlt']
        · rw [getD_set_ne true e, hl j hj]
          simp only [List.mem_append, List.mem_cons]
          constructor
          · rintro ((h | h | h) | h)
            · exact .inl (.inl h)
            · exact absurd h.symm e
            · exact .inl (.inr h)
            · exact .inr h
          · rintro ((h | h) | h)
            · exact .inl (.inl h)
            · exact .inl (.inr (.inr h))
            · exact .inr h
theorem okPh_sound {ops : Array Oper} {Q : Exit → Act → World → Prop} {K : List V → Heap → Prop} {tab : List Nat} (htab : tabRight ops.toList tab) :
    ∀ (ph : List (List Nat)) (fuel : Nat) (listed : Array Bool) {env : List V} {H : Heap} {ι : Nat → Option Place} {β : Nat → Option Nat} {G : Heap} {a : Act} {w : World}, (cat ph).length ≤ fuel →
      listed.size = ops.size → (∀ i, i < ops.size → (listed.getD i true = false ↔ i ∈ cat ph)) → closed ops.toList (fun d => listed.getD d false) → okPh P g ops.toList tab ph = true →
      St g w0 base F ι β G env H a w → Iv g ops.toList (fun d => listed.getD d false) env → cvLen g ops.toList env.length = true → Cont g w0 base F ι K (Q .normal) → phK P g ops.toList ph env H K → wpAny P .any ops Q fuel listed a w
  | [], fuel, listed, env, H, ι, β, G, a, w, hf, hsz, hl, hc, hok, hs, hiv, hcv, hn, h => by
    have hnil : Region.ready .any ops listed = [] := by
      apply List.eq_nil_iff_forall_not_mem.2
      intro i hi
      obtain ⟨h0, o, ho, _⟩ := mem_ready.1 hi
      have := (hl i (Array.getElem?_eq_some_iff.1 ho).1).1 h0
      simp [cat] at this
    cases fuel with
    | zero => exact ⟨hnil, hn _ _ _ _ _ _ _ (ile.refl _) hs h⟩
    | succ n => exact ⟨fun _ => hn _ _ _ _ _ _ _ (ile.refl _) hs h, fun i hi => by rw [hnil] at hi; simp at hi⟩
  | p :: r, fuel, listed, env, H, ι, β, G, a, w, hf, hsz, hl, hc, hok, hs, hiv, hcv, hn, h => by
    unfold okPh at hok
    simp only [Bool.and_eq_true] at hok
    obtain ⟨⟨k1, k2⟩, k3⟩ := hok
    obtain ⟨HS, hsub, h⟩ := h
    rw [Bool.or_eq_true] at k2
    rcases k2 with k2 | k2
    rotate_left
    · unfold aheadZ at k2
      split at k2
      case h_2 => cases k2
      rename_i z
      split at k2
      case h_2 => cases k2
      rename_i oz hoz
      simp only [Bool.and_eq_true, Bool.not_eq_true'] at k2
      obtain ⟨⟨z1, z2⟩, z3⟩ := k2
      have kz : okOrderP P g ops.toList tab [z] = true := by
        unfold okPh at k3
        simp only [Bool.and_eq_true] at k3
        exact k3.1.1
      obtain ⟨oz', e1, _, e3, _, e5, _, _⟩ := okOrderP_cons kz
      rw [hoz] at e1; cases e1
      refine phase_soundZ htab hoz z1 z2 (by simpa using e5) e3 p.length p fuel listed rfl (by simpa [cat] using hf) hsz (fun i hi => by rw [hl i hi]; simp [cat]) hc k1 (fun x o hx ho => ?_) hs hsub hiv hcv hn h
      have := List.all_eq_true.1 z3 x hx
      rw [ho] at this
      simp only [Bool.and_eq_true, Bool.or_eq_true, Bool.not_eq_true'] at this
      obtain ⟨⟨a1, a2⟩, a3⟩ := this
      refine ⟨a1, fun hm => by simp [hm] at a2, ?_⟩
      rintro rfl
      simp at a3
    refine phase_sound (rest := cat r) htab p.length p fuel listed rfl (by simpa [cat] using hf) hsz (fun i hi => by rw [hl i hi]; simp [cat]) hc k1 (fun x o hx ho y hy => ?_) hs hsub hiv hcv
      (fun fuel listed ι' β' G' env' H' a' w' g1 g2 g3 g4 g5 g6 g7 g8 g9 => okPh_sound htab r fuel listed g2 g3 g4 g5 k3 g6 g7 (by rw [g8]; exact hcv) (fun ι'' β'' G'' env'' H'' a'' w'' hi'' hs'' hk'' => hn _ _ _ _ _ _ _ (g1.trans hi'') hs'' hk'') g9) h
    unfold ahead at k2
    have := List.all_eq_true.1 k2 x hx
    rw [ho] at this
    have := List.all_eq_true.1 this y hy
    simp only [Bool.and_eq_true, Bool.not_eq_true'] at this
    obtain ⟨⟨a1, a2⟩, a3⟩ := this
    refine ⟨a1, fun hm => by simp [hm] at a2, ?_⟩
    rintro rfl
    simp at a3
theorem okPh_mem {ops : List Oper} {tab : List Nat} : ∀ {ph : List (List Nat)}, okPh P g ops tab ph = true → ∀ x, x ∈ cat ph → ∃ o, ops[x]? = some o ∧ (depsOf o).all (fun d => Nat.blt d ops.length) = true
  | [], _, x, hx => by simp [cat] at hx
  | p :: r, h, x, hx => by
    unfold okPh at h
    simp only [Bool.and_eq_true] at h
    rcases List.mem_append.1 hx with hx | hx
    · obtain ⟨o, a, _, b⟩ := okOrderP_mem h.1.1 x hx
      exact ⟨o, a, b⟩
    · exact okPh_mem h.2 x hx

theorem drawP_sound {id : Nat} {ops : Array Oper} {ph : List (List Nat)} {Q : Exit → Act → World → Prop} {K : List V → Heap → Prop} (hs : St g w0 base F ι β G env H a w) (hn : Cont g w0 base F ι K (Q .normal)) (hk : drawP P g ops.toList ph env H K) :
    (Code.region id ops true).wp P Q a w := by
  unfold drawP at hk
  split at hk
  case h_2 => exact hk.elim
  rename_i hok
  unfold okDrawP at hok
  simp only [Bool.and_eq_true] at hok
  obtain ⟨⟨⟨⟨h1, hle⟩, h2⟩, h3⟩, h4⟩ := hok
  have hmem : ∀ i o, i ∈ cat ph → ops.toList[i]? = some o → (depsOf o).all (fun d => Nat.blt d ops.toList.length) = true := fun i o hm ho => by
    obtain ⟨o', r1, r3⟩ := okPh_mem h3 i hm
    rw [ho] at r1; cases r1; exact r3
  have htab : tabRight ops.toList (tabOf ops.toList (cat ph) (List.replicate ops.toList.length 0)) := tabOf_right hmem fun y o x _ hb => by
    rw [List.getD_eq_getElem?_getD, List.getElem?_replicate] at hb
    split at hb <;> simp at hb
  have hin : ∀ i, i < ops.size → i ∈ cat ph := fun i hi => by
    have := List.all_eq_true.1 h2 i (by simpa using hi)
    simpa using this
  have hlen : (cat ph).length ≤ ops.size := by simpa using Nat.le_of_ble_eq_true hle
  have hno : ∀ z, (Array.replicate ops.size false).getD z false = true → False := fun z hz => by
    simp only [Array.getD] at hz
    split at hz <;> simp at hz
  refine wp_region_any h1 (okPh_sound htab ph ops.size (Array.replicate ops.size false) hlen (by simp) (fun i hi => ?_) ?_ h3 (hs.drawn _) ?_ h4 hn hk)
  · simp [Array.getD, hi, hin i hi]
  · intro z o hz; exact (hno z hz).elim
  · intro c oc t hz; exact (hno c hz).elim
end

/-! #### the part of the heap that reads look at may grow -/
section
variable {P : Program} {g : Cfg} {w0 : World} {base : Nat} {F : Heap} {ι : Nat → Option Place} {β : Nat → Option Nat} {G : Heap} {env : List V} {H HS : Heap} {a : Act} {w : World}
theorem stepD_hs {HS' : Heap} {ops : List Oper} {o : Oper} {K : List V → Heap → Prop} (hE : isE g o = true) (hs : Abs.sub HS HS') (h : stepD P g HS ops o env H K) : stepD P g HS' ops o env H K := by
  have main : opD P g HS o env H K → opD P g HS' o env H K := by
    intro h
    unfold opD at *
    rw [hE] at h ⊢
    obtain ⟨e, he, hup⟩ := E_fun hE h
    exact hup HS' hs _ he
  unfold stepD at *
  split at h
  · exact main h
  · obtain ⟨o', t, b, h1, h2, h3, hv, h4, h5⟩ := guardK_elim h
    exact guardK_intro h1 h2 h3 hv (fun e => main (h4 e)) h5
/-- What follows an operation. -/
def NxG (P : Program) (g : Cfg) (ops : List Oper) (o : Oper) (r : List Nat) (HS : Heap) (e : List V) (h : Heap) (K : List V → Heap → Prop) : Prop :=
  match isE g o with
  | true => seqG P g ops r HS e h K
  | false => ∃ HS', Abs.sub HS HS' ∧ Abs.sub HS' h ∧ seqG P g ops r HS' e h K
theorem bubbleG {ops : List Oper} {i : Nat} {oi : Oper} {l2 : List Nat} {K : List V → Heap → Prop} (hi : ops[i]? = some oi) (gi : okG g oi = true) : ∀ {l1 : List Nat} {env : List V} {H : Heap}, (∀ x, x ∈ l1 → ∃ ox, ops[x]? = some ox ∧ swapOk g ops ox oi = true ∧ okG g ox = true) →
    Abs.sub HS H → seqG P g ops (l1 ++ i :: l2) HS env H K → stepD P g HS ops oi env H fun e h => NxG P g ops oi (l1 ++ l2) HS e h K
  | [], env, H, _, hs, h => by
    simp only [List.nil_append, seqG, hi] at h ⊢
    exact h
  | x :: l1, env, H, hx, hs, h => by
    obtain ⟨ox, h1, h2, h3⟩ := hx x List.mem_cons_self
    have hE : isE g ox = true := by
      unfold swapOk at h2
      simp only [Bool.and_eq_true] at h2
      exact h2.1.1.1.1.1
    simp only [List.cons_append, seqG, h1, hE] at h
    have h' := stepD_lift h hs fun e h hs' hk => bubbleG hi gi (fun x hm => hx x (List.mem_cons_of_mem _ hm)) hs' hk
    refine stepD_lift (swap h2 h3 gi hs h') hs fun e h hs' hk => ?_
    unfold NxG at hk ⊢
    cases hEi : isE g oi with
    | true =>
      rw [hEi] at hk
      simp only [List.cons_append, seqG, h1, hE]
      exact hk
    | false =>
      rw [hEi] at hk
      simp only at hk ⊢
      obtain ⟨e2, ⟨HS', q1, q2, q3⟩, q4, q5, q6⟩ := stepD_fun hE h3 hk
      refine ⟨HS', q1, q2, ?_⟩
      simp only [List.cons_append, seqG, h1, hE]
      refine stepD_hs hE q1 (q6 e rfl (fun _ _ => rfl) (fun _ _ => rfl) h _ fun e' r1 r2 r3 => ?_)
      have : e' = e2 := by
        apply List.ext_getElem?
        intro s
        by_cases hs2 : s ∈ wrs g ox
        · exact (r2 s hs2).symm
        · rw [← r3 s hs2, q5.2 s hs2]
      rw [this]; exact q3
theorem anyG_sound {ops : Array Oper} {Q : Exit → Act → World → Prop} {K : List V → Heap → Prop} {tab : List Nat} (htab : tabRight ops.toList tab) (hA : ∀ (i : Nat) o, ops.toList[i]? = some o → isA0 P g o = false) :
    ∀ (fuel : Nat) (rem : List Nat) (listed : Array Bool) {HS : Heap} {env : List V} {H : Heap} {ι : Nat → Option Place} {β : Nat → Option Nat} {G : Heap} {a : Act} {w : World}, rem.length ≤ fuel →
      listed.size = ops.size → (∀ i, i < ops.size → (listed.getD i true = false ↔ i ∈ rem)) → closed ops.toList (fun d => listed.getD d false) → okOrder P g ops.toList tab rem = true →
      St g w0 base F ι β G env H a w → Abs.sub HS H → Cont g w0 base F ι K (Q .normal) → seqG P g ops.toList rem HS env H K → wpAny P .any ops Q fuel listed a w := by
  intro fuel
  have hnil : ∀ (listed : Array Bool), listed.size = ops.size → (∀ i, i < ops.size → (listed.getD i true = false ↔ i ∈ ([] : List Nat))) → Region.ready .any ops listed = [] := by
    intro listed hsz hl
    apply List.eq_nil_iff_forall_not_mem.2
    intro i hi
    obtain ⟨h0, o, ho, _⟩ := mem_ready.1 hi
    have := (hl i (Array.getElem?_eq_some_iff.1 ho).1).1 h0
    simp at this
  induction fuel with
  | zero =>
    intro rem listed HS env H ι β G a w hf hsz hl hc hok hs hsub hn h
    have : rem = [] := List.eq_nil_of_length_eq_zero (by omega)
    subst this
    exact ⟨hnil listed hsz hl, hn _ _ _ _ _ _ _ (ile.refl _) hs h⟩
  | succ fuel ih =>
    intro rem listed HS env H ι β G a w hf hsz hl hc hok hs hsub hn h
    refine ⟨fun hr => ?_, fun i hi => ?_⟩
    · cases rem with
      | nil => exact hn _ _ _ _ _ _ _ (ile.refl _) hs h
      | cons x r =>
        exfalso
        obtain ⟨o, h1, h2, h3, h4, h5, h6, h7⟩ := okOrder_cons hok
        have h1' : ops[x]? = some o := by simpa using h1
        have hx : x ∈ Region.ready .any ops listed := by
          refine mem_ready.2 ⟨(hl x (Array.getElem?_eq_some_iff.1 h1').1).2 List.mem_cons_self, o, h1', fun e he hb => ?_⟩
          have hd : e.on ∈ depsOf o := depsOf_mem.2 ⟨e, he, hb, rfl⟩
          have hlt : e.on < ops.size := by
            have := List.all_eq_true.1 h5 _ hd
            rw [Nat.blt_eq] at this; simpa using this
          have hnot : e.on ∉ x :: r := by
            intro hm
            rcases List.mem_cons.1 hm with q | q
            · rw [q] at hd; exact h3 hd
            · obtain ⟨_, _, _, q3⟩ := okTail_spec.1 h2 _ q
              exact q3 hd
          have hlt' : e.on < listed.size := by omega
          have := mt (hl e.on hlt).1 hnot
          simp [Array.getD, hlt'] at this ⊢
          exact this
        rw [hr] at hx; simp at hx
    · obtain ⟨h0, oi, hoi, hdeps⟩ := mem_ready.1 hi
      have hilt : i < ops.size := (Array.getElem?_eq_some_iff.1 hoi).1
      have him : i ∈ rem := (hl i hilt).1 h0
      obtain ⟨l1, l2, rfl⟩ := List.append_of_mem him
      obtain ⟨q1, q2, q3⟩ := okOrder_out hok
      have hoi' : ops.toList[i]? = some oi := by simpa using hoi
      have gi : okG g oi = true := by
        obtain ⟨o, r1, r2, _⟩ := okOrder_mem hok i him
        rw [hoi'] at r1; cases r1; exact r2
      have hb := bubbleG (K := K) hoi' gi (fun x hx => by
        obtain ⟨ox, oi2, r1, r2, r3, r4⟩ := q2 x hx
        rw [hoi'] at r2; cases r2
        have r3' := r3.resolve_left fun hbit => by
          have hlx := htab i oi x hoi' hbit (fun d => listed.getD d false) hc (fun d hd => by
            obtain ⟨e, he, hbnd, rfl⟩ := depsOf_mem.1 hd
            exact hdeps e he hbnd)
          have hxlt : x < ops.size := by
            have : ops[x]? = some ox := by simpa using r1
            exact (Array.getElem?_eq_some_iff.1 this).1
          have := (hl x hxlt).2 (List.mem_append_left _ hx)
          have hlt' : x < listed.size := by omega
          simp [Array.getD, hlt'] at this hlx
          rw [this] at hlx; cases hlx
        unfold swapD at r3'
        rw [hA i oi hoi'] at r3'
        exact ⟨ox, r1, by simpa using r3', r4⟩) hsub h
      have step : ∀ (HS2 : Heap) {e : List V} {h : Heap} {ι' : Nat → Option Place} {β' : Nat → Option Nat} {G' : Heap} {a' : Act} {w' : World}, ile ι ι' → St g w0 base F ι' β' G' e h a' w' → Abs.sub HS2 h → seqG P g ops.toList (l1 ++ l2) HS2 e h K →
          wpAny P .any ops Q fuel (listed.setIfInBounds i true) a' w' := fun HS2 {e h ι' β' G' a' w'} hi' hs' hsub2 hk => by
        refine ih (l1 ++ l2) (listed.setIfInBounds i true) (by simp at hf ⊢; omega) (by simpa using hsz) (fun j hj => ?_) ?_ q1 hs' hsub2 (fun ι'' β'' G'' env'' H'' a'' w'' hi'' hs'' hk'' => hn _ _ _ _ _ _ _ (hi'.trans hi'') hs'' hk'') hk
        · by_cases e : i = j
          · subst e
            have hlt' : i < listed.size := by omega
            simp only [q3, iff_false]
            simp [Array.getD, hlt']
          · rw [getD_set_ne true e, hl j hj]
            simp only [List.mem_append, List.mem_cons]
            constructor
            · rintro (h | h | h)
              · exact .inl h
              · exact absurd h.symm e
              · exact .inr h
            · rintro (h | h)
              · exact .inl h
              · exact .inr (.inr h)
        · intro z o hz ho d hd
          by_cases e : i = z
          · subst e
            rw [hoi'] at ho; cases ho
            obtain ⟨e', he, hbnd, rfl⟩ := depsOf_mem.1 hd
            exact getD_set_true (hdeps e' he hbnd)
          · have hz' : listed.getD z false = true := by
              have := getD_set_ne (listed := listed) (i := i) (j := z) false e
              simp only at hz
              rw [this] at hz; exact hz
            exact getD_set_true (hc z o hz' ho d hd)
      refine wpOp_sound hs hoi hsub (fun ι' β' G' env' H' a' w' hi' hs' hk => ?_) hb
      have hk2 := hk.2
      unfold NxG at hk2
      split at hk2
      · exact step HS hi' hs' hk.1 hk2
      · obtain ⟨HS', z1, z2, z3⟩ := hk2
        exact step HS' hi' hs' z2 z3
theorem drawG_sound {id : Nat} {ops : Array Oper} {order : List Nat} {Q : Exit → Act → World → Prop} {K : List V → Heap → Prop} (hs : St g w0 base F ι β G env H a w) (hn : Cont g w0 base F ι K (Q .normal)) (hk : drawG P g ops.toList order env H K) :
    (Code.region id ops true).wp P Q a w := by
  unfold drawG at hk
  split at hk
  case h_2 => exact hk.elim
  rename_i hokG
  obtain ⟨HS, hsub, hk⟩ := hk
  unfold okDrawG at hokG
  rw [Bool.and_eq_true] at hokG
  obtain ⟨hok, hall⟩ := hokG
  unfold okDraw at hok
  simp only [Bool.and_eq_true] at hok
  obtain ⟨⟨⟨h1, hle⟩, h2⟩, h3⟩ := hok
  have hmem : ∀ i o, i ∈ order → ops.toList[i]? = some o → (depsOf o).all (fun d => Nat.blt d ops.toList.length) = true := fun i o hm ho => by
    obtain ⟨o', r1, _, r3⟩ := okOrder_mem h3 i hm
    rw [ho] at r1; cases r1; exact r3
  have htab : tabRight ops.toList (tabOf ops.toList order (List.replicate ops.toList.length 0)) := tabOf_right hmem fun y o x _ hb => by
    rw [List.getD_eq_getElem?_getD, List.getElem?_replicate] at hb
    split at hb <;> simp at hb
  have hin : ∀ i, i < ops.size → i ∈ order := fun i hi => by
    have := List.all_eq_true.1 h2 i (by simpa using hi)
    simpa using this
  have hlen : order.length ≤ ops.size := by simpa using Nat.le_of_ble_eq_true hle
  have hA : ∀ (i : Nat) o, ops.toList[i]? = some o → isA0 P g o = false := fun i o ho => by
    have := List.all_eq_true.1 hall o (List.mem_of_getElem? ho)
    simpa using this
  refine wp_region_any h1 (anyG_sound htab hA ops.size order (Array.replicate ops.size false) hlen (by simp) (fun i hi => ?_) ?_ h3 (hs.drawn _) hsub hn hk)
  · simp [Array.getD, hi, hin i hi]
  · intro z o hz
    exfalso
    simp only [Array.getD] at hz
    split at hz <;> simp at hz
end
end Go.Abs
