/-
Deep values: how a value with slices inside is read, and how it is held as one's own.
-/
import Derived.Test.YtgiogphdnpeddaaGreatAbsV
set_option linter.all false
namespace Go.Abs

inductive All2 {α β : Type} (R : α → β → Prop) : List α → List β → Prop
  | nil : All2 R [] []
  | cons {a b as bs} : R a b → All2 R as bs → All2 R (a :: as) (b :: bs)
theorem All2.len {α β : Type} {R : α → β → Prop} {as : List α} {bs : List β} (h : All2 R as bs) : as.length = bs.length := by
  induction h with
  | nil => rfl
  | cons _ _ ih => simp [ih]
theorem All2.get {α β : Type} {R : α → β → Prop} {as : List α} {bs : List β} (h : All2 R as bs) : ∀ {i : Nat} (h1 : i < as.length) (h2 : i < bs.length), R as[i] bs[i] := by
  induction h with
  | nil => intro i h1; simp at h1
  | cons hr _ ih =>
    intro i h1 h2
    cases i with
    | zero => exact hr
    | succ i => exact ih (by simpa using h1) (by simpa using h2)
theorem All2.imp {α β : Type} {R S : α → β → Prop} (f : ∀ a b, R a b → S a b) {as : List α} {bs : List β} (h : All2 R as bs) : All2 S as bs := by
  induction h with
  | nil => exact .nil
  | cons hr _ ih => exact .cons (f _ _ hr) ih

/-- What reads a slice; the flag says whether it may lie outside the heap. -/
def Rb (b : Bool) (H : Heap) (sz : Nat) (v : V) (rows : List (List V)) : Prop := Rd H sz v rows ∧ (b = false → ∀ r, v ≠ .ro r)
theorem Rb.mono {b : Bool} {H H' : Heap} {sz : Nat} {v : V} {rows : List (List V)} (h : Rb b H sz v rows) (hs : Abs.sub H H') : Rb b H' sz v rows := ⟨h.1.mono hs, h.2⟩
theorem Rb.any {H : Heap} {sz : Nat} {v : V} {rows : List (List V)} (h : Rb false H sz v rows) (b : Bool) : Rb b H sz v rows := ⟨h.1, fun _ => h.2 rfl⟩
theorem Held.rb {H0 H : Heap} {sz : Nat} {rows : List (List V)} {v : V} (h : Held H0 sz rows v H) (hr : ∀ r ∈ rows, r.length = sz) : Rb false H sz v rows := ⟨(h.sl hr).1, fun _ => (h.sl hr).2.1⟩
theorem Chain.rb {es : List Ent} {e : Ent} {H0 H : Heap} (h : Chain H0 es H) (he : e ∈ es) (hr : ∀ r ∈ e.rows, r.length = e.sz) : Rb false H e.sz e.v e.rows := by
  obtain ⟨A, B, rfl⟩ := List.append_of_mem he
  obtain ⟨Hm, _, h2⟩ := h.top
  exact h2.rb hr

/-- How values of one kind lie in memory: n cells each; how they are read; how they are held (the slices inside, as entries of a chain). -/
structure Ty (α : Type) where
  n : Nat
  rd : Heap → α → List V → Prop
  own : α → List V → List Ent → Prop
  len : ∀ {H a vs}, rd H a vs → vs.length = n
  mono : ∀ {H H' a vs}, rd H a vs → Abs.sub H H' → rd H' a vs
  ok : ∀ {a vs es}, own a vs es → ∀ e ∈ es, ∀ r ∈ e.rows, r.length = e.sz
  ofOwn : ∀ {H a vs es}, own a vs es → (∀ e ∈ es, Rb false H e.sz e.v e.rows) → rd H a vs

def Dp {α : Type} (T : Ty α) (H0 : Heap) (a : α) (vs : List V) (H : Heap) : Prop := ∃ es, T.own a vs es ∧ Chain H0 es H

variable {α β : Type} {T : Ty α} {U : Ty β} {b : Bool}
theorem Dp.sub {H0 H : Heap} {a : α} {vs : List V} (h : Dp T H0 a vs H) : Abs.sub H0 H := by
  obtain ⟨es, _, h⟩ := h; exact h.sub
theorem Dp.rd {H0 H : Heap} {a : α} {vs : List V} (h : Dp T H0 a vs H) : T.rd H a vs := by
  obtain ⟨es, h1, h2⟩ := h
  exact T.ofOwn h1 fun e he => h2.rb he (T.ok h1 e he)
theorem Dp.swap {H0 H H' : Heap} {a : α} {c : β} {us vs : List V} (h : Dp T H0 a us H) (h' : Dp U H c vs H') : ∃ Hm, Dp U H0 c vs Hm ∧ Dp T Hm a us H' := by
  obtain ⟨es, h1, h2⟩ := h
  obtain ⟨fs, g1, g2⟩ := h'
  obtain ⟨Hm, a, b⟩ := h2.swap g2
  exact ⟨Hm, ⟨fs, g1, a⟩, es, h1, b⟩
theorem Dp.rise {H0 H Hb : Heap} {a : α} {vs : List V} (h : Dp T H0 a vs H) (hs : Abs.sub H Hb) : ∃ H0', Abs.sub H0 H0' ∧ Dp T H0' a vs Hb := by
  obtain ⟨es, h1, h2⟩ := h
  obtain ⟨H0', g1, g2⟩ := h2.rise hs
  exact ⟨H0', g1, es, h1, g2⟩
theorem Dp.shrink {H0 H1 H : Heap} {a : α} {vs : List V} (h : Dp T H1 a vs H) (hs : Abs.sub H0 H1) : ∃ H', Dp T H0 a vs H' ∧ Abs.sub H' H := by
  obtain ⟨es, h1, h2⟩ := h
  obtain ⟨H', g1, g2⟩ := h2.shrink hs
  exact ⟨H', ⟨es, h1, g1⟩, g2⟩
theorem Dp.heldUnder {H0 H H' : Heap} {a : α} {vs : List V} {sz : Nat} {rows : List (List V)} {v : V} (h : Dp T H0 a vs H) (h' : Held H sz rows v H') : ∃ Hm, Held H0 sz rows v Hm ∧ Dp T Hm a vs H' := by
  obtain ⟨es, h1, h2⟩ := h
  obtain ⟨Hm, g1, g2⟩ := h2.under h'
  exact ⟨Hm, g1, es, h1, g2⟩
theorem Dp.heldOver {H0 H H' : Heap} {a : α} {vs : List V} {sz : Nat} {rows : List (List V)} {v : V} (h : Held H0 sz rows v H) (h' : Dp T H a vs H') : ∃ Hm, Dp T H0 a vs Hm ∧ Held Hm sz rows v H' := by
  obtain ⟨es, h1, h2⟩ := h'
  obtain ⟨Hm, g1, g2⟩ := (Chain.one (e := ⟨sz, rows, v⟩)).2 h |>.swap h2
  exact ⟨Hm, ⟨es, h1, g1⟩, Chain.one.1 g2⟩
/-- What is deep and one's own, handed back over what stood before. -/
theorem Ret.dp {R : V → Heap → Prop} {H Ha H' : Heap} {a : α} {vs : List V} {f : List V → V} (h : Dp T Ha a vs H') (hs : Abs.sub H Ha) (hk : ∀ us H'', Dp T H a us H'' → R (f us) H'') : Ret R (f vs) H' := by
  obtain ⟨H'', h1, h2⟩ := h.shrink hs
  exact Ret.shr (hk _ _ h1) rfl h2

/-! #### slices of deep values -/
inductive OwnL (T : Ty α) : List α → List (List V) → List Ent → Prop
  | nil : OwnL T [] [] []
  | cons {a r es as rs ess} : T.own a r es → OwnL T as rs ess → OwnL T (a :: as) (r :: rs) (es ++ ess)
theorem OwnL.len {as : List α} {rs : List (List V)} {es : List Ent} (h : OwnL T as rs es) : as.length = rs.length := by
  induction h with
  | nil => rfl
  | cons _ _ ih => simp [ih]
theorem OwnL.ok {as : List α} {rs : List (List V)} {es : List Ent} (h : OwnL T as rs es) : ∀ e ∈ es, ∀ r ∈ e.rows, r.length = e.sz := by
  induction h with
  | nil => intro e he; simp at he
  | cons h1 _ ih =>
    intro e he
    rcases List.mem_append.1 he with he | he
    · exact T.ok h1 e he
    · exact ih e he
theorem OwnL.all {as : List α} {rs : List (List V)} {es : List Ent} {H : Heap} (h : OwnL T as rs es) (hr : ∀ e ∈ es, Rb false H e.sz e.v e.rows) : All2 (T.rd H) as rs := by
  induction h with
  | nil => exact .nil
  | cons h1 _ ih => exact .cons (T.ofOwn h1 fun e he => hr e (List.mem_append_left _ he)) (ih fun e he => hr e (List.mem_append_right _ he))
theorem OwnL.append {as bs : List α} {rs ss : List (List V)} {es fs : List Ent} (h : OwnL T as rs es) (h' : OwnL T bs ss fs) : OwnL T (as ++ bs) (rs ++ ss) (es ++ fs) := by
  induction h with
  | nil => exact h'
  | cons h1 _ ih => rw [List.append_assoc]; exact .cons h1 ih
theorem OwnL.one {a : α} {r : List V} {es : List Ent} (h : T.own a r es) : OwnL T [a] [r] es := by
  have := OwnL.cons h OwnL.nil
  simpa using this
theorem OwnL.cut {as : List α} {rs : List (List V)} {es : List Ent} (h : OwnL T as rs es) : ∀ {i : Nat} (hi : i < as.length), ∃ r A e B, rs[i]? = some r ∧ OwnL T (as.take i) (rs.take i) A ∧ T.own as[i] r e ∧ OwnL T (as.drop (i + 1)) (rs.drop (i + 1)) B ∧ es = A ++ e ++ B := by
  induction h with
  | nil => intro i hi; simp at hi
  | @cons a r es as rs ess h1 h2 ih =>
    intro i hi
    cases i with
    | zero => exact ⟨r, [], es, ess, rfl, .nil, h1, by simpa using h2, by simp⟩
    | succ i =>
      obtain ⟨r', A, e, B, g1, g2, g3, g4, rfl⟩ := ih (i := i) (by simpa using hi)
      exact ⟨r', es ++ A, e, B, by simpa using g1, .cons h1 g2, g3, by simpa using g4, by simp⟩
theorem OwnL.put {as : List α} {rs : List (List V)} {A e B : List Ent} {i : Nat} {a : α} {r : List V} (hi : i < as.length) (hl : as.length = rs.length) (h1 : OwnL T (as.take i) (rs.take i) A) (h2 : T.own a r e) (h3 : OwnL T (as.drop (i + 1)) (rs.drop (i + 1)) B) : OwnL T (as.set i a) (rs.set i r) (A ++ e ++ B) := by
  have e1 : as.set i a = as.take i ++ [a] ++ as.drop (i + 1) := by rw [List.set_eq_take_append_cons_drop, if_pos hi]; simp
  have e2 : rs.set i r = rs.take i ++ [r] ++ rs.drop (i + 1) := by rw [List.set_eq_take_append_cons_drop, if_pos (by omega)]; simp
  rw [e1, e2]
  exact (h1.append (.one h2)).append h3

def sliceT (b : Bool) (T : Ty α) : Ty (List α) where
  n := 1
  rd H as vs := ∃ w rows, vs = [w] ∧ Rb b H T.n w rows ∧ All2 (T.rd H) as rows
  own as vs es := ∃ w rows ess, vs = [w] ∧ (∀ r ∈ rows, r.length = T.n) ∧ OwnL T as rows ess ∧ es = ess ++ [⟨T.n, rows, w⟩]
  len := by rintro H a vs ⟨w, rows, rfl, _⟩; rfl
  mono := by rintro H H' a vs ⟨w, rows, rfl, h1, h2⟩ hs; exact ⟨w, rows, rfl, h1.mono hs, h2.imp fun _ _ h => T.mono h hs⟩
  ok := by
    rintro a vs es ⟨w, rows, ess, rfl, h0, h1, rfl⟩ e he r hr
    rcases List.mem_append.1 he with he | he
    · exact h1.ok e he r hr
    · simp at he; subst he; exact h0 r hr
  ofOwn := by
    rintro H a vs es ⟨w, rows, ess, rfl, h0, h1, rfl⟩ h
    exact ⟨w, rows, rfl, (h ⟨T.n, rows, w⟩ (by simp)).any b, h1.all fun e he => h e (List.mem_append_left _ he)⟩

theorem rdS_len {H : Heap} {as : List α} {w : V} (h : (sliceT b T).rd H as [w]) : lenOf w = some as.length := by
  obtain ⟨w', rows, e, h1, h2⟩ := h
  cases e
  rw [h1.1.len, h2.len]
theorem rdS_cell {H : Heap} {as : List α} {w : V} (h : (sliceT b T).rd H as [w]) : cellsOf w = [w] ∧ cellOk w = true ∧ notAny w = true := by
  obtain ⟨w', rows, e, h1, h2⟩ := h
  cases e
  exact h1.1.cell
theorem rdS_idx {H : Heap} {as : List α} {w : V} {k : IntKind} {i : Int} {K : V → Prop} (h : (sliceT b T).rd H as [w]) (h0 : 0 ≤ i) (hi : i.toNat < as.length) (hk : ∀ p row, Pt H p row 0 → T.rd H as[i.toNat] row → K p) : bnd (aIndex H T.n w (.int k i)) K := by
  obtain ⟨w', rows, e, h1, h2⟩ := h
  cases e
  have := h2.len
  have hi' : i.toNat < rows.length := by omega
  refine h1.1.idx h0 (by omega) fun p hp => hk p _ hp ?_
  have := h2.get hi hi'
  simpa [hi'] using this
theorem rdS_at {H Hb : Heap} {as : List α} {w : V} {k : IntKind} {i : Int} {K : V → Prop} (h : (sliceT b T).rd H as [w]) (hs : Abs.sub H Hb) (h0 : 0 ≤ i) (hi : i.toNat < as.length) (hk : ∀ p row, Pt Hb p row 0 → T.rd H as[i.toNat] row → K p) : bnd (aIndex Hb T.n w (.int k i)) K := by
  obtain ⟨w', rows, e, h1, h2⟩ := h
  cases e
  have := h2.len
  have hi' : i.toNat < rows.length := by omega
  refine (h1.1.mono hs).idx h0 (by omega) fun p hp => hk p _ hp ?_
  have := h2.get hi hi'
  simpa [hi'] using this
theorem dpS_cell {H0 H : Heap} {as : List α} {w : V} (h : Dp (sliceT b T) H0 as [w] H) : cellsOf w = [w] ∧ cellOk w = true ∧ notAny w = true := rdS_cell h.rd
theorem dpS_nil {H : Heap} : Dp (sliceT b T) H [] [.nils] H := ⟨[⟨T.n, [], .nils⟩], ⟨.nils, [], [], rfl, by simp, .nil, rfl⟩, H, Held.nil, rfl⟩
theorem dpS_new {H : Heap} {o : Nat} (ho : H o = none) : Dp (sliceT b T) H [] [.slice o 0 0 (some 0)] (upd H o ⟨T.n, []⟩) := ⟨[⟨T.n, [], .slice o 0 0 (some 0)⟩], ⟨_, [], [], rfl, by simp, .nil, rfl⟩, Chain.one.2 (Held.new ho)⟩
theorem dpS_fill {H : Heap} {o n : Nat} {as : List α} {rows : List (List V)} (ho : H o = none) (hn : n = rows.length) (hw : ∀ r ∈ rows, r.length = T.n) (hr : OwnL T as rows []) : Dp (sliceT b T) H as [.slice o 0 n (some n)] (upd H o ⟨T.n, rows⟩) :=
  ⟨[⟨T.n, rows, .slice o 0 n (some n)⟩], ⟨_, rows, [], rfl, hw, hr, rfl⟩, Chain.one.2 (Held.full ho hn)⟩

/-- A deep element is appended. -/
theorem dpS_app {H0 H H1 Hb : Heap} {as : List α} {w : V} {a : α} {r : List V} {by_ : Nat} {K : V → Heap → Prop} (h : Dp (sliceT b T) H0 as [w] H) (ha : Dp T H a r H1) (hs : Abs.sub H1 Hb) (hb : (as.length + 1) * by_ ≤ 140737488355328)
    (hk : ∀ v' H' H'', Dp (sliceT b T) H0 (as ++ [a]) [v'] H'' → Abs.sub H'' H' → K v' H') : appendK Hb T.n by_ w [r] K := by
  obtain ⟨es, ⟨w', rows, ess, e, h0, h1, rfl⟩, h2⟩ := h
  cases e
  obtain ⟨fs, g1, g2⟩ := ha
  have hl := h1.len
  have hc : Chain H0 ((ess ++ ⟨T.n, rows, w⟩ :: fs)) H1 := by
    have := Chain.append.2 ⟨H, h2, g2⟩
    simpa using this
  obtain ⟨Hm, c1, c2⟩ := hc.top
  have hr : r.length = T.n := T.len (T.ofOwn (H := H1) g1 fun e he => g2.rb he (T.ok g1 e he))
  refine c2.append hs (by simp) (by simpa [← hl] using hb) fun v' H' H'' q1 q2 => ?_
  refine hk v' H' H'' ⟨_, ⟨v', rows ++ [r], ess ++ fs, rfl, ?_, h1.append (.one g1), rfl⟩, ?_⟩ q2
  · intro x hx
    rcases List.mem_append.1 hx with hx | hx
    · exact h0 x hx
    · simp at hx; subst hx; exact hr
  · exact c1.push q1
/-- An element, opened: the slices inside it on top. -/
theorem dpS_open {H0 H : Heap} {as : List α} {w : V} {i : Nat} (h : Dp (sliceT b T) H0 as [w] H) (hi : i < as.length) :
    ∃ rows A e B, rows.length = as.length ∧ (∀ r ∈ rows, r.length = T.n) ∧ OwnL T (as.take i) (rows.take i) A ∧ (∃ r, rows[i]? = some r ∧ T.own as[i] r e) ∧ OwnL T (as.drop (i + 1)) (rows.drop (i + 1)) B ∧ Chain H0 (A ++ e ++ B ++ [⟨T.n, rows, w⟩]) H := by
  obtain ⟨es, ⟨w', rows, ess, e, h0, h1, rfl⟩, h2⟩ := h
  cases e
  obtain ⟨r, A, e, B, g1, g2, g3, g4, rfl⟩ := h1.cut hi
  exact ⟨rows, A, e, B, h1.len.symm, h0, g2, ⟨r, g1, g3⟩, g4, h2⟩
theorem chain_drop : ∀ {A e B : List Ent} {H0 H : Heap}, Chain H0 (A ++ e ++ B) H → ∃ H', Chain H0 (A ++ B) H' ∧ Abs.sub H' H
  | A, [], B, H0, H, h => ⟨H, by simpa using h, Abs.sub_refl _⟩
  | A, x :: e, B, H0, H, h => by
    obtain ⟨Hm, h1, h2⟩ := Chain.top (A := A) (B := e ++ B) (by simpa using h)
    obtain ⟨H', h3, h4⟩ := chain_drop (A := A) (e := e) (B := B) (by simpa using h1)
    exact ⟨H', h3, sub_trans h4 h2.sub⟩
/-- An element is written over with another one. -/
theorem dpS_set {H0 H H1 Hb : Heap} {as : List α} {w : V} {a : α} {r : List V} {k : IntKind} {i : Int} {K : V → Prop} (h : Dp (sliceT b T) H0 as [w] H) (ha : Dp T H a r H1) (hs : Abs.sub H1 Hb) (h0 : 0 ≤ i) (hi : i.toNat < as.length)
    (hk : ∀ p, (∀ (v : V) (K' : Heap → Prop), (∀ row, row.length = T.n → stz T.n row 0 v = some r) → (∀ H' H'', Dp (sliceT b T) H0 (as.set i.toNat a) [w] H'' → Abs.sub H'' H' → K' H') → bnd (aSt T.n Hb p v) K') → K p) : bnd (aIndex Hb T.n w (.int k i)) K := by
  obtain ⟨rows, A, e, B, hl, hw, o1, ⟨r0, o2, o3⟩, o4, hc⟩ := dpS_open h hi
  obtain ⟨fs, g1, g2⟩ := ha
  have hc2 : Chain H0 (A ++ e ++ (B ++ [⟨T.n, rows, w⟩] ++ fs)) H1 := by
    have := Chain.append.2 ⟨H, hc, g2⟩
    simpa using this
  obtain ⟨H', d1, d2⟩ := chain_drop hc2
  have d3 : Chain H0 ((A ++ B) ++ ⟨T.n, rows, w⟩ :: fs) H' := by simpa using d1
  obtain ⟨Hm, c1, c2⟩ := d3.top
  have c2 : Held Hm T.n rows w H' := c2
  refine c2.pt (sub_trans d2 hs) h0 (by omega) fun p hp => hk p fun v K' hv hK => ?_
  have hr : r.length = T.n := T.len (T.ofOwn (H := H1) g1 fun e he => g2.rb he (T.ok g1 e he))
  have hir : i.toNat < rows.length := by omega
  refine hp.st (row' := r) (hv _ ?_) fun H' H'' q1 q2 => ?_
  · simp only [List.getD_eq_getElem?_getD, List.getElem?_eq_getElem hir, Option.getD_some]
    exact hw _ (List.getElem_mem hir)
  · refine hK H' H'' ⟨_, ⟨w, rows.set i.toNat r, A ++ fs ++ B, rfl, ?_, OwnL.put hi hl.symm o1 g1 o4, rfl⟩, ?_⟩ q2
    · intro x hx
      rcases List.mem_or_eq_of_mem_set hx with hx | rfl
      · exact hw _ hx
      · exact hr
    · have := c1.push q1
      refine this.perm ?_
      refine List.Perm.append_right _ ?_
      rw [List.append_assoc, List.append_assoc]
      exact List.Perm.append_left _ List.perm_append_comm

theorem perm_mid {A e B O : List Ent} : (A ++ e ++ B ++ O).Perm ((A ++ B ++ O) ++ e) := by
  have h : (e ++ (B ++ O)).Perm ((B ++ O) ++ e) := List.perm_append_comm
  have := h.append_left A
  simpa using this
/-- An element, as a part that may change: what it reads, and the way back. -/
theorem dpS_elem {H0 H : Heap} {as : List α} {w : V} {i : Nat} (h : Dp (sliceT b T) H0 as [w] H) (hi : i < as.length) :
    ∃ rows r Hm, Rd H T.n w rows ∧ rows.length = as.length ∧ rows[i]? = some r ∧ Dp T Hm as[i] r H ∧ Abs.sub H0 Hm ∧ ∀ a' Hx, Dp T Hm a' r Hx → Dp (sliceT b T) H0 (as.set i a') [w] Hx := by
  obtain ⟨rows, A, e, B, hl, hw, o1, ⟨r, o2, o3⟩, o4, hc⟩ := dpS_open h hi
  have hrd : Rd H T.n w rows := hc.rd (e := ⟨T.n, rows, w⟩) (by simp) hw
  obtain ⟨Hm, c1, c2⟩ := Chain.append.1 (hc.perm perm_mid)
  refine ⟨rows, r, Hm, hrd, hl, o2, ⟨e, o3, c2⟩, c1.sub, fun a' Hx hx => ?_⟩
  obtain ⟨e', g1, g2⟩ := hx
  have hir : i < rows.length := by omega
  have hset : rows.set i r = rows := by
    have : rows[i] = r := by simpa [hir] using o2
    rw [← this]; simp
  refine ⟨_, ⟨w, rows, A ++ e' ++ B, rfl, hw, ?_, rfl⟩, ?_⟩
  · have := OwnL.put hi hl.symm o1 g1 o4
    rwa [hset] at this
  · exact (Chain.append.2 ⟨Hm, c1, g2⟩).perm perm_mid.symm

/-- A place in an element of one's own. -/
def ElPt (b : Bool) (T : Ty α) (H0 : Heap) (as : List α) (w : V) (Hb : Heap) (p : V) (i c : Nat) (r : List V) : Prop :=
  ∃ rows ess Hm, (∀ x ∈ rows, x.length = T.n) ∧ OwnL T as rows ess ∧ Chain H0 ess Hm ∧ OwnPt Hm T.n rows w Hb p i c ∧ rows[i]? = some r
theorem dpS_pt {H0 H Hb : Heap} {as : List α} {w : V} {k : IntKind} {i : Int} {K : V → Prop} (h : Dp (sliceT b T) H0 as [w] H) (hs : Abs.sub H Hb) (h0 : 0 ≤ i) (hi : i.toNat < as.length)
    (hk : ∀ p r, T.rd H as[i.toNat] r → ElPt b T H0 as w Hb p i.toNat 0 r → K p) : bnd (aIndex Hb T.n w (.int k i)) K := by
  have hrd := h.rd
  obtain ⟨es, ⟨w', rows, ess, e, h1, h2, rfl⟩, h3⟩ := h
  cases e
  have hl := h2.len
  obtain ⟨Hm, c1, c2⟩ := Chain.append.1 h3
  have c2 : Held Hm T.n rows w H := Chain.one.1 c2
  have hir : i.toNat < rows.length := by omega
  have hall : All2 (T.rd H) as rows := h2.all fun e he => h3.rb (List.mem_append_left _ he) (h2.ok e he)
  refine c2.pt hs h0 (by omega) fun p hp => hk p rows[i.toNat] (hall.get hi hir) ⟨rows, ess, Hm, h1, h2, c1, hp, by simp [hir]⟩
theorem ElPt.fld {H0 Hb : Heap} {as : List α} {w p : V} {i c off : Nat} {r : List V} {K : V → Prop} (h : ElPt b T H0 as w Hb p i c r) (hk : ∀ q, ElPt b T H0 as w Hb q i (c + off) r → K q) : bnd (aField off p) K := by
  obtain ⟨rows, ess, Hm, h1, h2, h3, h4, h5⟩ := h
  exact h4.fld fun q hq => hk q ⟨rows, ess, Hm, h1, h2, h3, hq, h5⟩
theorem ElPt.ld {H0 Hb : Heap} {as : List α} {w p : V} {i c : Nat} {r : List V} (h : ElPt b T H0 as w Hb p i c r) (f : Bool) (m : Nat) : aLd f m Hb p = partOf f m r c := by
  obtain ⟨rows, ess, Hm, h1, h2, h3, h4, h5⟩ := h
  rw [h4.ld, List.getD_eq_getElem?_getD, h5]; rfl
theorem ElPt.st {H0 Hb : Heap} {as : List α} {w p v : V} {i c m : Nat} {r r' : List V} {a' : α} {K : Heap → Prop} (h : ElPt b T H0 as w Hb p i c r) (hi : i < as.length) (hz : stz m r c v = some r') (hr : r'.length = T.n) (ho : ∀ es, T.own as[i] r es → T.own a' r' es)
    (hk : ∀ H' H'', Dp (sliceT b T) H0 (as.set i a') [w] H'' → Abs.sub H'' H' → K H') : bnd (aSt m Hb p v) K := by
  obtain ⟨rows, ess, Hm, h1, h2, h3, h4, h5⟩ := h
  refine h4.st (row' := r') (by rw [List.getD_eq_getElem?_getD, h5]; exact hz) fun H' H'' q1 q2 => hk H' H'' ?_ q2
  obtain ⟨r0, A, e, B, g1, g2, g3, g4, rfl⟩ := h2.cut hi
  have : r0 = r := by rw [h5] at g1; cases g1; rfl
  subst this
  refine ⟨_, ⟨w, rows.set i r', A ++ e ++ B, rfl, ?_, OwnL.put hi h2.len g2 (ho _ g3) g4, rfl⟩, h3.push q1⟩
  intro x hx
  rcases List.mem_or_eq_of_mem_set hx with hx | rfl
  · exact h1 _ hx
  · exact hr

/-- A slice of fixed length that is filled from the left. -/
def Fil (T : Ty α) (H0 : Heap) (as : List α) (N : Nat) (z : List V) (o : Nat) (H : Heap) : Prop :=
  ∃ rows ess Hb, OwnL T as rows ess ∧ (∀ r ∈ rows, r.length = T.n) ∧ as.length ≤ N ∧ Chain H0 ess Hb ∧ Held Hb T.n (rows ++ List.replicate (N - as.length) z) (.slice o 0 N (some N)) H
theorem Fil.sub {H0 H : Heap} {as : List α} {N o : Nat} {z : List V} (h : Fil T H0 as N z o H) : Abs.sub H0 H := by
  obtain ⟨rows, ess, Hb, h1, h2, h3, h4, h5⟩ := h
  exact sub_trans h4.sub h5.sub
theorem Fil.start {H0 : Heap} {N o : Nat} {z : List V} (h : H0 o = none) : Fil T H0 [] N z o (upd H0 o ⟨T.n, List.replicate N z⟩) :=
  ⟨[], [], H0, .nil, by simp, by simp, rfl, by simpa using Held.full (rows := List.replicate N z) h (by simp)⟩
theorem Fil.done {H0 H : Heap} {as : List α} {N o : Nat} {z : List V} (h : Fil T H0 as N z o H) (hn : as.length = N) : Dp (sliceT b T) H0 as [.slice o 0 N (some N)] H := by
  obtain ⟨rows, ess, Hb, h1, h2, h3, h4, h5⟩ := h
  subst hn
  simp at h5
  exact ⟨_, ⟨_, rows, ess, rfl, h2, h1, rfl⟩, h4.push h5⟩
theorem Fil.step {H0 H H1 Hb : Heap} {as : List α} {N o : Nat} {z : List V} {a : α} {r : List V} {k : IntKind} {j : Nat} {K : V → Prop} (h : Fil T H0 as N z o H) (ha : Dp T H a r H1) (hj : as.length = j) (hn : j < N) (hs : Abs.sub H1 Hb)
    (hk : ∀ p, (∀ (v : V) (K' : Heap → Prop), stz T.n z 0 v = some r → (∀ H' H'', Fil T H0 (as ++ [a]) N z o H'' → Abs.sub H'' H' → K' H') → bnd (aSt T.n Hb p v) K') → K p) : bnd (aIndex Hb T.n (.slice o 0 N (some N)) (.int k (j : Nat))) K := by
  subst hj
  obtain ⟨rows, ess, Hm, h1, h2, h3, h4, h5⟩ := h
  obtain ⟨fs, g1, g2⟩ := ha
  have hl := h1.len
  have hr : r.length = T.n := T.len (T.ofOwn (H := H1) g1 fun e he => g2.rb he (T.ok g1 e he))
  obtain ⟨Hm', q1, q2⟩ := Chain.swap ((Chain.one (e := ⟨T.n, rows ++ List.replicate (N - as.length) z, .slice o 0 N (some N)⟩)).2 h5) g2
  have q2 : Held Hm' T.n (rows ++ List.replicate (N - as.length) z) (.slice o 0 N (some N)) H1 := Chain.one.1 q2
  refine q2.pt hs (by omega) (by simp; omega) fun p hp => hk p fun v K' hv hK => ?_
  have hg : (rows ++ List.replicate (N - as.length) z).getD (as.length : Int).toNat [] = z := by
    have h0 : 0 < N - as.length := by omega
    rw [List.getD_eq_getElem?_getD, List.getElem?_append_right (by simp; omega)]
    have hz0 : (as.length : Int).toNat - rows.length = 0 := by omega
    rw [hz0, List.getElem?_replicate, if_pos h0]
    rfl
  refine hp.st (row' := r) (by rw [hg]; exact hv) fun H' H'' w1 w2 => hK H' H'' ⟨rows ++ [r], ess ++ fs, Hm', h1.append (.one g1), ?_, by simp; omega, Chain.append.2 ⟨Hm, h4, q1⟩, ?_⟩ w2
  · intro x hx
    rcases List.mem_append.1 hx with hx | hx
    · exact h2 x hx
    · simp at hx; subst hx; exact hr
  · have e : (rows ++ List.replicate (N - as.length) z).set (as.length : Int).toNat r = (rows ++ [r]) ++ List.replicate (N - (as ++ [a]).length) z := by
      rw [List.set_append_right _ _ (by simp; omega)]
      simp [hl]
      rw [show N - rows.length = (N - (rows.length + 1)) + 1 by omega, List.replicate_succ]
      simp
    rw [e] at w1; exact w1

/-! #### sums over a list -/
def sumF (f : α → Nat) (as : List α) : Nat := (as.map f).sum
theorem sumF_nil (f : α → Nat) : sumF f [] = 0 := rfl
theorem sumF_succ {f : α → Nat} {as : List α} {i : Nat} (h : i < as.length) : sumF f (as.take (i + 1)) = sumF f (as.take i) + f as[i] := by
  unfold sumF
  rw [List.take_succ_eq_append_getElem h, List.map_append, List.sum_append]
  simp only [List.map_cons, List.map_nil, List.sum_cons, List.sum_nil, Nat.add_zero]
theorem sumF_le {f : α → Nat} {as : List α} (i : Nat) : sumF f (as.take i) ≤ sumF f as := by
  have : sumF f as = sumF f (as.take i) + sumF f (as.drop i) := by
    unfold sumF
    rw [← List.sum_append, ← List.map_append, List.take_append_drop]
  omega
theorem le_sumF {f : α → Nat} {as : List α} {i : Nat} (h : i < as.length) : f as[i] ≤ sumF f as := by
  have := sumF_succ (f := f) h
  have := sumF_le (f := f) (as := as) (i + 1)
  omega

/-! #### flat values -/
def flatT (n : Nat) (en : α → List V) (hn : ∀ a, (en a).length = n) : Ty α where
  n := n
  rd _ a vs := vs = en a
  own a vs es := vs = en a ∧ es = []
  len := by rintro H a vs rfl; exact hn a
  mono := by rintro H H' a vs h _; exact h
  ok := by rintro a vs es ⟨_, rfl⟩ e he; simp at he
  ofOwn := by rintro H a vs es ⟨rfl, _⟩ _; rfl
theorem flat_all {n : Nat} {en : α → List V} {hn : ∀ a, (en a).length = n} {H : Heap} {as : List α} {rows : List (List V)} (h : All2 ((flatT n en hn).rd H) as rows) : rows = as.map en := by
  induction h with
  | nil => rfl
  | cons h1 _ ih => simp only [List.map_cons]; rw [ih]; congr 1
theorem flat_all' {n : Nat} {en : α → List V} {hn : ∀ a, (en a).length = n} {H : Heap} : ∀ (as : List α), All2 ((flatT n en hn).rd H) as (as.map en)
  | [] => .nil
  | _ :: as => .cons rfl (flat_all' as)
theorem flat_own {n : Nat} {en : α → List V} {hn : ∀ a, (en a).length = n} {as : List α} {rows : List (List V)} {es : List Ent} (h : OwnL (flatT n en hn) as rows es) : rows = as.map en ∧ es = [] := by
  induction h with
  | nil => exact ⟨rfl, rfl⟩
  | cons h1 _ ih => obtain ⟨rfl, rfl⟩ := h1; obtain ⟨rfl, rfl⟩ := ih; exact ⟨rfl, rfl⟩
theorem flat_own' {n : Nat} {en : α → List V} {hn : ∀ a, (en a).length = n} : ∀ (as : List α), OwnL (flatT n en hn) as (as.map en) []
  | [] => .nil
  | a :: as => OwnL.cons (es := []) (T := flatT n en hn) ⟨rfl, rfl⟩ (flat_own' as)
theorem flat_rd {n : Nat} {en : α → List V} {hn : ∀ a, (en a).length = n} {H : Heap} {as : List α} {w : V} : (sliceT b (flatT n en hn)).rd H as [w] ↔ Rb b H n w (as.map en) := by
  constructor
  · rintro ⟨w', rows, e, h1, h2⟩
    cases e
    rw [← flat_all h2]; exact h1
  · intro h
    exact ⟨w, _, rfl, h, flat_all' as⟩
theorem flat_dp {n : Nat} {en : α → List V} {hn : ∀ a, (en a).length = n} {H0 H : Heap} {as : List α} {w : V} : Dp (sliceT b (flatT n en hn)) H0 as [w] H ↔ Held H0 n (as.map en) w H := by
  constructor
  · rintro ⟨es, ⟨w', rows, ess, e, h0, h1, rfl⟩, h2⟩
    cases e
    obtain ⟨rfl, rfl⟩ := flat_own h1
    exact Chain.one.1 h2
  · intro h
    exact ⟨_, ⟨w, as.map en, [], rfl, by simp; intro a _; exact hn a, flat_own' as, rfl⟩, Chain.one.2 h⟩

end Go.Abs
