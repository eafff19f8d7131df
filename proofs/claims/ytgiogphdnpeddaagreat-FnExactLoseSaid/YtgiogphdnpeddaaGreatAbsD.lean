/-
The abstract layer, part D: each abstract operation is sound.
-/
import Derived.Test.YtgiogphdnpeddaaGreatAbsC
set_option linter.all false
namespace Go.Abs
open Go.RowKit (Below)

section
variable {P : Program} {g : Cfg} {w0 : World} {base : Nat} {F : Heap} {ι : Nat → Option Place} {β : Nat → Option Nat} {G : Heap} {env : List V} {H : Heap} {a : Act} {w : World}

theorem vOf1_sound {c : Value} {v : V} (h : vOf1 c = some v) : RelV w0 base ι v c := by
  unfold vOf1 at h
  split at h <;> first | (cases h; constructor) | cases h

theorem vOfs_sound : ∀ {cs : List Value} {vs : List V}, vOfs cs = some vs → RelL w0 base ι vs cs
  | [], vs, h => by simp [vOfs] at h; subst h; exact RelL.nil
  | c :: cs, vs, h => by
    unfold vOfs at h
    split at h
    · rename_i x xs h1 h2; cases h; exact RelL.cons (vOf1_sound h1) (vOfs_sound h2)
    · cases h

theorem vOf_sound {c : Value} {v : V} (h : vOf c = some v) : RelV w0 base ι v c := by
  unfold vOf at h
  split at h
  · split at h
    · rename_i cs vs h1; cases h; simpa using relV_agg (vOfs_sound h1)
    · cases h
  · exact vOf1_sound h

theorem vOf1_notAny {c : Value} {v : V} (h : vOf1 c = some v) : notAny v = true := by
  unfold vOf1 at h
  split at h <;> first | (cases h; rfl) | cases h
theorem vOf_notAny {c : Value} {v : V} (h : vOf c = some v) : notAny v = true := by
  unfold vOf at h
  split at h
  · split at h
    · cases h; rfl
    · cases h
  · exact vOf1_notAny h
theorem vOf1_ok {c : Value} {v : V} (h : vOf1 c = some v) : cellOk v = true := by
  unfold vOf1 at h
  split at h <;> first | (cases h; rfl) | cases h
theorem vOfs_ok : ∀ {cs : List Value} {vs : List V}, vOfs cs = some vs → vs.all cellOk = true
  | [], vs, h => by simp [vOfs] at h; subst h; rfl
  | c :: cs, vs, h => by
    unfold vOfs at h
    split at h
    · rename_i x xs h1 h2; cases h; simp only [List.all_cons, Bool.and_eq_true]; exact ⟨vOf1_ok h1, vOfs_ok h2⟩
    · cases h
theorem vOf_ok {c : Value} {v : V} (h : vOf c = some v) : (cellsOf v).all cellOk = true := by
  unfold vOf at h
  split at h
  · split at h
    · rename_i cs vs h1; cases h; exact vOfs_ok h1
    · cases h
  · have := vOf1_ok h
    cases v <;> first | (simp [cellOk] at this; done) | (simp [cellsOf, cellOk])
theorem notAny_of_ok {v : V} (h : (cellsOf v).all cellOk = true) : v ≠ .any := by
  rintro rfl; simp [cellsOf, cellOk] at h
theorem notAny_ne {v : V} (h : notAny v = true) : v ≠ .any := by rintro rfl; cases h

theorem ev_sound (hs : St g w0 base F ι β G env H a w) {x : Operand} {v : V} (h : ev g env x = some v) : RelV w0 base ι v (a.eval x) := by
  cases x with
  | tmp t =>
    simp only [ev] at h
    cases hl : g.loc t with
    | true => rw [hl] at h; cases h
    | false => rw [hl] at h; exact hs.val hl h
  | const c => exact vOf_sound h
  | global g' => simp [ev] at h
  | func f => simp only [ev, Option.some.injEq] at h; subst h; exact .fn rfl (fun i h1 => by simp at h1)

theorem evs_sound (hs : St g w0 base F ι β G env H a w) : ∀ {xs : List Operand} {vs : List V}, evs g env xs = some vs → RelL w0 base ι vs (xs.map a.eval)
  | [], vs, h => by simp [evs] at h; subst h; exact RelL.nil
  | x :: xs, vs, h => by
    unfold evs at h
    split at h
    · rename_i v vs' h1 h2; cases h; exact RelL.cons (ev_sound hs h1) (evs_sound hs h2)
    · cases h

theorem wp_value {o : Oper} {next : Act → World → Prop} {Q : Exit → Act → World → Prop} {cv : Value} {w' : World} (h : (execOp a.eval o).run P w = .ok (.value cv) w') (hn : next (a.put o.dst cv) w') : o.wp P a w next Q := by
  unfold Oper.wp; rw [h]; exact hn
theorem wp_skipv {o : Oper} {next : Act → World → Prop} {Q : Exit → Act → World → Prop} {w' : World} (h : (execOp a.eval o).run P w = .ok .skip w') (hn : next (a.put o.dst undef) w') : o.wp P a w next Q := by
  unfold Oper.wp; rw [h]; exact hn

theorem putK_sound (hs : St g w0 base F ι β G env H a w) {dst : Option Tmp} {v : V} {cv : Value} {K : List V → Prop} (hv : RelV w0 base ι v cv) (hk : putK g env dst v K) :
    ∃ env', K env' ∧ St g w0 base F ι β G env' H (a.put dst cv) w := by
  cases dst with
  | none => exact ⟨env, hk, hs⟩
  | some d =>
    simp only [putK, setK_eq] at hk
    cases hl : g.loc d with
    | true => rw [hl] at hk; exact hk.elim
    | false => rw [hl] at hk; exact ⟨_, hk, hs.put ((SlotRel.plain hl).2 hv)⟩

theorem skipDst_sound (hs : St g w0 base F ι β G env H a w) (dst : Option Tmp) : St g w0 base F ι β G (skipDst g env dst) H (a.put dst undef) w := by
  cases dst with
  | none => exact hs
  | some d =>
    simp only [skipDst]
    cases hl : g.loc d with
    | true => exact hs.put (SlotRel.any _ _)
    | false => exact hs.put ((SlotRel.plain hl).2 (relV_tup RelL.nil))

/-- The next state: the maps may have grown. -/
def Cont (g : Cfg) (w0 : World) (base : Nat) (F : Heap) (ι : Nat → Option Place) (K : List V → Heap → Prop) (next : Act → World → Prop) : Prop :=
  ∀ ι' β' G' env' H' a' w', ile ι ι' → St g w0 base F ι' β' G' env' H' a' w' → K env' H' → next a' w'

variable {next : Act → World → Prop} {Q : Exit → Act → World → Prop} {K : List V → Heap → Prop}

theorem value_sound (hs : St g w0 base F ι β G env H a w) (hn : Cont g w0 base F ι K next) {o : Oper} {v : V} {cv : Value} (h : (execOp a.eval o).run P w = .ok (.value cv) w)
    (hv : RelV w0 base ι v cv) (hk : putK g env o.dst v fun env' => K env' H) : o.wp P a w next Q := by
  obtain ⟨env', hk', hs'⟩ := putK_sound hs hv hk
  exact wp_value h (hn _ _ _ _ _ _ _ (ile.refl _) hs' hk')

/-! #### the frame's state under a new block -/

theorem SlotRel.grow {ι' : Nat → Option Place} {G' : Heap} (hi : ile ι ι') (hG : ∀ s i x, β s = some i → G i = some x → G' i = some x) {s : Nat} {v : V} {cv : Value} (h : SlotRel g w0 base ι β G s v cv) : SlotRel g w0 base ι' β G' s v cv := by
  unfold SlotRel at *
  split
  · rename_i hl; rw [if_pos hl] at h
    rcases h with h | ⟨cs, id, p, h1, h2, h3, h4, h5⟩
    · exact .inl h
    · exact .inr ⟨cs, id, p, h1, h2, hi _ _ h3, h4, hG s id _ h2 h5⟩
  · rename_i hl; rw [if_neg hl] at h
    split
    · rename_i hr; rw [if_pos hr] at h
      rcases h with h | ⟨s', c, id, p, h1, h2, h3, h4, h5⟩
      · exact .inl h
      · exact .inr ⟨s', c, id, p, h1, h2, h3, hi _ _ h4, h5⟩
    · rename_i hr; rw [if_neg hr] at h; exact h.mono hi

theorem fresh (hs : St g w0 base F ι β G env H a w) : ∃ o, ι o = none ∧ G o = none ∧ H o = none ∧ F o = none ∧ ∀ s, β s ≠ some o := by
  obtain ⟨N, hN⟩ := hs.heap.fin
  refine ⟨N, (hN N (Nat.le_refl _)).1, (hN N (Nat.le_refl _)).2, ?_, ?_, ?_⟩
  · cases h : H N with
    | none => rfl
    | some x => have := hs.sub N x h; rw [(hN N (Nat.le_refl _)).2] at this; cases this
  · cases h : F N with
    | none => rfl
    | some x => have := hs.frm N x h; rw [(hN N (Nat.le_refl _)).2] at this; cases this
  · intro s e; obtain ⟨x, hx⟩ := hs.bin s N e; rw [(hN N (Nat.le_refl _)).2] at hx; cases hx


theorem disj_upd_fresh {H F : Heap} {o : Nat} {ob : Ob} (hd : disj H F) (hF : F o = none) : disj (upd H o ob) F := fun i x hx => by
  by_cases h : i = o
  · subst h; exact hF
  · rw [upd_ne _ _ h] at hx; exact hd i x hx

theorem sub_upd_upd {H G : Heap} {o : Nat} {ob : Ob} (h : Abs.sub H G) : Abs.sub (upd H o ob) (upd G o ob) := fun i x hx => by
  by_cases e : i = o
  · subst e; rw [upd_same] at hx; rw [upd_same]; exact hx
  · rw [upd_ne _ _ e] at hx; rw [upd_ne _ _ e]; exact h i x hx

/-- A new object of the frame's own heap. -/
theorem St.allocH (hs : St g w0 base F ι β G env H a w) {ob : Ob} {cells : Array Value} (ty : TypeId) (hr : RowsRel w0 base ι ob cells) :
    ∃ o ι' G', H o = none ∧ ile ι ι' ∧ St g w0 base F ι' β G' env (upd H o ob) a (w.alloc (.cells cells ty)) ∧ ι' o = some ⟨w.heap.size, ob.w, cells.size⟩ := by
  obtain ⟨o, ho, hG, hH, hF, hb⟩ := fresh hs
  have hi := ile_updP ⟨w.heap.size, ob.w, cells.size⟩ ho
  refine ⟨o, _, _, hH, hi, ⟨hs.heap.alloc ho hG ty hr, sub_upd_upd hs.sub, sub_trans hs.frm (sub_upd _ hG), disj_upd_fresh hs.dis hF, hs.len, fun s v cv h1 h2 => ?_, hs.binj, fun s i hsi => ?_, fun s i hsi => ?_, hs.nodef⟩, by simp [updP]⟩
  · exact (hs.slot s v cv h1 h2).grow hi fun s i x e1 e2 => upd_other hG e2
  · have hne : i ≠ o := by rintro rfl; exact hb s hsi
    rw [upd_ne _ _ hne]; exact hs.bout s i hsi
  · obtain ⟨x, hx⟩ := hs.bin s i hsi
    exact ⟨x, upd_other hG hx⟩

/-- An object of the frame's own heap, written. -/
theorem St.setH (hs : St g w0 base F ι β G env H a w) {o : Nat} {ob ob' : Ob} {p : Place} {cells cells' : Array Value} {ty : TypeId}
    (hH : H o = some ob) (hp : ι o = some p) (hcell : w.heap[p.blk]? = some (.cells cells ty (0, 0))) (hsz : cells'.size = cells.size) (hw : ob'.w = ob.w)
    (hr : RowsRel w0 base ι ob' cells') : St g w0 base F ι β (upd G o ob') env (upd H o ob') a (w.setRow p.blk cells') := by
  have hG := hs.sub o ob hH
  have hF := hs.dis o ob hH
  refine ⟨hs.heap.set hG hp hcell hsz hw hr, sub_upd_upd hs.sub, fun i x hx => ?_, disj_upd_fresh hs.dis hF, hs.len, fun s v cv h1 h2 => ?_, hs.binj, fun s i hsi => ?_, fun s i hsi => ?_, hs.nodef⟩
  · have hne : i ≠ o := by rintro rfl; rw [hF] at hx; cases hx
    rw [upd_ne _ _ hne]; exact hs.frm i x hx
  · refine (hs.slot s v cv h1 h2).grow (ile.refl _) fun s i x e1 e2 => ?_
    have hne : i ≠ o := by rintro rfl; rw [(hs.bout s i e1).1] at hH; cases hH
    rw [upd_ne _ _ hne]; exact e2
  · have hne : i ≠ o := by rintro rfl; rw [(hs.bout s i hsi).1] at hH; cases hH
    rw [upd_ne _ _ hne]; exact hs.bout s i hsi
  · have hne : i ≠ o := by rintro rfl; rw [(hs.bout s i hsi).1] at hH; cases hH
    rw [upd_ne _ _ hne]; exact hs.bin s i hsi

/-- The same, under a new name. -/
theorem St.moveH (hs : St g w0 base F ι β G env H a w) {o : Nat} {ob ob' : Ob} {p : Place} {cells cells' : Array Value} {ty : TypeId}
    (hH : H o = some ob) (hp : ι o = some p) (hcell : w.heap[p.blk]? = some (.cells cells ty (0, 0))) (hsz : cells'.size = cells.size) (hw : ob'.w = ob.w)
    (hr : RowsRel w0 base ι ob' cells') : ∃ o' ι' G', H o' = none ∧ ile ι ι' ∧ ι' o' = some p ∧ St g w0 base F ι' β G' env (upd (del H o) o' ob') a (w.setRow p.blk cells') := by
  have hG := hs.sub o ob hH
  have hF := hs.dis o ob hH
  obtain ⟨o', ho, hG', hH', hF', hb⟩ := fresh hs
  obtain ⟨hrel, hi⟩ := hs.heap.write hG hp hcell hsz hw (.inr ⟨ho, hG'⟩) hr
  refine ⟨o', _, _, hH', hi, by simp [updP], hrel, fun i x hx => ?_, fun i x hx => ?_, fun i x hx => ?_, hs.len, fun s v cv h1 h2 => ?_, hs.binj, fun s i hsi => ?_, fun s i hsi => ?_, hs.nodef⟩
  · by_cases e : i = o'
    · subst e; rw [upd_same] at hx; rw [upd_same]; exact hx
    · rw [upd_ne _ _ e] at hx; rw [upd_ne _ _ e]
      unfold del at *
      split at hx
      · cases hx
      · rename_i hne; rw [if_neg hne]; exact hs.sub i x hx
  · have hne : i ≠ o := by rintro rfl; rw [hF] at hx; cases hx
    have hne' : i ≠ o' := by rintro rfl; rw [hF'] at hx; cases hx
    rw [upd_ne _ _ hne']; unfold del; rw [if_neg hne]; exact hs.frm i x hx
  · by_cases e : i = o'
    · subst e; exact hF'
    · rw [upd_ne _ _ e] at hx
      unfold del at hx; split at hx
      · cases hx
      · exact hs.dis i x hx
  · refine (hs.slot s v cv h1 h2).grow hi fun s i x e1 e2 => ?_
    have hne : i ≠ o := by rintro rfl; rw [(hs.bout s i e1).1] at hH; cases hH
    have hne' : i ≠ o' := by rintro rfl; exact hb s e1
    rw [upd_ne _ _ hne']; unfold del; rw [if_neg hne]; exact e2
  · have hne : i ≠ o' := by rintro rfl; exact hb s hsi
    rw [upd_ne _ _ hne]
    refine ⟨?_, (hs.bout s i hsi).2⟩
    unfold del; split
    · rfl
    · exact (hs.bout s i hsi).1
  · have hne : i ≠ o := by rintro rfl; rw [(hs.bout s i hsi).1] at hH; cases hH
    have hne' : i ≠ o' := by rintro rfl; exact hb s hsi
    rw [upd_ne _ _ hne']; unfold del; rw [if_neg hne]; exact hs.bin s i hsi

theorem clr_len : ∀ (ds : List Nat) (env : List V), (clr ds env).length = env.length
  | [], _ => rfl
  | d :: ds, env => by rw [clr, clr_len ds]; simp
theorem clr_get : ∀ (ds : List Nat) (env : List V) (s : Nat) (v : V), (clr ds env)[s]? = some v → (s ∈ ds ∧ v = .any) ∨ env[s]? = some v
  | [], env, s, v, h => .inr h
  | d :: ds, env, s, v, h => by
    rw [clr] at h
    rcases clr_get ds _ s v h with ⟨h1, h2⟩ | h1
    · exact .inl ⟨List.mem_cons_of_mem _ h1, h2⟩
    · by_cases hsd : d = s
      · subst hsd
        have hlt : d < env.length := by have := (List.getElem?_eq_some_iff.1 h1).1; simpa using this
        simp [hlt] at h1
        exact .inl ⟨List.mem_cons_self, h1.symm⟩
      · simp [hsd] at h1; exact .inr h1
theorem clr_mem : ∀ (ds : List Nat) (env : List V) (s : Nat) (v : V), s ∈ ds → (clr ds env)[s]? = some v → v = .any
  | [], env, s, v, h, _ => by simp at h
  | d :: ds, env, s, v, hm, h => by
    rw [clr] at h
    by_cases hin : s ∈ ds
    · exact clr_mem ds _ s v hin h
    · rcases clr_get ds _ s v h with ⟨h1, _⟩ | h1
      · exact absurd h1 hin
      · have : s = d := by
          rcases List.mem_cons.1 hm with e | e
          · exact e
          · exact absurd e hin
        subst this
        have hlt : s < env.length := by have := (List.getElem?_eq_some_iff.1 h1).1; simpa using this
        simp [hlt] at h1; exact h1.symm

/-- A new box of the frame's own. -/
theorem St.allocL (hs : St g w0 base F ι β G env H a w) {d : Nat} (hd : g.L.contains d = true) {cs : List V} {cells : Array Value} (ty : TypeId)
    (hr : RowsRel w0 base ι ⟨cs.length, [cs]⟩ cells) :
    ∃ ι' β' G', ile ι ι' ∧ St g w0 base F ι' β' G' ((clr g.R env).set d (.box cs)) H (a.put (some d) (.pointer (some ⟨w.heap.size, 0, none⟩))) (w.alloc (.cells cells ty)) := by
  obtain ⟨o, ho, hG, hH, hF, hb⟩ := fresh hs
  have hi := ile_updP ⟨w.heap.size, cs.length, cells.size⟩ ho
  refine ⟨_, fun s => if s = d then some o else β s, _, hi, hs.heap.alloc ho hG ty hr, sub_trans hs.sub (sub_upd _ hG), sub_trans hs.frm (sub_upd _ hG), hs.dis, by simp [Act.put, clr_len, hs.len], fun s v cv h1 h2 => ?_, fun s1 s2 i e1 e2 => ?_, fun s i hsi => ?_, fun s i hsi => ?_, hs.nodef⟩
  · by_cases hsd : d = s
    · subst hsd
      have hlt : d < (clr g.R env).length := by have := (List.getElem?_eq_some_iff.1 h1).1; simpa using this
      have hlt2 : d < a.tmps.size := by rw [← hs.len, ← clr_len g.R env]; exact hlt
      simp [hlt] at h1
      simp [Act.put, hlt2] at h2
      subst h1; subst h2
      unfold SlotRel
      rw [if_pos hd]
      exact .inr ⟨cs, o, _, rfl, by simp, by simp [updP]; rfl, rfl, upd_same _ _ _⟩
    · simp [hsd] at h1
      simp [Act.put, hsd] at h2
      rcases clr_get g.R env s v h1 with ⟨_, rfl⟩ | h1'
      · exact SlotRel.any _ _
      · have hold := hs.slot s v cv h1' h2
        unfold SlotRel at *
        split
        · rename_i hl; rw [if_pos hl] at hold
          rcases hold with h | ⟨cs', id, p, q1, q2, q3, q4, q5⟩
          · exact .inl h
          · exact .inr ⟨cs', id, p, q1, by simp [Ne.symm hsd, q2], hi _ _ q3, q4, upd_other hG q5⟩
        · rename_i hl; rw [if_neg hl] at hold
          split
          · rename_i hr'
            exact .inl (clr_mem g.R env s v (by simpa using hr') h1)
          · rename_i hr'; rw [if_neg hr'] at hold; exact hold.mono hi
  · split at e1 <;> split at e2
    · rename_i p q; rw [p, q]
    · cases e1; exact absurd e2 (hb s2)
    · cases e2; exact absurd e1 (hb s1)
    · exact hs.binj s1 s2 i e1 e2
  · split at hsi
    · cases hsi; exact ⟨hH, hF⟩
    · exact hs.bout s i hsi
  · split at hsi
    · cases hsi; exact ⟨_, upd_same _ _ _⟩
    · obtain ⟨x, hx⟩ := hs.bin s i hsi
      exact ⟨x, upd_other hG hx⟩

/-- A store into a box of the frame's own. -/
theorem St.setL (hs : St g w0 base F ι β G env H a w) {s : Nat} {cs cs' : List V} {id : Nat} {p : Place} {cells cells' : Array Value} {ty : TypeId} (hl : g.L.contains s = true)
    (he : env[s]? = some (.box cs)) (hb : β s = some id) (hp : ι id = some p) (hG : G id = some ⟨cs.length, [cs]⟩) (hcell : w.heap[p.blk]? = some (.cells cells ty (0, 0))) (hsz : cells'.size = cells.size)
    (hlen : cs'.length = cs.length) (hr : RowsRel w0 base ι ⟨cs'.length, [cs']⟩ cells') :
    St g w0 base F ι β (upd G id ⟨cs'.length, [cs']⟩) (env.set s (.box cs')) H a (w.setRow p.blk cells') := by
  have hout := hs.bout s id hb
  refine ⟨hs.heap.set hG hp hcell hsz hlen hr, fun i x hx => ?_, fun i x hx => ?_, hs.dis, by simp [hs.len], fun t v cv h1 h2 => ?_, hs.binj, hs.bout, fun t i hti => ?_, hs.nodef⟩
  · have hne : i ≠ id := by rintro rfl; rw [hout.1] at hx; cases hx
    rw [upd_ne _ _ hne]; exact hs.sub i x hx
  · have hne : i ≠ id := by rintro rfl; rw [hout.2] at hx; cases hx
    rw [upd_ne _ _ hne]; exact hs.frm i x hx
  · by_cases hst : s = t
    · subst hst
      have hlt : s < env.length := (List.getElem?_eq_some_iff.1 he).1
      simp [hlt] at h1
      subst h1
      have hold := hs.slot s _ cv he h2
      unfold SlotRel at *
      rw [if_pos hl] at *
      rcases hold with h | ⟨cs0, id0, p0, q1, q2, q3, q4, q5⟩
      · cases h
      · cases q1
        rw [hb] at q2; cases q2
        rw [hp] at q3; cases q3
        exact .inr ⟨cs', id, p, rfl, hb, hp, q4, upd_same _ _ _⟩
    · simp [hst] at h1
      have hold := hs.slot t v cv h1 h2
      unfold SlotRel at *
      split
      · rename_i hl'; rw [if_pos hl'] at hold
        rcases hold with h | ⟨cs0, id0, p0, q1, q2, q3, q4, q5⟩
        · exact .inl h
        · have hne : id0 ≠ id := by rintro rfl; exact hst (hs.binj _ _ _ hb q2)
          exact .inr ⟨cs0, id0, p0, q1, q2, q3, q4, by rw [upd_ne _ _ hne]; exact q5⟩
      · rename_i hl'; rw [if_neg hl'] at hold
        exact hold
  · by_cases e : i = id
    · subst e; exact ⟨_, upd_same _ _ _⟩
    · rw [upd_ne _ _ e]; exact hs.bin t i hti

end
end Go.Abs
