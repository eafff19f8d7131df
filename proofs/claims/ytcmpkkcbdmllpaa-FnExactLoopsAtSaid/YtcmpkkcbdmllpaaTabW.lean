/-
Contracts: walks over tables.
-/
import Derived.Test.YtcmpkkcbdmllpaaTabF
set_option linter.all false
namespace Go.Proofs.Ytcmpkkcbdmllpaa
open Go Go.Abs Go.Proofs

def tb (ts : List (List TRoute)) (i : Nat) : List TRoute := ts.getD i []
def fineT (ts : List (List TRoute)) (f a : Int) : Prop := (1 ≤ (ts.length : Int) ∧ (ts.length : Int) ≤ 10) ∧ (0 ≤ f ∧ f < ts.length) ∧ addrOk a ∧ ∀ i, i < ts.length → tabOk (tb ts i)
instance (ts : List (List TRoute)) (f a : Int) : Decidable (fineT ts f a) := by unfold fineT; infer_instance
theorem tb_get {ts : List (List TRoute)} {i : Nat} (h : i < ts.length) : tb ts i = ts[i] := by simp [tb, h]

def InvF (ts : List (List TRoute)) (H : Heap) (m : Nat) (ys : List V) (Hc : Heap) : Prop :=
  ∃ i, i ≤ ts.length ∧ ys = [.int .i64 (i : Nat)] ∧ m = ts.length - i ∧ Hc = H ∧ ∀ j, j < i → tabOk (tb ts j)
theorem C_s_l09Fine {ts : List (List TRoute)} {v : V} {f a ttl : Int} {H : Heap} {K : V → Heap → Prop} (hv : Tabs H v ts) (hl : ts.length + tot ts ≤ 1048576) (h : K (.bool (decide (fineT ts f a ∧ (0 ≤ ttl ∧ ttl ≤ 16)))) H) : ACalls P n_s_l09Fine [v, .int .i64 f, .int .i64 a, .int .i64 ttl] H K := by
  apply W_s_l09Fine
  unfold F_s_l09Fine
  simp [hv.len]
  apply C_s_l01In
  simp
  refine ⟨fun q => Ret.no h fun hh => by have := hh.1.1; omega, fun q1 q2 => ?_⟩
  rw [i64_in (by omega) (by omega)]
  apply C_s_l01In
  simp
  refine ⟨fun q => Ret.no h fun hh => by have := hh.1.2.1; omega, fun q3 q4 => ?_⟩
  apply C_s_l01Addr
  simp
  refine ⟨fun q => Ret.no h fun hh => q hh.1.2.2.1, fun q5 => ?_⟩
  apply C_s_l01In
  simp
  refine ⟨fun q => Ret.no h fun hh => by have := hh.2; omega, fun q6 q7 => ?_⟩
  refine ⟨InvF ts H, ⟨ts.length, Shr.of ⟨0, by omega, by simp, by omega, rfl, fun j hj => absurd hj (by omega)⟩⟩, ?_⟩
  rintro m ys Hc ⟨i, hi, rfl, rfl, rfl, hok⟩
  simp
  refine ⟨fun hlt => ?_, fun hge => ?_⟩
  · refine hv.idx hlt fun p w hp hw _ => ?_
    rw [hp]
    simp
    refine C_s_TableOk hw ?_
    simp
    refine ⟨fun q => Ret.no h fun hh => q (by have := hh.1.2.2.2 i hlt; rwa [tb_get hlt] at this), fun q => ?_⟩
    rw [i64_in (n := (i : Int) + 1) (by omega) (by omega)]
    exact ⟨ts.length - (i + 1), by omega, Shr.of ⟨i + 1, by omega, by simp, rfl, rfl, fun j hj => by
      by_cases e : j = i
      · subst e; rw [tb_get hlt]; exact q
      · exact hok j (by omega)⟩⟩
  · have : i = ts.length := by omega
    subst this
    exact Ret.yes h ⟨⟨by omega, by omega, q5, hok⟩, by omega⟩

def InvI (len : Nat) (q : Nat → Bool) (H : Heap) (m : Nat) (ys : List V) (Hc : Heap) : Prop :=
  ∃ i, i ≤ len ∧ ys = [.int .i64 (i : Nat)] ∧ m = len - i ∧ Hc = H ∧ ∀ j, j < i → q j = false
theorem C_ContainsFunc_Table {ts : List (List TRoute)} {v f : V} {q : Nat → Bool} {H : Heap} {K : V → Heap → Prop} (hv : Tabs H v ts) (hl : ts.length ≤ 1048576) (hf : ∀ i (hi : i < ts.length) w, Rd H 3 w (rowsR ts[i]) → ∀ K', K' (.bool (q i)) H → callK P H f [.agg [w]] K')
    (h : K (.bool (decide (∃ i, i < ts.length ∧ q i = true))) H) : ACalls P n_slices_ContainsFunc_i_Table_i_Table [v, f] H K := by
  apply W_slices_ContainsFunc_i_Table_i_Table
  unfold F_slices_ContainsFunc_i_Table_i_Table
  apply W_slices_IndexFunc_i_Table_i_Table
  unfold F_slices_IndexFunc_i_Table_i_Table
  simp [hv.len]
  refine ⟨InvI ts.length q H, ⟨ts.length, Shr.of ⟨0, by omega, by simp, by omega, rfl, fun j hj => absurd hj (by omega)⟩⟩, ?_⟩
  rintro m ys Hc ⟨i, hi, rfl, rfl, rfl, hok⟩
  simp
  refine ⟨fun hlt => ?_, fun hge => ?_⟩
  · refine hv.idx hlt fun p w hp hw _ => ?_
    rw [hp]
    simp
    refine hf i hlt w hw _ ?_
    cases hq : q i
    · simp
      rw [i64_in (n := (i : Int) + 1) (by omega) (by omega)]
      exact ⟨ts.length - (i + 1), by omega, Shr.of ⟨i + 1, by omega, by simp, rfl, rfl, fun j hj => by
        by_cases e : j = i
        · subst e; exact hq
        · exact hok j (by omega)⟩⟩
    · simp
      refine Ret.of ?_
      simp
      exact Ret.eq h (by simp; exact ⟨i, hlt, hq⟩)
  · have : i = ts.length := by omega
    subst this
    refine Ret.of ?_
    simp
    exact Ret.eq h (by simp; exact fun j hj => by simp [hok j hj])
theorem C_i_areTables {ts : List (List TRoute)} {v : V} {f a : Int} {H : Heap} {K : V → Heap → Prop} (hv : Tabs H v ts) (hl : ts.length + tot ts ≤ 1048576) (h : K (.bool (decide (fineT ts f a))) H) : ACalls P n_i_areTables [v, .int .i64 f, .int .i64 a] H K := by
  apply W_i_areTables
  unfold F_i_areTables
  simp [hv.len]
  apply C_i_within
  simp
  refine ⟨fun q1 q2 => ?_, fun q => Ret.no h fun hh => by have := hh.1; omega⟩
  rw [i64_in (by omega) (by omega)]
  apply C_i_within
  simp
  refine ⟨fun q3 q4 => ?_, fun q => Ret.no h fun hh => by have := hh.2.1; omega⟩
  apply C_i_isAddr
  simp
  refine ⟨fun q5 => ?_, fun q => Ret.no h fun hh => q hh.2.2.1⟩
  refine C_ContainsFunc_Table (q := fun i => !decide (tabOk (tb ts i))) hv (by omega) (fun i hi w hw K' hk => ?_) ?_
  · simp only [callK]
    rw [E_i_areTables_1]
    show ACalls P n_i_areTables_1 [.agg [w]] H K'
    apply W_i_areTables_1
    unfold F_i_areTables_1
    have hc := hw.cell
    simp [hc]
    have := len_le_tot hi
    refine C_i_TableOk hw (by omega) ?_
    simp
    refine Ret.eq hk ?_
    simp [tb_get hi]
  · simp only [aNot, bnd_some]
    refine Ret.eq h ?_
    by_cases hf : fineT ts f a
    · rw [decide_eq_true hf, decide_eq_false, Bool.not_false]
      rintro ⟨i, hi, hh⟩
      simp only [Bool.not_eq_true', decide_eq_false_iff_not] at hh
      exact hh (hf.2.2.2 i hi)
    · rw [decide_eq_false hf, decide_eq_true, Bool.not_true]
      apply Classical.byContradiction
      intro hh
      refine hf ⟨by omega, by omega, q5, fun i hi => ?_⟩
      apply Classical.byContradiction
      intro h2
      exact hh ⟨i, hi, by simp only [Bool.not_eq_true', decide_eq_false_iff_not]; exact h2⟩

/-! #### walking -/
def hopT (a : Int) (t : List TRoute) : Int := if (bestOf a t).1 = true then (bestOf a t).2.2.2 else -1
theorem C_s_FindHop {t : List TRoute} {w : V} {a : Int} {H : Heap} {K : V → Heap → Prop} (hv : Rd H 3 w (rowsR t)) (ht : tabOk t) (ha : addrOk a) (h : K (.int .i64 (hopT a t)) H) : ACalls P n_s_FindHop [.agg [w], .int .i64 a] H K := by
  have hc := hv.cell
  apply W_s_FindHop
  unfold F_s_FindHop
  simp [hc]
  refine C_s_BestRoute hv ht ha ?_
  simp [stz_eq, putCells]
  exact ⟨fun q => Ret.eq h (by rw [hopT, if_neg (by rw [q]; simp)]), fun q => Ret.eq h (by rw [hopT, if_pos q])⟩
theorem best_mem {a : Int} {t : List TRoute} : ∀ {i : Nat}, i ≤ t.length → (bestOf a (t.take i)).1 = true → (bestOf a (t.take i)).2 ∈ t
  | 0, _, h => by simp [bestOf] at h
  | i + 1, hi, h => by
    rw [bestOf_succ (by omega)] at h ⊢
    unfold bestStep at h ⊢
    split at h
    · rename_i hc
      rw [if_pos hc]
      exact List.getElem_mem (by omega)
    · rename_i hc
      rw [if_neg hc]
      exact best_mem (by omega) h
theorem hopT_in {a : Int} {t : List TRoute} (ht : tabOk t) : -1 ≤ hopT a t ∧ hopT a t ≤ 999 ∧ ((bestOf a t).1 = true → 0 ≤ hopT a t) := by
  unfold hopT
  by_cases h : (bestOf a t).1 = true
  · have := best_mem (a := a) (t := t) (Nat.le_refl t.length) (by rw [List.take_length]; exact h)
    rw [List.take_length] at this
    obtain ⟨i, hi, e⟩ := List.getElem_of_mem this
    have hr := (ht.2 i hi).2.1
    rw [rt_get hi, e] at hr
    rw [if_pos h]
    exact ⟨by omega, by omega, fun _ => by omega⟩
  · rw [if_neg h]
    exact ⟨by omega, by omega, fun hh => absurd hh h⟩
def walkP (ts : List (List TRoute)) (a : Int) : Nat → Int → List Int → List Int × Int
  | ttl, f, way =>
    if hopT a (tb ts f.toNat) < 0 ∨ (ts.length : Int) < hopT a (tb ts f.toNat) then (way, 1)
    else if hopT a (tb ts f.toNat) = 0 then (way, 0)
    else match ttl with
      | 0 => (way, 2)
      | t + 1 => walkP ts a t (hopT a (tb ts f.toNat) - 1) (way ++ [hopT a (tb ts f.toNat) - 1])
def walk (ts : List (List TRoute)) (f a ttl : Int) : List Int × Int := walkP ts a ttl.toNat f [f]
theorem walkP_none {ts : List (List TRoute)} {a : Int} {n : Nat} {f : Int} {way : List Int} (h : hopT a (tb ts f.toNat) < 0 ∨ (ts.length : Int) < hopT a (tb ts f.toNat)) : walkP ts a n f way = (way, 1) := by unfold walkP; rw [if_pos h]
theorem walkP_home {ts : List (List TRoute)} {a : Int} {n : Nat} {f : Int} {way : List Int} (h : hopT a (tb ts f.toNat) = 0) : walkP ts a n f way = (way, 0) := by unfold walkP; rw [if_neg (by omega), if_pos h]
theorem walkP_loop {ts : List (List TRoute)} {a : Int} {f : Int} {way : List Int} (h : ¬ (hopT a (tb ts f.toNat) < 0 ∨ (ts.length : Int) < hopT a (tb ts f.toNat))) (h0 : hopT a (tb ts f.toNat) ≠ 0) : walkP ts a 0 f way = (way, 2) := by unfold walkP; rw [if_neg h, if_neg h0]
theorem walkP_go {ts : List (List TRoute)} {a : Int} {n : Nat} {f : Int} {way : List Int} (h : ¬ (hopT a (tb ts f.toNat) < 0 ∨ (ts.length : Int) < hopT a (tb ts f.toNat))) (h0 : hopT a (tb ts f.toNat) ≠ 0) : walkP ts a (n + 1) f way = walkP ts a n (hopT a (tb ts f.toNat) - 1) (way ++ [hopT a (tb ts f.toNat) - 1]) := by
  rw [walkP, if_neg h, if_neg h0]
theorem walkP_len {ts : List (List TRoute)} {a : Int} : ∀ {n : Nat} {f : Int} {way : List Int}, (walkP ts a n f way).1.length ≤ way.length + n
  | n, f, way => by
    unfold walkP
    split
    · simp
    · split
      · simp
      · cases n with
        | zero => simp
        | succ n =>
          have := walkP_len (ts := ts) (a := a) (n := n) (f := hopT a (tb ts f.toNat) - 1) (way := way ++ [hopT a (tb ts f.toNat) - 1])
          simp at this ⊢
          omega

def InvWs (H : Heap) (ts : List (List TRoute)) (a : Int) (r : List Int × Int) (m : Nat) (ys : List V) (Hc : Heap) : Prop :=
  ∃ (n : Nat) (f : Int) (way : List Int) (u : V), n ≤ 16 ∧ (0 ≤ f ∧ f < ts.length) ∧ ys = [.int .i64 (n : Nat), u, .int .i64 f] ∧ m = n ∧ way.length + n ≤ 17 ∧ walkP ts a n f way = r ∧ Held H 1 (way.map ri) u Hc

theorem C_s_Walk {ts : List (List TRoute)} {v : V} {f a ttl : Int} {H : Heap} {K : V → Heap → Prop} (hv : Tabs H v ts) (hl : ts.length + tot ts ≤ 1048576) (hno : ¬ (fineT ts f a ∧ (0 ≤ ttl ∧ ttl ≤ 16)) → K (.tup [.nils, .int .i64 3]) H)
    (h : fineT ts f a → (0 ≤ ttl ∧ ttl ≤ 16) → ∀ u H', Held H 1 ((walk ts f a ttl).1.map ri) u H' → K (.tup [u, .int .i64 (walk ts f a ttl).2]) H') : ACalls P n_s_Walk [v, .int .i64 f, .int .i64 a, .int .i64 ttl] H K := by
  apply W_s_Walk
  unfold F_s_Walk
  refine C_s_l09Fine hv hl ?_
  simp
  have hd : ∀ x : Prop, [Decidable x] → (decide x = true ↔ x) := fun x => by simp
  by_cases hf : ¬ (fineT ts f a ∧ (0 ≤ ttl ∧ ttl ≤ 16))
  · refine ⟨fun _ => Ret.of (hno hf), fun q1 q2 q3 => absurd ⟨q1, q2, q3⟩ hf⟩
  obtain ⟨hf, ht⟩ := Classical.not_not.1 hf
  refine ⟨fun q => by
    exfalso
    rcases q with q | q | q
    · exact q hf
    · omega
    · omega, fun _ _ _ => ?_⟩
  replace h := h hf ht
  clear hno
  simp [bsl_one]
  intro o ho
  refine ⟨InvWs H ts a (walk ts f a ttl), ⟨ttl.toNat, Shr.of ⟨ttl.toNat, f, [f], .slice o 0 1 (some 1), by omega, hf.2.1, by simp; omega, rfl, by simp; omega, rfl, Held.full ho (by simp)⟩⟩, ?_⟩
  rintro m ys Hc ⟨n, at_, way, u, hn, hat, rfl, rfl, hwl, hw, hu⟩
  have hat' : at_.toNat < ts.length := by omega
  have hok := hf.2.2.2 _ hat'
  have hh := hopT_in (a := a) hok
  have he : at_ = ((at_.toNat : Nat) : Int) := by omega
  simp
  have hvc := hv.mono hu.sub
  rw [he]
  refine hvc.idx hat' fun p w hp hw' _ => ?_
  rw [hp]
  simp
  rw [← tb_get hat'] at hw'
  refine C_s_FindHop hw' hok hf.2.2.1 ?_
  simp
  refine ⟨fun q => ?_, fun q0 => ⟨fun q => ?_, fun q1 => ?_⟩⟩
  · rw [walkP_home q] at hw
    rw [← hw] at h
    exact Ret.of (h _ _ hu)
  · rw [walkP_none (.inl q)] at hw
    rw [← hw] at h
    exact Ret.of (h _ _ hu)
  simp [hv.len]
  refine ⟨fun q => ?_, fun q2 => ?_⟩
  · rw [walkP_none (.inr q)] at hw
    rw [← hw] at h
    exact Ret.of (h _ _ hu)
  have hnot : ¬ (hopT a (tb ts at_.toNat) < 0 ∨ (ts.length : Int) < hopT a (tb ts at_.toNat)) := by omega
  refine ⟨fun q => ?_, fun q3 => ?_⟩
  · subst q
    rw [walkP_loop hnot q0] at hw
    rw [← hw] at h
    exact Ret.of (h _ _ hu)
  obtain ⟨n', rfl⟩ : ∃ n', m = n' + 1 := ⟨m - 1, by omega⟩
  rw [walkP_go hnot q0] at hw
  rw [i64_in (n := hopT a (tb ts at_.toNat) - 1) (by omega) (by omega)]
  simp [bsl_one]
  intro o3 ho3
  refine hu.append (sub_fresh ho3) (by simp) (by simp; omega) fun v' H' H'' ho' hs' => ?_
  refine ⟨n', by omega, H'', hs', n', hopT a (tb ts at_.toNat) - 1, way ++ [hopT a (tb ts at_.toNat) - 1], v', by omega, by omega, ?_, rfl, by simp; omega, hw, by simpa using ho'⟩
  simp
  rw [i64_in (by omega) (by omega)]

def InvWi (H : Heap) (ts : List (List TRoute)) (a : Int) (r : List Int × Int) (m : Nat) (ys : List V) (Hc : Heap) : Prop :=
  ∃ (n : Nat) (f : Int) (way : List Int) (u : V), n ≤ 16 ∧ (0 ≤ f ∧ f < ts.length) ∧ ys = [.int .i64 f, .int .i64 (n : Nat), u] ∧ m = n ∧ way.length + n ≤ 17 ∧ walkP ts a n f way = r ∧ Held H 1 (way.map ri) u Hc

theorem C_i_walk {ts : List (List TRoute)} {v : V} {f a ttl : Int} {H : Heap} {K : V → Heap → Prop} (hv : Tabs H v ts) (hf : fineT ts f a) (ht : 0 ≤ ttl ∧ ttl ≤ 16)
    (h : ∀ u H', Held H 1 ((walk ts f a ttl).1.map ri) u H' → K (.tup [u, .int .i64 (walk ts f a ttl).2]) H') : ACalls P n_i_walk [v, .int .i64 f, .int .i64 a, .int .i64 ttl] H K := by
  apply W_i_walk
  unfold F_i_walk
  simp [bsl_one]
  intro o ho
  refine ⟨InvWi H ts a (walk ts f a ttl), ⟨ttl.toNat, Shr.of ⟨ttl.toNat, f, [f], .slice o 0 1 (some 1), by omega, hf.2.1, by simp; omega, rfl, by simp; omega, rfl, Held.full ho (by simp)⟩⟩, ?_⟩
  rintro m ys Hc ⟨n, at_, way, u, hn, hat, rfl, rfl, hwl, hw, hu⟩
  have hat' : at_.toNat < ts.length := by omega
  have hok := hf.2.2.2 _ hat'
  have hh := hopT_in (a := a) hok
  have he : at_ = ((at_.toNat : Nat) : Int) := by omega
  simp
  have hvc := hv.mono hu.sub
  rw [he]
  refine hvc.idx hat' fun p w hp hw' hfld => ?_
  rw [hfld]
  simp
  rw [hp]
  simp
  rw [← tb_get hat'] at hw'
  refine C_i_best hw' hok ?_
  simp [stz_eq, putCells, hv.len]
  refine ⟨fun q => ?_, fun hb => ?_⟩
  · have e1 : hopT a (tb ts at_.toNat) = -1 := by rw [hopT, if_neg (by rw [q]; simp)]
    rw [walkP_none (.inl (by omega))] at hw
    rw [← hw] at h
    exact Ret.of (h _ _ hu)
  have e1 : (bestOf a (tb ts at_.toNat)).2.2.2 = hopT a (tb ts at_.toNat) := by rw [hopT, if_pos hb]
  have h0 := hh.2.2 hb
  rw [e1]
  refine ⟨fun q => ?_, fun q1 => ⟨fun q => ?_, fun q2 => ⟨fun q => ?_, fun q3 => ?_⟩⟩⟩
  · rw [walkP_none (.inr q)] at hw
    rw [← hw] at h
    exact Ret.of (h _ _ hu)
  · rw [walkP_home q] at hw
    rw [← hw] at h
    exact Ret.of (h _ _ hu)
  · subst q
    rw [walkP_loop (by omega) q2] at hw
    rw [← hw] at h
    exact Ret.of (h _ _ hu)
  obtain ⟨n', rfl⟩ : ∃ n', m = n' + 1 := ⟨m - 1, by omega⟩
  rw [walkP_go (by omega) q2] at hw
  rw [i64_in (n := hopT a (tb ts at_.toNat) - 1) (by omega) (by omega)]
  simp [bsl_one]
  intro o3 ho3
  refine hu.append (sub_fresh ho3) (by simp) (by simp; omega) fun v' H' H'' ho' hs' => ?_
  refine ⟨n', by omega, H'', hs', n', hopT a (tb ts at_.toNat) - 1, way ++ [hopT a (tb ts at_.toNat) - 1], v', by omega, by omega, ?_, rfl, by simp; omega, hw, by simpa using ho'⟩
  simp
  rw [i64_in (by omega) (by omega)]

end Go.Proofs.Ytcmpkkcbdmllpaa
