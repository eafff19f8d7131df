/-
Contracts: checksums; which advertisement is newer; offers.
-/
import Derived.Test.YtgoljfhjhcjcpaaBytes2
set_option linter.all false
namespace Go.Proofs.Ytgoljfhjhcjcpaa
open Go Go.Abs Go.Proofs

def stepS (h c : Int) : Int := (257 * h + c + 1) % 1000003
def sumR (bs : List Int) : Int := bs.foldl stepS 1
def lsaSum (a : TLsa) : Int := sumR (lsaB a)
theorem sumR_in (bs : List Int) : 0 ≤ sumR bs ∧ sumR bs < 1000003 := by
  have : ∀ (bs : List Int) (h : Int), 0 ≤ h ∧ h < 1000003 → 0 ≤ bs.foldl stepS h ∧ bs.foldl stepS h < 1000003 := by
    intro bs
    induction bs with
    | nil => exact fun h hh => hh
    | cons c bs ih => exact fun h _ => ih _ (by unfold stepS; omega)
  exact this bs 1 (by omega)
theorem sumR_succ {bs : List Int} {i : Nat} (h : i < bs.length) : sumR (bs.take (i + 1)) = stepS (sumR (bs.take i)) bs[i] := by
  unfold sumR
  rw [List.take_succ_eq_append_getElem h, List.foldl_append]
  rfl
def isB (c : Int) : Prop := 0 ≤ c ∧ c < 256
theorem wide_in {x : Int} : ∀ {n : Nat}, ∀ c ∈ wideL x n, isB c
  | n + 1, c, h => by
    rcases List.mem_cons.1 h with rfl | h
    · unfold byteAt isB; omega
    · exact wide_in c h
theorem mod_in (x : Int) : isB (x % 256) := by unfold isB; omega
theorem lkB_in {k : TLink} : ∀ c ∈ lkB k, isB c := by
  intro c h
  rcases List.mem_cons.1 h with rfl | h
  · exact mod_in _
  · exact wide_in c h
theorem stB_in {k : TStub} : ∀ c ∈ stB k, isB c := by
  intro c h
  rcases List.mem_append.1 h with h | h
  · rcases List.mem_append.1 h with h | h
    · exact wide_in c h
    · simp at h; subst h; exact mod_in _
  · exact wide_in c h
theorem lsaB_in {a : TLsa} : ∀ c ∈ lsaB a, isB c := by
  intro c h
  rcases List.mem_append.1 h with h | h
  · rcases List.mem_append.1 h with h | h
    · rcases List.mem_append.1 h with h | h
      · rcases List.mem_append.1 h with h | h
        · rcases List.mem_append.1 h with h | h
          · simp at h; subst h; exact mod_in _
          · exact wide_in c h
        · simp at h; subst h; exact mod_in _
      · obtain ⟨k, _, hk⟩ := List.mem_flatMap.1 h
        exact lkB_in c hk
    · simp at h; subst h; exact mod_in _
  · obtain ⟨k, _, hk⟩ := List.mem_flatMap.1 h
    exact stB_in c hk
theorem lsaB_len {a : TLsa} : (lsaB a).length = 6 + 3 * a.links.length + 5 * a.stubs.length := by
  rw [lsaB, List.length_append, midB_len, fm_len stB_len]
theorem rem_int {a b : Int} (ha : 0 ≤ a) (hb : b ≠ 0) : aBinN .rem (.int .i64 a) (.int .i64 b) = some (.int .i64 (a % b)) := by
  show (if IntKind.i64 = IntKind.i64 then (if b = 0 then none else some (V.int .i64 (a.tmod b))) else none) = _
  rw [if_pos rfl, if_neg hb, Int.tmod_eq_emod_of_nonneg ha]
def InvSum (H : Heap) (bs : List Int) (m : Nat) (ys : List V) (Hc : Heap) : Prop :=
  ∃ i : Nat, i ≤ bs.length ∧ ys = [.int .i64 (sumR (bs.take i)), .int .i64 (i : Nat)] ∧ m = bs.length - i ∧ Hc = H
theorem C_s_LsaSum {b : Bool} {a : TLsa} {vs : List V} {H : Heap} {K : V → Heap → Prop} (hv : (lsaT b).rd H a vs) (hok : lsaOk a) (h : K (.int .i64 (lsaSum a)) H) : ACalls P n_s_LsaSum [.agg vs] H K := by
  have hv' := hv
  obtain ⟨l, s, rfl, g1, g2⟩ := hv
  have hcc := lsa_cell g1 g2
  apply W_s_LsaSum
  unfold F_s_LsaSum
  simp [hcc]
  refine C_s_LsaOk hv' ?_
  simp [hok]
  refine C_s_LsaBytes hv' hok fun u H1 hu => ?_
  have hrd := hu.rb enB_len
  have hbs := lsaB_in (a := a)
  have hbl := lsaB_len (a := a)
  have hll := hok.2.2.2.1
  have hsl := hok.2.2.2.2.1
  have hh : K (.int .i64 (sumR (lsaB a))) H := h
  generalize lsaB a = bs at *
  refine ⟨InvSum H1 bs, ⟨bs.length, Shr.of ⟨0, by omega, by simp [sumR], by omega, rfl⟩⟩, ?_⟩
  rintro m ys Hc ⟨i, hi, rfl, rfl, rfl⟩
  simp [hrd.1.len]
  refine ⟨fun hlt => ?_, fun hge => ?_⟩
  · have hs := sumR_in (bs.take i)
    have hc := hbs bs[i] (List.getElem_mem hlt)
    unfold isB at hc
    have hsucc := sumR_succ hlt
    generalize sumR (bs.take i) = q at *
    rw [i64_in (n := 257 * q) (by omega) (by omega)]
    refine hrd.1.idx (by omega) (by simpa using hlt) fun p hp => ?_
    rw [hp.ld]
    simp [hlt, aCv_int]
    rw [i64_in (n := bs[i]) (by omega) (by omega), i64_in (n := 257 * q + bs[i]) (by omega) (by omega), i64_in (n := 257 * q + bs[i] + 1) (by omega) (by omega), Int.tmod_eq_emod_of_nonneg (by omega), i64_in (n := (i : Int) + 1) (by omega) (by omega)]
    exact ⟨bs.length - (i + 1), by omega, Shr.of ⟨i + 1, by omega, by rw [hsucc]; rfl, rfl, rfl⟩⟩
  · have : i = bs.length := by omega
    subst this
    rw [List.take_length]
    exact Ret.shr hh rfl hu.sub
theorem C_i_Lsa_sum {b : Bool} {a : TLsa} {vs : List V} {H : Heap} {K : V → Heap → Prop} (hv : (lsaT b).rd H a vs) (hok : lsaOk a) (h : K (.int .i64 (lsaSum a)) H) : ACalls P n_i_Lsa_sum [.agg vs] H K := by
  have hv' := hv
  obtain ⟨l, s, rfl, g1, g2⟩ := hv
  have hcc := lsa_cell g1 g2
  apply W_i_Lsa_sum
  unfold F_i_Lsa_sum
  simp [hcc]
  refine C_i_Lsa_bytes hv' hok fun u H1 hu => ?_
  have hrd := hu.rb enB_len
  have hbs := lsaB_in (a := a)
  have hbl := lsaB_len (a := a)
  have hll := hok.2.2.2.1
  have hsl := hok.2.2.2.2.1
  have hh : K (.int .i64 (sumR (lsaB a))) H := h
  generalize lsaB a = bs at *
  simp [hrd.1.len]
  refine ⟨InvSum H1 bs, ⟨bs.length, Shr.of ⟨0, by omega, by simp [sumR], by omega, rfl⟩⟩, ?_⟩
  rintro m ys Hc ⟨i, hi, rfl, rfl, rfl⟩
  simp
  refine ⟨fun hlt => ?_, fun hge => ?_⟩
  · have hs := sumR_in (bs.take i)
    have hc := hbs bs[i] (List.getElem_mem hlt)
    unfold isB at hc
    have hsucc := sumR_succ hlt
    generalize sumR (bs.take i) = q at *
    refine hrd.1.idx (by omega) (by simpa using hlt) fun p hp => ?_
    rw [hp.ld]
    simp [hlt, aCv_int]
    rw [i64_in (n := 257 * q) (by omega) (by omega)]
    rw [i64_in (n := bs[i]) (by omega) (by omega), i64_in (n := 257 * q + bs[i]) (by omega) (by omega), i64_in (n := 257 * q + bs[i] + 1) (by omega) (by omega), Int.tmod_eq_emod_of_nonneg (by omega), i64_in (n := (i : Int) + 1) (by omega) (by omega)]
    exact ⟨bs.length - (i + 1), by omega, Shr.of ⟨i + 1, by omega, by rw [hsucc]; rfl, rfl, rfl⟩⟩
  · have : i = bs.length := by omega
    subst this
    rw [List.take_length]
    exact Ret.shr hh rfl hu.sub

def signI (x : Int) : Int := if 0 < x then 1 else if x < 0 then -1 else 0
theorem C_s_l05Sign {x : Int} {H : Heap} {K : V → Heap → Prop} (h : K (.int .i64 (signI x)) H) : ACalls P n_s_l05Sign [.int .i64 x] H K := by
  apply W_s_l05Sign
  unfold F_s_l05Sign
  simp
  unfold signI at h
  refine ⟨fun q => ?_, fun q => ⟨fun q2 => ?_, fun q2 => ?_⟩⟩
  · rw [if_pos q] at h; exact Ret.of h
  · rw [if_neg (by omega), if_pos q2] at h; exact Ret.of h
  · rw [if_neg (by omega), if_neg (by omega)] at h; exact Ret.of h
def newerR (a b : TLsa) : Int :=
  if a.seq ≠ b.seq then signI (a.seq - b.seq)
  else if lsaSum a ≠ lsaSum b then signI (lsaSum a - lsaSum b)
  else if a.age = b.age then 0
  else if a.age = 60 ∨ b.age = 60 then signI (a.age - b.age)
  else if a.age - b.age > 10 ∨ b.age - a.age > 10 then signI (b.age - a.age)
  else 0
theorem C_s_Newer {b b' : Bool} {x y : TLsa} {us vs : List V} {H : Heap} {K : V → Heap → Prop} (hu : (lsaT b).rd H x us) (hv : (lsaT b').rd H y vs) (hx : lsaOk x) (hy : lsaOk y) (ho : x.origin = y.origin) (h : K (.int .i64 (newerR x y)) H) : ACalls P n_s_Newer [.agg us, .agg vs] H K := by
  have hu' := hu
  have hv' := hv
  obtain ⟨l, s, rfl, g1, g2⟩ := hu
  have hcu := lsa_cell g1 g2
  obtain ⟨l', s', rfl, g1', g2'⟩ := hv
  have hcv := lsa_cell g1' g2'
  apply W_s_Newer
  unfold F_s_Newer
  simp [hcu, hcv]
  refine C_s_LsaOk hu' ?_
  simp [hx]
  refine C_s_LsaOk hv' ?_
  simp [hy]
  refine ⟨fun q => absurd ho q, fun _ => ?_⟩
  have s1 := hx.2.1
  have s2 := hy.2.1
  have a1 := hx.2.2.1
  have a2 := hy.2.2.1
  unfold newerR at h
  refine ⟨fun q => ?_, fun q => ?_⟩
  · rw [if_pos q] at h
    rw [i64_in (by omega) (by omega)]
    exact C_s_l05Sign (Ret.of h)
  rw [if_neg (by simpa using q)] at h
  refine ⟨H, Abs.sub_refl _, ?_⟩
  refine C_s_LsaSum hu' hx ⟨Abs.sub_refl _, ?_⟩
  refine C_s_LsaSum hv' hy ⟨Abs.sub_refl _, ?_⟩
  have m1 := sumR_in (lsaB x)
  have m2 := sumR_in (lsaB y)
  have m1 : 0 ≤ lsaSum x ∧ lsaSum x < 1000003 := m1
  have m2 : 0 ≤ lsaSum y ∧ lsaSum y < 1000003 := m2
  simp
  refine ⟨fun q2 => ?_, fun q2 => ?_⟩
  · rw [if_pos q2] at h
    refine ⟨H, Abs.sub_refl _, ?_⟩
    refine C_s_LsaSum hu' hx ⟨Abs.sub_refl _, ?_⟩
    refine C_s_LsaSum hv' hy ⟨Abs.sub_refl _, ?_⟩
    simp
    rw [i64_in (by omega) (by omega)]
    exact C_s_l05Sign ⟨Abs.sub_refl _, Ret.of h⟩
  rw [if_neg (by simpa using q2)] at h
  refine ⟨fun q3 => ?_, fun q3 => ?_⟩
  · rw [if_pos q3] at h; exact Ret.of h
  rw [if_neg q3] at h
  rw [i64_in (n := x.age - y.age) (by omega) (by omega), i64_in (n := y.age - x.age) (by omega) (by omega)]
  refine ⟨fun q4 => ?_, fun q4 => ⟨fun q5 => ?_, fun q5 => ⟨fun q6 => ?_, fun q6 => ⟨fun q7 => ?_, fun q7 => ?_⟩⟩⟩⟩
  · rw [if_pos (.inl q4)] at h; exact C_s_l05Sign (Ret.of h)
  · rw [if_pos (.inr q5)] at h; exact C_s_l05Sign (Ret.of h)
  · rw [if_neg (by omega), if_pos (by omega)] at h; exact C_s_l05Sign (Ret.of h)
  · rw [if_neg (by omega), if_pos (by omega)] at h; exact C_s_l05Sign (Ret.of h)
  · rw [if_neg (by omega), if_neg (by omega)] at h; exact Ret.of h
theorem C_i_newer_1 {b : Bool} {x : TLsa} {us : List V} {H : Heap} {K : V → Heap → Prop} (hu : (lsaT b).rd H x us) (h : K (.bool (decide (x.age = 60))) H) : ACalls P n_i_newer_1 [.agg us] H K := by
  obtain ⟨l, s, rfl, g1, g2⟩ := hu
  have hcu := lsa_cell g1 g2
  apply W_i_newer_1
  unfold F_i_newer_1
  simp [hcu]
  exact Ret.eq h (by by_cases q : x.age = 60 <;> simp [q])
def InvOr (x y : Int) (H : Heap) (m : Nat) (ys : List V) (Hc : Heap) : Prop := ∃ i : Nat, i ≤ 2 ∧ ys = [.int .i64 (i : Nat)] ∧ m = 2 - i ∧ Hc = H ∧ (0 < i → x = 0) ∧ (1 < i → y = 0)
theorem C_cmp_Or {x y : Int} {o : Nat} {H : Heap} {K : V → Heap → Prop} (ho : H o = some ⟨1, [[.int .i64 x], [.int .i64 y]]⟩) (h : K (.int .i64 (if x ≠ 0 then x else y)) H) : ACalls P n_cmp_Or_int [.slice o 0 2 (some 2)] H K := by
  have rd : Rd H 1 (.slice o 0 2 (some 2)) [[.int .i64 x], [.int .i64 y]] := by
    refine ⟨by simp, .inr (.inr ⟨o, 0, some 2, _, rfl, ho, rfl, by simp, fun i hi => ?_⟩)⟩
    simp at hi
    simp
  apply W_cmp_Or_int
  unfold F_cmp_Or_int
  simp
  refine ⟨InvOr x y H, ⟨2, Shr.of ⟨0, by omega, rfl, by omega, rfl, by omega, by omega⟩⟩, ?_⟩
  rintro m ys Hc ⟨i, hi, rfl, rfl, rfl, h1, h2⟩
  simp
  refine ⟨fun hlt => ?_, fun hge => ?_⟩
  · refine rd.idx (by omega) (by simp; omega) fun p hp => ?_
    rw [hp.ld]
    have e0 : i = 0 ∨ i = 1 := by omega
    rcases e0 with rfl | rfl
    · simp
      refine ⟨fun q => ?_, fun q => ?_⟩
      · rw [if_pos q] at h; exact Ret.of h
      · exact ⟨1, by omega, Shr.of ⟨1, by omega, by rw [i64_in (by omega) (by omega)]; rfl, rfl, rfl, fun _ => q, by omega⟩⟩
    · have hx := h1 (by omega)
      rw [if_neg (by simpa using hx)] at h
      simp
      refine ⟨fun q => Ret.of h, fun q => ?_⟩
      exact Shr.of ⟨2, by omega, by rw [i64_in (by omega) (by omega)]; rfl, rfl, rfl, fun _ => hx, fun _ => q⟩
  · have hx := h1 (by omega)
    have hy := h2 (by omega)
    rw [if_neg (by simpa using hx), hy] at h
    exact Ret.of h
theorem sign_cmp (a b : Int) : signI (a - b) = cmpI a b := by
  unfold signI cmpI
  repeat' split
  all_goals omega
theorem cmp_ne (a b : Int) : cmpI a b ≠ 0 ↔ a ≠ b := by
  unfold cmpI
  split
  · simp; omega
  · split
    · simp; omega
    · simp; omega
theorem newer_alt {x y : TLsa} (hx : lsaOk x) (hy : lsaOk y) : newerR x y = if (if cmpI x.seq y.seq ≠ 0 then cmpI x.seq y.seq else cmpI (lsaSum x) (lsaSum y)) ≠ 0 then (if cmpI x.seq y.seq ≠ 0 then cmpI x.seq y.seq else cmpI (lsaSum x) (lsaSum y))
    else if ¬ (x.age = 60 ↔ y.age = 60) then (if x.age = 60 then 1 else -1) else if 10 < x.age - y.age then -1 else if 10 < y.age - x.age then 1 else 0 := by
  have a1 := hx.2.2.1
  have a2 := hy.2.2.1
  have hsg := sign_cmp
  have hne := cmp_ne
  unfold newerR
  rw [hsg, hsg]
  by_cases q1 : x.seq = y.seq
  · have e1 : cmpI x.seq y.seq = 0 := by rw [q1]; unfold cmpI; simp
    rw [if_neg (by simpa using q1), e1]
    simp only [ne_eq, not_true_eq_false, if_false]
    by_cases q2 : lsaSum x = lsaSum y
    · have e2 : cmpI (lsaSum x) (lsaSum y) = 0 := by rw [q2]; unfold cmpI; simp
      rw [e2]
      simp only [q2, ne_eq, not_true_eq_false, if_false]
      unfold signI
      repeat' split
      all_goals omega
    · have := (hne (lsaSum x) (lsaSum y)).2 q2
      simp [q2, this]
  · have := (hne x.seq y.seq).2 q1
    simp [q1, this]
theorem C_i_newer {b b' : Bool} {x y : TLsa} {us vs : List V} {H : Heap} {K : V → Heap → Prop} (hu : (lsaT b).rd H x us) (hv : (lsaT b').rd H y vs) (hx : lsaOk x) (hy : lsaOk y) (h : K (.int .i64 (newerR x y)) H) : ACalls P n_i_newer [.agg us, .agg vs] H K := by
  have hu' := hu
  have hv' := hv
  obtain ⟨l, s, rfl, g1, g2⟩ := hu
  have hcu := lsa_cell g1 g2
  obtain ⟨l', s', rfl, g1', g2'⟩ := hv
  have hcv := lsa_cell g1' g2'
  have a1 := hx.2.2.1
  have a2 := hy.2.2.1
  apply W_i_newer
  unfold F_i_newer
  simp [hcu, hcv]
  refine ⟨H, Abs.sub_refl _, ?_⟩
  refine C_cmp_Compare_int ⟨Abs.sub_refl _, ?_⟩
  refine C_i_Lsa_sum hu' hx ⟨Abs.sub_refl _, ?_⟩
  refine C_i_Lsa_sum hv' hy ⟨Abs.sub_refl _, ?_⟩
  refine C_cmp_Compare_int ⟨Abs.sub_refl _, ?_⟩
  rw [newer_alt hx hy] at h
  generalize cmpI x.seq y.seq = c1 at *
  generalize cmpI (lsaSum x) (lsaSum y) = c2 at *
  have hb : bsl 1 2 [V.int .i64 0] [(0, .int .i64 c1), (1, .int .i64 c2)] = some [[.int .i64 c1], [.int .i64 c2]] := rfl
  rw [hb]
  simp only [bnd_some]
  intro o ho
  have hs := sub_fresh (x := ⟨1, [[V.int .i64 c1], [.int .i64 c2]]⟩) ho
  refine ⟨hs, ?_⟩
  refine C_cmp_Or (upd_eq _ _ _) ⟨hs, ?_⟩
  generalize (if c1 ≠ 0 then c1 else c2) = c at *
  simp
  refine ⟨fun q => ?_, fun q => ?_⟩
  · rw [if_pos q] at h; exact Ret.shr h rfl hs
  rw [if_neg (by simpa using q)] at h
  refine ⟨H, hs, ?_⟩
  refine C_i_newer_1 ((lsaT b).mono hu' hs) ⟨hs, ?_⟩
  refine C_i_newer_1 ((lsaT b').mono hv' hs) ⟨hs, ?_⟩
  rw [i64_in (n := x.age - y.age) (by omega) (by omega), i64_in (n := y.age - x.age) (by omega) (by omega)]
  have e : aBinB .neq (.bool (decide (x.age = 60))) (.bool (decide (y.age = 60))) = some (.bool (decide (x.age = 60) != decide (y.age = 60))) := rfl
  rw [e]
  simp only [bnd_some]
  by_cases q1 : x.age = 60
  · have d1 : decide (x.age = 60) = true := decide_eq_true q1
    by_cases q2 : y.age = 60
    · have d2 : decide (y.age = 60) = true := decide_eq_true q2
      rw [if_neg (by simp [q1, q2]), if_neg (by omega), if_neg (by omega)] at h
      simp only [d1, d2]
      simp
      exact ⟨fun q3 => absurd q3 (by omega), fun _ => ⟨fun q3 => absurd q3 (by omega), fun _ => Ret.shr h rfl hs⟩⟩
    · have d2 : decide (y.age = 60) = false := decide_eq_false q2
      rw [if_pos (by simp [q1, q2]), if_pos q1] at h
      simp only [d1, d2]
      simp
      refine C_i_newer_1 ((lsaT b).mono hu' hs) ?_
      simp only [d1]
      simp
      exact Ret.shr h rfl hs
  · have d1 : decide (x.age = 60) = false := decide_eq_false q1
    by_cases q2 : y.age = 60
    · have d2 : decide (y.age = 60) = true := decide_eq_true q2
      rw [if_pos (by simp [q1, q2]), if_neg q1] at h
      simp only [d1, d2]
      simp
      refine C_i_newer_1 ((lsaT b).mono hu' hs) ?_
      simp only [d1]
      simp
      exact Ret.shr h rfl hs
    · have d2 : decide (y.age = 60) = false := decide_eq_false q2
      rw [if_neg (by simp [q1, q2])] at h
      simp only [d1, d2]
      simp
      refine ⟨fun q3 => ?_, fun q3 => ⟨fun q4 => ?_, fun q4 => ?_⟩⟩
      · rw [if_pos q3] at h; exact Ret.shr h rfl hs
      · rw [if_neg (by omega), if_pos q4] at h; exact Ret.shr h rfl hs
      · rw [if_neg (by omega), if_neg (by omega)] at h; exact Ret.shr h rfl hs
end Go.Proofs.Ytgoljfhjhcjcpaa
