/-
Contracts: checksums; which advertisement is newer; offers.
-/
import Derived.Test.YtcmpkkcbdmllpacBytes2
set_option linter.all false
namespace Go.Proofs.Ytcmpkkcbdmllpac
open Go Go.Abs Go.Proofs

def stepS (h c : Int) : Int := (257 * h + c + 1) % 1000003
def sumR (bs : List Int) : Int := bs.foldl stepS 1
def lsaSum (a : TLsa) : Int := sumR (lsaB a)
theorem sumR_in (bs : List Int) : 0 ≤ sumR bs ∧ sumR bs < 1000003 := by
  have : ∀ (bs : List Int) (h : Int), 0 ≤ h ∧ h < 1000003 → 0 ≤ bs.foldl stepS h ∧ bs.foldl stepS h < 1000003 := by
    intro bs
    induction bs with
    | nil => exact fun h hh => hh
    | cons c bs ih => exact fun h _ => ih _ (by unfold stepS; omega)
  exact this bs 1 (by omega)
theorem sumR_succ {bs : List Int} {i : Nat} (h : i < bs.length) : sumR (bs.take (i + 1)) = stepS (sumR (bs.take i)) bs[i] := by
  unfold sumR
  rw [List.take_succ_eq_append_getElem h, List.foldl_append]
  rfl
def isB (c : Int) : Prop := 0 ≤ c ∧ c < 256
theorem wide_in {x : Int} : ∀ {n : Nat}, ∀ c ∈ wideL x n, isB c
  | n + 1, c, h => by
    rcases List.mem_cons.1 h with rfl | h
    · unfold byteAt isB; omega
    · exact wide_in c h
theorem mod_in (x : Int) : isB (x % 256) := by unfold isB; omega
theorem lkB_in {k : TLink} : ∀ c ∈ lkB k, isB c := by
  intro c h
  rcases List.mem_cons.1 h with rfl | h
  · exact mod_in _
  · exact wide_in c h
theorem stB_in {k : TStub} : ∀ c ∈ stB k, isB c := by
  intro c h
  rcases List.mem_append.1 h with h | h
  · rcases List.mem_append.1 h with h | h
    · exact wide_in c h
    · simp at h; subst h; exact mod_in _
  · exact wide_in c h
theorem lsaB_in {a : TLsa} : ∀ c ∈ lsaB a, isB c := by
  intro c h
  rcases List.mem_append.1 h with h | h
  · rcases List.mem_append.1 h with h | h
    · rcases List.mem_append.1 h with h | h
      · rcases List.mem_append.1 h with h | h
        · rcases List.mem_append.1 h with h | h
          · simp at h; subst h; exact mod_in _
          · exact wide_in c h
        · simp at h; subst h; exact mod_in _
      · obtain ⟨k, _, hk⟩ := List.mem_flatMap.1 h
        exact lkB_in c hk
    · simp at h; subst h; exact mod_in _
  · obtain ⟨k, _, hk⟩ := List.mem_flatMap.1 h
    exact stB_in c hk
theorem lsaB_len {a : TLsa} : (lsaB a).length = 6 + 3 * a.links.length + 5 * a.stubs.length := by
  rw [lsaB, List.length_append, midB_len, fm_len stB_len]
theorem rem_int {a b : Int} (ha : 0 ≤ a) (hb : b ≠ 0) : aBinN .rem (.int .i64 a) (.int .i64 b) = some (.int .i64 (a % b)) := by
  show (if IntKind.i64 = IntKind.i64 then (if b = 0 then none else some (V.int .i64 (a.tmod b))) else none) = _
  rw [if_pos rfl, if_neg hb, Int.tmod_eq_emod_of_nonneg ha]
def InvSum (H : Heap) (bs : List Int) (m : Nat) (ys : List V) (Hc : Heap) : Prop :=
  ∃ i : Nat, i ≤ bs.length ∧ ys = [.int .i64 (sumR (bs.take i)), .int .i64 (i : Nat)] ∧ m = bs.length - i ∧ Hc = H
theorem C_s_LsaSum {b : Bool} {a : TLsa} {vs : List V} {H : Heap} {K : V → Heap → Prop} (hv : (lsaT b).rd H a vs) (hok : lsaOk a) (h : K (.int .i64 (lsaSum a)) H) : ACalls P n_s_LsaSum [.agg vs] H K := by
  have hv' := hv
  obtain ⟨l, s, rfl, g1, g2⟩ := hv
  have hcc := lsa_cell g1 g2
  apply W_s_LsaSum
  unfold F_s_LsaSum
  simp [hcc]
  refine C_s_LsaOk hv' ?_
  simp [hok]
  refine C_s_LsaBytes hv' hok fun u H1 hu => ?_
  have hrd := hu.rb enB_len
  have hbs := lsaB_in (a := a)
  have hbl := lsaB_len (a := a)
  have hll := hok.2.2.2.1
  have hsl := hok.2.2.2.2.1
  have hh : K (.int .i64 (sumR (lsaB a))) H := h
  generalize lsaB a = bs at *
  refine ⟨InvSum H1 bs, ⟨bs.length, Shr.of ⟨0, by omega, by simp [sumR], by omega, rfl⟩⟩, ?_⟩
  rintro m ys Hc ⟨i, hi, rfl, rfl, rfl⟩
  simp [hrd.1.len]
  refine ⟨fun hlt => ?_, fun hge => ?_⟩
  · have hs := sumR_in (bs.take i)
    have hc := hbs bs[i] (List.getElem_mem hlt)
    unfold isB at hc
    have hsucc := sumR_succ hlt
    generalize sumR (bs.take i) = q at *
    rw [i64_in (n := 257 * q) (by omega) (by omega)]
    refine hrd.1.idx (by omega) (by simpa using hlt) fun p hp => ?_
    rw [hp.ld]
    simp [hlt, aCv_int]
    rw [i64_in (n := bs[i]) (by omega) (by omega), i64_in (n := 257 * q + bs[i]) (by omega) (by omega), i64_in (n := 257 * q + bs[i] + 1) (by omega) (by omega), Int.tmod_eq_emod_of_nonneg (by omega), i64_in (n := (i : Int) + 1) (by omega) (by omega)]
    exact ⟨bs.length - (i + 1), by omega, Shr.of ⟨i + 1, by omega, by rw [hsucc]; rfl, rfl, rfl⟩⟩
  · have : i = bs.length := by omega
    subst this
    rw [List.take_length]
    exact Ret.shr hh rfl hu.sub
theorem C_i_Lsa_sum {b : Bool} {a : TLsa} {vs : List V} {H : Heap} {K : V → Heap → Prop} (hv : (lsaT b).rd H a vs) (hok : lsaOk a) (h : K (.int .i64 (lsaSum a)) H) : ACalls P n_i_Lsa_sum [.agg vs] H K := by
  have hv' := hv
  obtain ⟨l, s, rfl, g1, g2⟩ := hv
  have hcc := lsa_cell g1 g2
  apply W_i_Lsa_sum
  unfold F_i_Lsa_sum
  simp [hcc]
  refine C_i_Lsa_bytes hv' hok fun u H1 hu => ?_
  have hrd := hu.rb enB_len
  have hbs := lsaB_in (a := a)
  have hbl := lsaB_len (a := a)
  have hll := hok.2.2.2.1
  have hsl := hok.2.2.2.2.1
  have hh : K (.int .i64 (sumR (lsaB a))) H := h
  generalize lsaB a = bs at *
  simp [hrd.1.len]
  refine ⟨InvSum H1 bs, ⟨bs.length, Shr.of ⟨0, by omega, by simp [sumR], by omega, rfl⟩⟩, ?_⟩
  rintro m ys Hc ⟨i, hi, rfl, rfl, rfl⟩
  simp
  refine ⟨fun hlt => ?_, fun hge => ?_⟩
  · have hs := sumR_in (bs.take i)
    have hc := hbs bs[i] (List.getElem_mem hlt)
    unfold isB at hc
    have hsucc := sumR_succ hlt
    generalize sumR (bs.take i) = q at *
    refine hrd.1.idx (by omega) (by simpa using hlt) fun p hp => ?_
    rw [hp.ld]
    simp [hlt, aCv_int]
    rw [i64_in (n := 257 * q) (by omega) (by omega)]
    rw [i64_in (n := bs[i]) (by omega) (by omega), i64_in (n := 257 * q + bs[i]) (by omega) (by omega), i64_in (n := 257 * q + bs[i] + 1) (by omega) (by omega), Int.tmod_eq_emod_of_nonneg (by omega), i64_in (n := (i : Int) + 1) (by omega) (by omega)]
    exact ⟨bs.length - (i + 1), by omega, Shr.of ⟨i + 1, by omega, by rw [hsucc]; rfl, rfl, rfl⟩⟩
  · have : i = bs.length := by omega
    subst this
    rw [List.take_length]
    exact Ret.shr hh rfl hu.sub

def signI (x : Int) : Int := if 0 < x then 1 else if x < 0 then -1 else 0
def newerR (a b : TLsa) : Int :=
  if a.seq ≠ b.seq then signI (a.seq - b.seq)
  else if lsaSum a ≠ lsaSum b then signI (lsaSum a - lsaSum b)
  else if a.age = b.age then 0
  else if a.age = 60 ∨ b.age = 60 then signI (a.age - b.age)
  else if a.age - b.age > 10 ∨ b.age - a.age > 10 then signI (b.age - a.age)
  else 0
def InvOr (x y : Int) (H : Heap) (m : Nat) (ys : List V) (Hc : Heap) : Prop := ∃ i : Nat, i ≤ 2 ∧ ys = [.int .i64 (i : Nat)] ∧ m = 2 - i ∧ Hc = H ∧ (0 < i → x = 0) ∧ (1 < i → y = 0)
theorem sign_cmp (a b : Int) : signI (a - b) = cmpI a b := by
  unfold signI cmpI
  repeat' split
  all_goals omega
theorem cmp_ne (a b : Int) : cmpI a b ≠ 0 ↔ a ≠ b := by
  unfold cmpI
  split
  · simp; omega
  · split
    · simp; omega
    · simp; omega
theorem newer_alt {x y : TLsa} (hx : lsaOk x) (hy : lsaOk y) : newerR x y = if (if cmpI x.seq y.seq ≠ 0 then cmpI x.seq y.seq else cmpI (lsaSum x) (lsaSum y)) ≠ 0 then (if cmpI x.seq y.seq ≠ 0 then cmpI x.seq y.seq else cmpI (lsaSum x) (lsaSum y))
    else if ¬ (x.age = 60 ↔ y.age = 60) then (if x.age = 60 then 1 else -1) else if 10 < x.age - y.age then -1 else if 10 < y.age - x.age then 1 else 0 := by
  have a1 := hx.2.2.1
  have a2 := hy.2.2.1
  have hsg := sign_cmp
  have hne := cmp_ne
  unfold newerR
  rw [hsg, hsg]
  by_cases q1 : x.seq = y.seq
  · have e1 : cmpI x.seq y.seq = 0 := by rw [q1]; unfold cmpI; simp
    rw [if_neg (by simpa using q1), e1]
    simp only [ne_eq, not_true_eq_false, if_false]
    by_cases q2 : lsaSum x = lsaSum y
    · have e2 : cmpI (lsaSum x) (lsaSum y) = 0 := by rw [q2]; unfold cmpI; simp
      rw [e2]
      simp only [q2, ne_eq, not_true_eq_false, if_false]
      unfold signI
      repeat' split
      all_goals omega
    · have := (hne (lsaSum x) (lsaSum y)).2 q2
      simp [q2, this]
  · have := (hne x.seq y.seq).2 q1
    simp [q1, this]
end Go.Proofs.Ytcmpkkcbdmllpac
