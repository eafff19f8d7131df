/-
Plain terms: an advertisement's bytes read back; comparisons turned.
-/
import Derived.Test.YtgoljfhjhcjcpaaTakeP
import Derived.Test.YtgoljfhjhcjcpaaBytM
set_option linter.all false
namespace Go.Proofs.Ytgoljfhjhcjcpaa
open Go Go.Abs Go.Proofs

theorem flat_drop {α : Type} {f : α → List Int} {m : Nat} (hf : ∀ x, (f x).length = m) : ∀ {ls : List α} {i : Nat} (hi : i < ls.length), (ls.flatMap f).drop (m * i) = f ls[i] ++ (ls.drop (i + 1)).flatMap f
  | x :: ls, 0, _ => by simp
  | x :: ls, i + 1, hi => by
    have hi' : i < ls.length := by simpa using hi
    have ih := flat_drop hf hi'
    rw [List.flatMap_cons, show m * (i + 1) = (f x).length + m * i by rw [hf, Nat.mul_add, Nat.mul_one, Nat.add_comm], ← List.drop_drop, List.drop_left]
    simpa using ih
theorem flat_len {α : Type} {f : α → List Int} {m : Nat} (hf : ∀ x, (f x).length = m) : ∀ (ls : List α), (ls.flatMap f).length = m * ls.length
  | [] => by simp
  | x :: ls => by rw [List.flatMap_cons, List.length_append, hf, flat_len hf ls, List.length_cons, Nat.mul_add, Nat.mul_one, Nat.add_comm]
theorem nth_drop (b : List Int) (k j : Nat) : nth b (k + j) = nth (b.drop k) j := by
  unfold nth
  rw [List.getD_eq_getElem?_getD, List.getD_eq_getElem?_getD, List.getElem?_drop]
theorem rdB_ndrop (b : List Int) (k j c : Nat) : rdB b (k + j) c = rdB (b.drop k) j c := by
  unfold rdB
  rw [List.take_drop, List.drop_drop, Nat.add_assoc]
theorem readB_two {x : Int} (h : 0 ≤ x ∧ x < 65536) : readB (wideL x 2) = x := by
  have p0 : (2 : Int) ^ (8 * 0) = 1 := rfl
  have p1 : (2 : Int) ^ (8 * 1) = 256 := rfl
  simp only [wideL, byteAt, readB, List.foldl, p0, p1]
  omega
theorem readB_three {x : Int} (h : 0 ≤ x ∧ x < 16777216) : readB (wideL x 3) = x := by
  have p0 : (2 : Int) ^ (8 * 0) = 1 := rfl
  have p1 : (2 : Int) ^ (8 * 1) = 256 := rfl
  have p2 : (2 : Int) ^ (8 * 2) = 65536 := rfl
  simp only [wideL, byteAt, readB, List.foldl, p0, p1, p2]
  omega
/-- What was put is taken. -/
theorem take_put {a : TLsa} (h : lsaOk a) : takeR (putB a) = (a, true) := by
  obtain ⟨h1, h2, h3, h4, h5, h6, h7⟩ := h
  have e : putB a = (a.origin % 256) :: (wideL a.seq 3 ++ (((a.links.length : Int) % 256) :: (a.links.flatMap lkB ++ (((a.stubs.length : Int) % 256) :: (a.stubs.flatMap stB ++ ((a.age % 256) :: wideL (lsaSum a) 3)))))) := by
    simp [putB, lsaB, midB, headB]
  have lL := flat_len lkB_len a.links
  have lS := flat_len stB_len a.stubs
  have n0 : nth (putB a) 0 = a.origin := by rw [e]; show a.origin % 256 = a.origin; omega
  have d1 : (putB a).drop 1 = wideL a.seq 3 ++ (((a.links.length : Int) % 256) :: (a.links.flatMap lkB ++ (((a.stubs.length : Int) % 256) :: (a.stubs.flatMap stB ++ ((a.age % 256) :: wideL (lsaSum a) 3))))) := by rw [e]; rfl
  have r1 : rdB (putB a) 1 3 = a.seq := by
    have := rdB_ndrop (putB a) 1 0 3
    rw [show 1 + 0 = 1 from rfl] at this
    rw [this, d1]
    unfold rdB
    rw [List.drop_zero, Nat.zero_add, List.take_append_of_le_length (by simp), List.take_of_length_le (by simp)]
    exact readB_three (by omega)
  have d4 : (putB a).drop 4 = ((a.links.length : Int) % 256) :: (a.links.flatMap lkB ++ (((a.stubs.length : Int) % 256) :: (a.stubs.flatMap stB ++ ((a.age % 256) :: wideL (lsaSum a) 3)))) := by
    rw [show 4 = 1 + 3 from rfl, ← List.drop_drop, d1]
    rw [List.drop_append_of_le_length (by simp), List.drop_of_length_le (by simp)]
    rfl
  have n4 : nth (putB a) 4 = a.links.length := by
    have := nth_drop (putB a) 4 0
    rw [show 4 + 0 = 4 from rfl] at this
    rw [this, d4]
    show (a.links.length : Int) % 256 = a.links.length
    omega
  have hnL : nL (putB a) = a.links.length := by unfold nL; rw [n4]; omega
  have d5 : (putB a).drop 5 = a.links.flatMap lkB ++ (((a.stubs.length : Int) % 256) :: (a.stubs.flatMap stB ++ ((a.age % 256) :: wideL (lsaSum a) 3))) := by
    rw [show 5 = 4 + 1 from rfl, ← List.drop_drop, d4]; rfl
  have hlinks : linksAt (putB a) (nL (putB a)) = a.links := by
    apply List.ext_getElem
    · rw [linksAt_len, hnL]
    · intro i hi1 hi2
      have hk := h6 i hi2
      unfold lkOk at hk
      rw [show lk a.links i = a.links[i] by simp [lk, hi2]] at hk
      have dd : (putB a).drop (5 + 3 * i) = (lkB a.links[i] ++ (a.links.drop (i + 1)).flatMap lkB) ++ (((a.stubs.length : Int) % 256) :: (a.stubs.flatMap stB ++ ((a.age % 256) :: wideL (lsaSum a) 3))) := by
        rw [← List.drop_drop, d5, List.drop_append_of_le_length (by omega), flat_drop lkB_len hi2]
      have e1 : (linksAt (putB a) (nL (putB a)))[i] = linkAt (putB a) i := by simp [linksAt]
      rw [e1]
      unfold linkAt
      have q1 : nth (putB a) (5 + 3 * i) = a.links[i].1 := by
        have := nth_drop (putB a) (5 + 3 * i) 0
        rw [Nat.add_zero] at this
        rw [this, dd]
        show a.links[i].1 % 256 = a.links[i].1
        omega
      have q2 : rdB (putB a) (6 + 3 * i) 2 = a.links[i].2 := by
        have := rdB_ndrop (putB a) (5 + 3 * i) 1 2
        rw [show 5 + 3 * i + 1 = 6 + 3 * i by omega] at this
        rw [this, dd]
        have : rdB ((lkB a.links[i] ++ (a.links.drop (i + 1)).flatMap lkB) ++ (((a.stubs.length : Int) % 256) :: (a.stubs.flatMap stB ++ ((a.age % 256) :: wideL (lsaSum a) 3)))) 1 2 = readB (wideL a.links[i].2 2) := rfl
        rw [this]
        exact readB_two (by omega)
      rw [q1, q2]
  have hpS : pS (putB a) = 5 + 3 * a.links.length := by unfold pS; rw [hnL]
  have dS : (putB a).drop (5 + 3 * a.links.length) = ((a.stubs.length : Int) % 256) :: (a.stubs.flatMap stB ++ ((a.age % 256) :: wideL (lsaSum a) 3)) := by
    rw [← List.drop_drop, d5, List.drop_append_of_le_length (by omega), List.drop_of_length_le (by omega)]; rfl
  have hnS : nS (putB a) = a.stubs.length := by
    unfold nS
    rw [hpS]
    have := nth_drop (putB a) (5 + 3 * a.links.length) 0
    rw [Nat.add_zero] at this
    rw [this, dS]
    show ((a.stubs.length : Int) % 256).toNat = a.stubs.length
    omega
  have dT : (putB a).drop (5 + 3 * a.links.length + 1) = a.stubs.flatMap stB ++ ((a.age % 256) :: wideL (lsaSum a) 3) := by
    rw [← List.drop_drop, dS]; rfl
  have hstubs : stubsAt (putB a) (nS (putB a)) = a.stubs := by
    apply List.ext_getElem
    · rw [stubsAt_len, hnS]
    · intro i hi1 hi2
      have hk := h7 i hi2
      unfold stOk prefOk addrOk at hk
      rw [show rt a.stubs i = a.stubs[i] by simp [rt, hi2]] at hk
      have dd : (putB a).drop (5 + 3 * a.links.length + 1 + 5 * i) = (stB a.stubs[i] ++ (a.stubs.drop (i + 1)).flatMap stB) ++ ((a.age % 256) :: wideL (lsaSum a) 3) := by
        rw [← List.drop_drop, dT, List.drop_append_of_le_length (by omega), flat_drop stB_len hi2]
      have e1 : (stubsAt (putB a) (nS (putB a)))[i] = stubAt (putB a) (pS (putB a) + 1) i := by simp [stubsAt]
      rw [e1]
      unfold stubAt
      rw [hpS]
      have q1 : rdB (putB a) (5 + 3 * a.links.length + 1 + 5 * i) 2 = a.stubs[i].1 := by
        have := rdB_ndrop (putB a) (5 + 3 * a.links.length + 1 + 5 * i) 0 2
        rw [Nat.add_zero] at this
        rw [this, dd]
        have : rdB ((stB a.stubs[i] ++ (a.stubs.drop (i + 1)).flatMap stB) ++ ((a.age % 256) :: wideL (lsaSum a) 3)) 0 2 = readB (wideL a.stubs[i].1 2) := rfl
        rw [this]
        exact readB_two (by omega)
      have q2 : nth (putB a) (5 + 3 * a.links.length + 1 + 5 * i + 2) = a.stubs[i].2.1 := by
        rw [nth_drop, dd]
        show a.stubs[i].2.1 % 256 = a.stubs[i].2.1
        omega
      have q3 : rdB (putB a) (5 + 3 * a.links.length + 1 + 5 * i + 3) 2 = a.stubs[i].2.2 := by
        rw [rdB_ndrop, dd]
        have : rdB ((stB a.stubs[i] ++ (a.stubs.drop (i + 1)).flatMap stB) ++ ((a.age % 256) :: wideL (lsaSum a) 3)) 3 2 = readB (wideL a.stubs[i].2.2 2) := rfl
        rw [this]
        exact readB_two (by omega)
      rw [q1, q2, q3]
  have hpA : pA (putB a) = 5 + 3 * a.links.length + 1 + 5 * a.stubs.length := by unfold pA; rw [hpS, hnS]
  have nA : nth (putB a) (pA (putB a)) = a.age := by
    rw [hpA]
    have := nth_drop (putB a) (5 + 3 * a.links.length + 1 + 5 * a.stubs.length) 0
    rw [Nat.add_zero] at this
    rw [this, ← List.drop_drop, dT, List.drop_append_of_le_length (by omega), List.drop_of_length_le (by omega)]
    show a.age % 256 = a.age
    omega
  have hat : lsaAt (putB a) = a := by
    unfold lsaAt
    rw [n0, r1, nA, hlinks, hstubs]
  have hlen := putB_len a
  unfold takeR
  rw [if_pos ⟨⟨by omega, by omega, by omega⟩, by rw [hat]; exact ⟨h1, h2, h3, h4, h5, h6, h7⟩, by rw [hat]⟩, hat]

theorem sign_neg (x : Int) : signI (-x) = -signI x := by unfold signI; repeat' split
                                                         all_goals omega
theorem newer_turn (a b : TLsa) : newerR b a = -newerR a b := by
  unfold newerR
  have e1 : signI (b.seq - a.seq) = -signI (a.seq - b.seq) := by rw [← sign_neg]; congr 1; omega
  have e2 : signI (lsaSum b - lsaSum a) = -signI (lsaSum a - lsaSum b) := by rw [← sign_neg]; congr 1; omega
  have e3 : signI (b.age - a.age) = -signI (a.age - b.age) := by rw [← sign_neg]; congr 1; omega
  by_cases h1 : a.seq = b.seq
  · rw [if_neg (show ¬ b.seq ≠ a.seq by omega), if_neg (show ¬ a.seq ≠ b.seq by omega)]
    by_cases h2 : lsaSum a = lsaSum b
    · rw [if_neg (show ¬ lsaSum b ≠ lsaSum a by omega), if_neg (show ¬ lsaSum a ≠ lsaSum b by omega)]
      by_cases h3 : a.age = b.age
      · rw [if_pos (show b.age = a.age by omega), if_pos h3]; rfl
      · rw [if_neg (show ¬ b.age = a.age by omega), if_neg h3]
        by_cases h4 : a.age = 60 ∨ b.age = 60
        · rw [if_pos (show b.age = 60 ∨ a.age = 60 by omega), if_pos h4, e3]
        · rw [if_neg (show ¬ (b.age = 60 ∨ a.age = 60) by omega), if_neg h4]
          by_cases h5 : a.age - b.age > 10 ∨ b.age - a.age > 10
          · rw [if_pos (show b.age - a.age > 10 ∨ a.age - b.age > 10 by omega), if_pos h5, e3, Int.neg_neg]
          · rw [if_neg (show ¬ (b.age - a.age > 10 ∨ a.age - b.age > 10) by omega), if_neg h5]; rfl
    · rw [if_pos (show lsaSum b ≠ lsaSum a by omega), if_pos h2, e2]
  · rw [if_pos (show b.seq ≠ a.seq by omega), if_pos h1, e1]
theorem newer_self (a : TLsa) : newerR a a = 0 := by
  unfold newerR; simp
theorem sign_zero {x : Int} (h : x ≠ 0) : signI x ≠ 0 := by
  unfold signI; repeat' split
  all_goals omega
theorem newer_zero {a b : TLsa} (h : newerR a b = 0) : a.seq = b.seq ∧ lsaSum a = lsaSum b := by
  unfold newerR at h
  by_cases h1 : a.seq = b.seq
  · rw [if_neg (show ¬ a.seq ≠ b.seq by omega)] at h
    by_cases h2 : lsaSum a = lsaSum b
    · exact ⟨h1, h2⟩
    · rw [if_pos h2] at h; exact absurd h (sign_zero (show lsaSum a - lsaSum b ≠ 0 by omega))
  · rw [if_pos h1] at h; exact absurd h (sign_zero (show a.seq - b.seq ≠ 0 by omega))
theorem newer_in3 (a b : TLsa) : newerR a b = -1 ∨ newerR a b = 0 ∨ newerR a b = 1 := by
  have s : ∀ x, signI x = -1 ∨ signI x = 0 ∨ signI x = 1 := fun x => by
    unfold signI; repeat' split
    all_goals omega
  unfold newerR
  repeat' split
  all_goals first | exact s _ | omega
def nextL (a : TLsa) (ls : List TLink) (ss : List TStub) : TLsa := ⟨a.origin, a.seq + 1, 0, ls, ss⟩
theorem next_ok {a b : TLsa} (ha : lsaOk a) (hb : lsaOk b) (ho : a.origin = b.origin) : lsaOk (nextL a b.links b.stubs) ↔ a.seq ≠ 1000000 := by
  obtain ⟨h1, h2, h3, h4, h5, h6, h7⟩ := ha
  obtain ⟨k1, k2, k3, k4, k5, k6, k7⟩ := hb
  unfold lsaOk nextL
  simp only
  constructor
  · rintro ⟨_, q, _⟩; omega
  · intro q
    exact ⟨h1, by omega, by omega, k4, k5, by rw [ho]; exact k6, k7⟩
theorem next_newer (a : TLsa) (ls : List TLink) (ss : List TStub) : newerR (nextL a ls ss) a = 1 := by
  unfold newerR nextL
  simp only
  rw [if_pos (by omega), show a.seq + 1 - a.seq = 1 by omega]
  rfl

end Go.Proofs.Ytgoljfhjhcjcpaa
