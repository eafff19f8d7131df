/-
Contracts of the functions that play events.
-/
import Derived.Test.YtlmgahcpdapbdaaNear
import Derived.Test.YtlmgahcpdapbdaaEvents
import Derived.Test.YtlmgahcpdapbdaaInts
set_option linter.all false
namespace Go.Proofs.Ytlmgahcpdapbdaa
open Go Go.Abs Go.Proofs

abbrev TNear : Type := Int × Int × Int
abbrev vN (n : TNear) : V := vNear n.1 n.2.1 n.2.2
abbrev stepE (n : TNear) (e : TNearEvent) : TNear × Int := stepNear n.1 n.2.1 n.2.2 e.1 e.2.1 e.2.2
def play (es : List TNearEvent) : TNear × List Int := es.foldl (fun a e => ((stepE a.1 e).1, a.2 ++ [(stepE a.1 e).2])) ((0, 0, 0), [])
theorem play_succ {es : List TNearEvent} {i : Nat} (h : i < es.length) : play (es.take (i + 1)) = ((stepE (play (es.take i)).1 es[i]).1, (play (es.take i)).2 ++ [(stepE (play (es.take i)).1 es[i]).2]) := by
  unfold play
  rw [List.take_succ_eq_append_getElem h, List.foldl_append]
  rfl
theorem play_len {es : List TNearEvent} : ∀ {i : Nat}, i ≤ es.length → (play (es.take i)).2.length = i
  | 0, _ => by simp [play]
  | i + 1, h => by rw [play_succ (by omega), List.length_append, play_len (es := es) (i := i) (by omega)]; rfl
def played (es : List TNearEvent) : TNear × List Int := if 300 < es.length then ((0, 0, 0), []) else play es
def sumW (l : List Int) : Int := l.foldl (fun a k => IntKind.i64.wrap (a + k)) 0
theorem sumW_add (l : List Int) (k : Int) : sumW (l ++ [k]) = IntKind.i64.wrap (sumW l + k) := by unfold sumW; rw [List.foldl_append]; rfl
def changes (es : List TNearEvent) : Int := if 300 < es.length then -1 else sumW (play es).2

def InvP (H : Heap) (es : List TNearEvent) (n : Nat) (ys : List V) (Hc : Heap) : Prop :=
  ∃ i u c, i ≤ es.length ∧ ys = [.box c, .box [.int .i64 (play (es.take i)).1.1, .int .i64 (play (es.take i)).1.2.1, .int .i64 (play (es.take i)).1.2.2], u, .int .i64 (i : Nat)] ∧ c = [.int .i64 0, .int .i64 0, .int .i64 0] ∧ n = es.length - i ∧ Own H 1 ((play (es.take i)).2.map ri) u Hc

theorem C_s_PlayNear {es : List TNearEvent} {v : V} {H : Heap} {K : V → Heap → Prop} (hv : Rd H 3 v (es.map enNearEvent)) (h : ∀ u H', Own H 1 ((played es).2.map ri) u H' → K (.tup [vN (played es).1, u]) H') :
    ACalls P n_s_PlayNear [v] H K := by
  apply W_s_PlayNear
  unfold F_s_PlayNear
  simp [hv.len, fillZ, stz_eq, putCells, bsl_nil]
  refine ⟨fun hb => ?_, fun hs o ho => ?_⟩
  · have e : played es = ((0, 0, 0), []) := by unfold played; rw [if_pos (by omega)]
    rw [e] at h
    exact Ret.of (h .nils H (.inl ⟨rfl, rfl, rfl⟩))
  · refine ⟨InvP H es, ⟨es.length, Shr.of ⟨0, _, _, by omega, rfl, rfl, by omega, .inr (.inr ⟨o, rfl, ho, rfl, rfl⟩)⟩⟩, ?_⟩
    rintro n ys Hc ⟨i, u, c, hi, rfl, rfl, rfl, hu⟩
    simp
    refine ⟨fun hlt => ⟨Hc, by simp, ?_⟩, fun hge => ?_⟩
    · refine (hv.mono hu.sub).idx (by omega) (by simpa using hlt) fun p hp => ?_
      simp only [hp.ld]
      simp [hlt]
      apply C_s_StepNear
      simp [stz_eq, putCells, bsl_one]
      intro o2 ho2
      refine hu.append (sub_fresh ho2) (by simp) (by simp [play_len hi]; omega) fun v' H' H'' ho' hs' => ?_
      rw [i64_in (by omega) (by omega)]
      refine ⟨es.length - (i + 1), by omega, H'', hs', i + 1, v', _, by omega, ?_, rfl, rfl, ?_⟩
      · rw [play_succ hlt]; simp
      · rw [play_succ hlt]; simpa using ho'
    · have : i = es.length := by omega
      subst this
      have e : played es = play es := by unfold played; rw [if_neg (by omega)]
      rw [e] at h
      rw [List.take_length] at hu ⊢
      simp [stz_eq, putCells]
      exact Ret.eq (h u Hc hu) rfl

theorem C_s_Changes {es : List TNearEvent} {v : V} {H : Heap} {K : V → Heap → Prop} (hv : Rd H 3 v (es.map enNearEvent)) (h : ∀ H', Abs.sub H H' → K (.int .i64 (changes es)) H') :
    ACalls P n_s_Changes [v] H K := by
  apply W_s_Changes
  unfold F_s_Changes
  simp [hv.len]
  refine ⟨fun hb => ?_, fun hs => ?_⟩
  · have e : changes es = -1 := by unfold changes; rw [if_pos (by omega)]
    rw [e] at h
    exact Ret.of (h _ (Abs.sub_refl _))
  refine C_s_PlayNear hv fun u H' hu => ?_
  have e : played es = play es := by unfold played; rw [if_neg (by omega)]
  rw [e] at hu ⊢
  have hl : (play es).2.length = es.length := by have := play_len (es := es) (Nat.le_refl _); rwa [List.take_length] at this
  have ru := hu.rd ri_len
  simp [stz_eq, putCells, ru.len]
  refine ⟨fun n ys Hc => ∃ i, i ≤ es.length ∧ ys = [.int .i64 (sumW ((play es).2.take i)), .int .i64 (i : Nat)] ∧ n = es.length - i ∧ Hc = H', ⟨es.length, Shr.of ⟨0, by omega, rfl, by omega, rfl⟩⟩, ?_⟩
  rintro n ys Hc ⟨i, hi, rfl, rfl, rfl⟩
  simp
  refine ⟨fun hlt => ?_, fun hge => ?_⟩
  · refine ru.idx (by omega) (by simpa using hlt) fun p hp => ?_
    simp only [hp.ld]
    simp [hlt]
    rw [i64_in (n := (i : Int) + 1) (by omega) (by omega)]
    refine ⟨es.length - (i + 1), by omega, Shr.of ⟨i + 1, by omega, ?_, rfl, rfl⟩⟩
    rw [List.take_succ_eq_append_getElem hlt, sumW_add]
    simp
  · have : i = es.length := by omega
    subst this
    have e2 : changes es = sumW (play es).2 := by unfold changes; rw [if_neg (by omega)]
    rw [List.take_of_length_le (by omega), ← e2]
    exact Ret.of (h _ hu.sub)

/-- Whatever is done with each step: the invariant I is the caller's. -/
theorem C_i_played {es : List TNearEvent} {v f : V} {H : Heap} {K : V → Heap → Prop} (I : Nat → Heap → Prop) (hl : es.length ≤ 2097152) (hv : ∀ i Hc, I i Hc → Rd Hc 3 v (es.map enNearEvent)) (h0 : Shr (I 0) H)
    (hstep : ∀ i (hi : i < es.length) Hc K', I i Hc → (∀ u H', Shr (I (i + 1)) H' → K' u H') → callK P Hc f [.int .i64 (i : Nat), vN (play (es.take i)).1, vN (play (es.take (i + 1))).1, .int .i64 (stepE (play (es.take i)).1 es[i]).2] K')
    (hend : ∀ Hc, I es.length Hc → K (vN (play es).1) Hc) (hlen : lenOf v = some es.length) : ACalls P n_i_played [v, f] H K := by
  apply W_i_played
  unfold F_i_played
  simp [hlen, fillZ, stz_eq, putCells]
  refine ⟨fun n ys Hc => ∃ i, i ≤ es.length ∧ ys = [.box [.int .i64 0, .int .i64 0, .int .i64 0], .box [.int .i64 (play (es.take i)).1.1, .int .i64 (play (es.take i)).1.2.1, .int .i64 (play (es.take i)).1.2.2], .int .i64 (i : Nat)] ∧ n = es.length - i ∧ I i Hc, ⟨es.length, ?_⟩, ?_⟩
  · obtain ⟨H', hs, hI⟩ := h0
    exact ⟨H', hs, 0, by omega, rfl, by omega, hI⟩
  rintro n ys Hc ⟨i, hi, rfl, rfl, hI⟩
  simp
  refine ⟨fun hlt => ?_, fun hge => ?_⟩
  · refine (hv i Hc hI).idx (by omega) (by simpa using hlt) fun p hp => ?_
    simp only [hp.ld]
    simp [hlt, stz_eq, putCells]
    apply C_i_StepNear
    simp [stz_eq, putCells]
    have hs : ∀ K', (∀ u H', Shr (I (i + 1)) H' → K' u H') → callK P Hc f [.int .i64 (i : Nat), vN (play (es.take i)).1, vN (stepE (play (es.take i)).1 es[i]).1, .int .i64 (stepE (play (es.take i)).1 es[i]).2] K' := fun K' hk => by
      have := hstep i hlt Hc K' hI hk
      rwa [play_succ hlt] at this
    refine hs _ fun u H' hh => ?_
    obtain ⟨H'', q1, q2⟩ := hh
    refine ⟨es.length - (i + 1), by omega, H'', q1, i + 1, by omega, ?_, rfl, q2⟩
    rw [play_succ hlt, i64_in (by omega) (by omega)]
    simp
  · have : i = es.length := by omega
    subst this
    have := hend Hc hI
    rw [List.take_length]
    simp [stz_eq, putCells]
    exact Ret.eq this rfl

theorem C_i_Changes_1 {i : V} {a b : TNear} {k n : Int} {o : Nat} {H : Heap} {K : V → Heap → Prop} (ho : H o = some ⟨1, [ri n]⟩) (h : ∀ u, K u (upd H o ⟨1, [ri (IntKind.i64.wrap (n + k))]⟩)) :
    ACalls P n_i_Changes_1 [i, vN a, vN b, .int .i64 k, .ptr o 0 0] H K := by
  apply W_i_Changes_1
  unfold F_i_Changes_1
  simp [aLd, Abs.rowAt, ho, aSt, stz_eq, putCells]
  exact Ret.of (h _)

theorem C_i_Changes {es : List TNearEvent} {v : V} {H : Heap} {K : V → Heap → Prop} (hv : Rd H 3 v (es.map enNearEvent)) (h : ∀ H', Abs.sub H H' → K (.int .i64 (changes es)) H') :
    ACalls P n_i_Changes [v] H K := by
  apply W_i_Changes
  unfold F_i_Changes
  simp [hv.len]
  refine ⟨fun hb => ?_, fun hs o ho => ?_⟩
  · have e : changes es = -1 := by unfold changes; rw [if_pos (by omega)]
    rw [e] at h
    exact Ret.of (h _ (Abs.sub_refl _))
  simp [aSt, stz_eq, putCells]
  refine C_i_played (es := es) (fun i Hc => Hc = upd H o ⟨1, [ri (sumW (play (es.take i)).2)]⟩) (by omega) (fun i Hc e => by rw [e]; exact hv.mono (sub_fresh ho)) (Shr.of rfl) ?_ ?_ (by simpa using hv.len)
  · rintro i hi Hc K' rfl hk
    refine callK_fn E_i_Changes_1 ?_
    refine C_i_Changes_1 (upd_eq _ _ _) fun u => hk u _ (Shr.of ?_)
    rw [upd_twice, play_succ hi, sumW_add]
  · rintro Hc rfl
    simp [aLd, Abs.rowAt]
    have e2 : changes es = sumW (play es).2 := by unfold changes; rw [if_neg (by omega)]
    rw [← e2]
    exact Ret.of (h _ (sub_fresh ho))

theorem C_l_szNearEventS {es : List TNearEvent} {v : V} {left : Int} {H : Heap} {K : V → Heap → Prop} (hv : Rd H 3 v (es.map enNearEvent)) (h : K (.int .i64 (if IntKind.i64.wrap (left - es.length) < 0 then -1 else IntKind.i64.wrap (left - es.length))) H) : ACalls P n_l_szNearEventS [v, .int .i64 left] H K := by
  apply W_l_szNearEventS
  unfold F_l_szNearEventS
  simp [hv.len]
  exact ⟨fun e => Ret.eq h (by rw [if_pos e]), fun e => Ret.eq h (by rw [if_neg (by omega)])⟩

end Go.Proofs.Ytlmgahcpdapbdaa
