/-
Contracts: which nodes a walk ends at.
-/
import Derived.Test.YtcmpkkcbdmllpaaTabW
import Derived.Test.YtcmpkkcbdmllpaaFil
set_option linter.all false
namespace Go.Proofs.Ytcmpkkcbdmllpaa
open Go Go.Abs Go.Proofs

def endQ (ts : List (List TRoute)) (a ttl code x : Int) : Bool := decide ((walk ts x a ttl).2 = code)
def nodesW (ts : List (List TRoute)) (a ttl code : Int) : List Int := if fineT ts 0 a then fil (endQ ts a ttl code) ts.length else []
theorem nodesW_len {ts : List (List TRoute)} (a ttl code : Int) : (nodesW ts a ttl code).length ≤ 10 := by
  unfold nodesW
  split
  · rename_i h
    have := h.1
    have := fil_len (endQ ts a ttl code) ts.length
    omega
  · simp
theorem fine_at {ts : List (List TRoute)} {a x : Int} (h : fineT ts 0 a) (hx : 0 ≤ x ∧ x < ts.length) : fineT ts x a := ⟨h.1, hx, h.2.2⟩
theorem walk_len {ts : List (List TRoute)} {f a ttl : Int} (h : 0 ≤ ttl ∧ ttl ≤ 16) : (walk ts f a ttl).1.length ≤ 17 := by
  have := walkP_len (ts := ts) (a := a) (n := ttl.toNat) (f := f) (way := [f])
  simp at this
  unfold walk
  omega

theorem C_s_l09Each {ts : List (List TRoute)} {v : V} {a code : Int} {H : Heap} {K : V → Heap → Prop} (hv : Tabs H v ts) (hl : ts.length + tot ts ≤ 1048576) (h : ∀ u H', Held H 1 ((nodesW ts a 16 code).map ri) u H' → K u H') : ACalls P n_s_l09Each [v, .int .i64 a, .int .i64 code] H K := by
  apply W_s_l09Each
  unfold F_s_l09Each
  simp [bsl_nil]
  intro o ho
  have h0 := Held.new (sz := 1) ho
  refine C_s_l09Fine (hv.mono h0.sub) hl ?_
  simp
  refine ⟨fun q => Ret.shr (h .nils H (by rw [nodesW, if_neg q]; exact Held.nil)) rfl h0.sub, fun hf => ?_⟩
  rw [nodesW, if_pos hf] at h
  have hn := hf.1
  refine ⟨InvFil H ts.length (endQ ts a 16 code), ⟨ts.length, Shr.of (InvFil.start (by omega) ho)⟩, ?_⟩
  rintro m ys Hc ⟨i, u, Hb, hi, rfl, rfl, hsb, hu⟩
  simp [hv.len]
  refine ⟨fun hlt => ?_, fun hge => ?_⟩
  · have hfx := fine_at (x := (i : Int)) hf (by omega)
    have hlen := fil_len (endQ ts a 16 code) i
    refine C_s_Walk (hv.mono (sub_trans hsb hu.sub)) hl (fun hno => absurd ⟨hfx, by omega⟩ hno) fun _ _ w H1 hw => ?_
    simp
    rw [i64_in (n := (i : Int) + 1) (by omega) (by omega)]
    obtain ⟨Hb', r1, r2⟩ := hu.swap hw
    refine ⟨fun q => ?_, fun q => ?_⟩
    · simp [bsl_one]
      intro o3 ho3
      refine r2.append (sub_fresh ho3) (by simp) (by simp; omega) fun v' H' H'' ho' hs' => ?_
      refine ⟨ts.length - (i + 1), by omega, H'', hs', i + 1, v', Hb', by omega, by simp, by omega, sub_trans hsb r1.sub, ?_⟩
      rw [fil_yes (decide_eq_true q)]
      simpa using ho'
    · refine ⟨ts.length - (i + 1), by omega, Hc, hw.sub, i + 1, u, Hb, by omega, by simp, by omega, hsb, ?_⟩
      rw [fil_no (decide_eq_false q)]
      exact hu
  · have e : i = ts.length := by omega
    subst e
    exact Ret.held hu hsb h

theorem C_i_nodesWith {ts : List (List TRoute)} {v : V} {a ttl code : Int} {H : Heap} {K : V → Heap → Prop} (hv : Tabs H v ts) (hl : ts.length + tot ts ≤ 1048576) (ht : 0 ≤ ttl ∧ ttl ≤ 16) (h : ∀ u H', Held H 1 ((nodesW ts a ttl code).map ri) u H' → K u H') : ACalls P n_i_nodesWith [v, .int .i64 a, .int .i64 ttl, .int .i64 code] H K := by
  apply W_i_nodesWith
  unfold F_i_nodesWith
  refine C_i_areTables hv hl ?_
  simp
  refine ⟨fun q => Ret.of (h .nils H (by rw [nodesW, if_neg q]; exact Held.nil)), fun hf => ?_⟩
  rw [nodesW, if_pos hf] at h
  have hn := hf.1
  simp [bsl_nil, hv.len]
  intro o ho
  refine ⟨InvFil H ts.length (endQ ts a ttl code), ⟨ts.length, Shr.of (InvFil.start (by omega) ho)⟩, ?_⟩
  rintro m ys Hc ⟨i, u, Hb, hi, rfl, rfl, hsb, hu⟩
  simp
  refine ⟨fun hlt => ?_, fun hge => ?_⟩
  · have hfx := fine_at (x := (i : Int)) hf (by omega)
    have hlen := fil_len (endQ ts a ttl code) i
    refine C_i_walk (hv.mono (sub_trans hsb hu.sub)) hfx ht fun w H1 hw => ?_
    simp
    rw [i64_in (n := (i : Int) + 1) (by omega) (by omega)]
    obtain ⟨Hb', r1, r2⟩ := hu.swap hw
    refine ⟨fun q => ?_, fun q => ?_⟩
    · simp [bsl_one]
      intro o3 ho3
      refine r2.append (sub_fresh ho3) (by simp) (by simp; omega) fun v' H' H'' ho' hs' => ?_
      refine ⟨ts.length - (i + 1), by omega, H'', hs', i + 1, v', Hb', by omega, by simp, by omega, sub_trans hsb r1.sub, ?_⟩
      rw [fil_yes (decide_eq_true q)]
      simpa using ho'
    · refine ⟨ts.length - (i + 1), by omega, Hc, hw.sub, i + 1, u, Hb, by omega, by simp, by omega, hsb, ?_⟩
      rw [fil_no (decide_eq_false q)]
      exact hu
  · have e : i = ts.length := by omega
    subst e
    exact Ret.held hu hsb h

def countHome (ts : List (List TRoute)) (a : Int) : Int := if fineT ts 0 a then (nodesW ts a 16 0).length else -1
theorem C_s_CountHome {ts : List (List TRoute)} {v : V} {a : Int} {H : Heap} {K : V → Heap → Prop} (hv : Tabs H v ts) (hl : ts.length + tot ts ≤ 1048576) (h : K (.int .i64 (countHome ts a)) H) : ACalls P n_s_CountHome [v, .int .i64 a] H K := by
  apply W_s_CountHome
  unfold F_s_CountHome
  refine C_s_l09Fine hv hl ?_
  simp
  refine ⟨fun q => Ret.eq h (by rw [countHome, if_neg q]), fun hf => ?_⟩
  refine C_s_l09Each hv hl fun u H' hu => ?_
  simp [(hu.rd ri_len).len]
  exact Ret.shr h (by rw [countHome, if_pos hf]) hu.sub
theorem C_i_CountHome {ts : List (List TRoute)} {v : V} {a : Int} {H : Heap} {K : V → Heap → Prop} (hv : Tabs H v ts) (hl : ts.length + tot ts ≤ 1048576) (h : K (.int .i64 (countHome ts a)) H) : ACalls P n_i_CountHome [v, .int .i64 a] H K := by
  apply W_i_CountHome
  unfold F_i_CountHome
  refine C_i_areTables hv hl ?_
  simp
  refine ⟨fun q => Ret.eq h (by rw [countHome, if_neg q]), fun hf => ?_⟩
  refine C_i_nodesWith hv hl (by omega) fun u H' hu => ?_
  simp [(hu.rd ri_len).len]
  exact Ret.shr h (by rw [countHome, if_pos hf]) hu.sub
theorem C_s_LoopsAt {ts : List (List TRoute)} {v : V} {a : Int} {H : Heap} {K : V → Heap → Prop} (hv : Tabs H v ts) (hl : ts.length + tot ts ≤ 1048576) (h : ∀ u H', Held H 1 ((nodesW ts a 16 2).map ri) u H' → K u H') : ACalls P n_s_LoopsAt [v, .int .i64 a] H K := by
  apply W_s_LoopsAt
  unfold F_s_LoopsAt
  exact C_s_l09Each hv hl fun u H' hu => Ret.of (h _ _ hu)
theorem C_i_LoopsAt {ts : List (List TRoute)} {v : V} {a : Int} {H : Heap} {K : V → Heap → Prop} (hv : Tabs H v ts) (hl : ts.length + tot ts ≤ 1048576) (h : ∀ u H', Held H 1 ((nodesW ts a 16 2).map ri) u H' → K u H') : ACalls P n_i_LoopsAt [v, .int .i64 a] H K := by
  apply W_i_LoopsAt
  unfold F_i_LoopsAt
  exact C_i_nodesWith hv hl (by omega) fun u H' hu => Ret.of (h _ _ hu)
theorem C_i_Sinks {ts : List (List TRoute)} {v : V} {a : Int} {H : Heap} {K : V → Heap → Prop} (hv : Tabs H v ts) (hl : ts.length + tot ts ≤ 1048576) (h : ∀ u H', Held H 1 ((nodesW ts a 0 0).map ri) u H' → K u H') : ACalls P n_i_Sinks [v, .int .i64 a] H K := by
  apply W_i_Sinks
  unfold F_i_Sinks
  exact C_i_nodesWith hv hl (by omega) fun u H' hu => Ret.of (h _ _ hu)
theorem end_zero {ts : List (List TRoute)} {a x : Int} (hx : 0 ≤ x ∧ x < ts.length) : endQ ts a 0 0 x = decide (hopT a (tb ts x.toNat) = 0) := by
  unfold endQ walk
  by_cases h0 : hopT a (tb ts x.toNat) = 0
  · rw [show (0 : Int).toNat = 0 from rfl, walkP_home h0, decide_eq_true h0]; rfl
  · rw [decide_eq_false h0]
    by_cases h1 : hopT a (tb ts x.toNat) < 0 ∨ (ts.length : Int) < hopT a (tb ts x.toNat)
    · rw [show (0 : Int).toNat = 0 from rfl, walkP_none h1]; rfl
    · rw [show (0 : Int).toNat = 0 from rfl, walkP_loop h1 h0]; rfl
theorem C_s_Sinks {ts : List (List TRoute)} {v : V} {a : Int} {H : Heap} {K : V → Heap → Prop} (hv : Tabs H v ts) (hl : ts.length + tot ts ≤ 1048576) (h : ∀ u H', Held H 1 ((nodesW ts a 0 0).map ri) u H' → K u H') : ACalls P n_s_Sinks [v, .int .i64 a] H K := by
  apply W_s_Sinks
  unfold F_s_Sinks
  simp [bsl_nil]
  intro o ho
  have h0 := Held.new (sz := 1) ho
  refine C_s_l09Fine (hv.mono h0.sub) hl ?_
  simp
  refine ⟨fun q => Ret.shr (h .nils H (by rw [nodesW, if_neg q]; exact Held.nil)) rfl h0.sub, fun hf => ?_⟩
  rw [nodesW, if_pos hf] at h
  have hn := hf.1
  refine ⟨InvFil H ts.length (endQ ts a 0 0), ⟨ts.length, Shr.of (InvFil.start (by omega) ho)⟩, ?_⟩
  rintro m ys Hc ⟨i, u, Hb, hi, rfl, rfl, hsb, hu⟩
  simp [hv.len]
  refine ⟨fun hlt => ?_, fun hge => ?_⟩
  · have hlen := fil_len (endQ ts a 0 0) i
    have hez := end_zero (ts := ts) (a := a) (x := (i : Int)) (by omega)
    rw [Int.toNat_natCast] at hez
    refine (hv.mono (sub_trans hsb hu.sub)).idx hlt fun p w hp hw _ => ?_
    rw [hp]
    simp
    have hok := hf.2.2.2 i hlt
    rw [← tb_get hlt] at hw
    refine C_s_FindHop hw hok hf.2.2.1 ?_
    simp
    rw [i64_in (n := (i : Int) + 1) (by omega) (by omega)]
    refine ⟨fun q => ?_, fun q => ?_⟩
    · simp [bsl_one]
      intro o3 ho3
      refine hu.append (sub_fresh ho3) (by simp) (by simp; omega) fun v' H' H'' ho' hs' => ?_
      refine ⟨ts.length - (i + 1), by omega, H'', hs', i + 1, v', Hb, by omega, by simp, by omega, hsb, ?_⟩
      rw [fil_yes (by rw [hez]; exact decide_eq_true q)]
      simpa using ho'
    · refine ⟨ts.length - (i + 1), by omega, Shr.of ⟨i + 1, u, Hb, by omega, by simp, by omega, hsb, ?_⟩⟩
      rw [fil_no (by rw [hez]; exact decide_eq_false q)]
      exact hu
  · have e : i = ts.length := by omega
    subst e
    exact Ret.held hu hsb h
theorem C_i_Walk {ts : List (List TRoute)} {v : V} {f a ttl : Int} {H : Heap} {K : V → Heap → Prop} (hv : Tabs H v ts) (hl : ts.length + tot ts ≤ 1048576) (hno : ¬ (fineT ts f a ∧ (0 ≤ ttl ∧ ttl ≤ 16)) → K (.tup [.nils, .int .i64 3]) H)
    (h : fineT ts f a → (0 ≤ ttl ∧ ttl ≤ 16) → ∀ u H', Held H 1 ((walk ts f a ttl).1.map ri) u H' → K (.tup [u, .int .i64 (walk ts f a ttl).2]) H') : ACalls P n_i_Walk [v, .int .i64 f, .int .i64 a, .int .i64 ttl] H K := by
  apply W_i_Walk
  unfold F_i_Walk
  refine C_i_areTables hv hl ?_
  simp
  refine ⟨fun q => Ret.of (hno fun hh => q hh.1), fun hf => ?_⟩
  apply C_i_within
  simp
  refine ⟨fun q => Ret.of (hno fun hh => by omega), fun q1 q2 => ?_⟩
  refine C_i_walk hv hf ⟨q1, q2⟩ fun u H' hu => ?_
  simp
  exact Ret.of (h hf ⟨q1, q2⟩ _ _ hu)

end Go.Proofs.Ytcmpkkcbdmllpaa
