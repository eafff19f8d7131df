/-
Contracts: FirstLoop.
-/
import Derived.Test.YtipdfhjilegkcaaMixed
set_option linter.all false
namespace Go.Proofs.Ytipdfhjilegkcaa
open Go Go.Abs Go.Proofs

def firstFrom (bad : Nat → Bool) (k : Nat) : Nat → Int
  | 0 => -1
  | r + 1 => if bad k = true then k else firstFrom bad (k + 1) r
def badMix (n : Int) (es fs : List TEdge) (ds : List Int) (d : Int) (k : Nat) : Bool := decide (0 < (loopsIn (tab (mixQ n es fs (ds.take k) d) n.toNat) d).length)
def firstLoop (n : Int) (es fs : List TEdge) (ds : List Int) (d : Int) : Int := firstFrom (badMix n es fs ds d) 0 (ds.length + 1)
def firstL (n m : Int) (es fs : List TEdge) (ds : List Int) (d : Int) : Int := if fine n m es fs d ∧ ds.length ≤ 10 then firstLoop n es fs ds d else -2

def InvK1 (n : Int) (es fs : List TEdge) (ds : List Int) (d : Int) (H : Heap) (m : Nat) (ys : List V) (Hc : Heap) : Prop :=
  ∃ k : Nat, k ≤ ds.length + 1 ∧ ys = [.int .i64 (k : Nat)] ∧ m = ds.length + 1 - k ∧ Abs.sub H Hc ∧ firstLoop n es fs ds d = firstFrom (badMix n es fs ds d) k (ds.length + 1 - k)

theorem first_step {bad : Nat → Bool} {k l : Nat} (h : k ≤ l) : firstFrom bad k (l + 1 - k) = if bad k = true then (k : Int) else firstFrom bad (k + 1) (l + 1 - (k + 1)) := by
  rw [show l + 1 - k = (l + 1 - (k + 1)) + 1 by omega]
  rfl

theorem C_s_FirstLoop {n m d : Int} {v w z : V} {es fs : List TEdge} {ds : List Int} {H : Heap} {K : V → Heap → Prop} (hv : Rd H 3 v (es.map enEdge)) (hw : Rd H 3 w (fs.map enEdge)) (hz : Sl H 1 z (ds.map ri)) (h : K (.int .i64 (firstL n m es fs ds d)) H) :
    ACalls P n_s_FirstLoop [vG n v, vG m w, z, .int .i64 d] H K := by
  have hc := hv.cell
  have hc' := hw.cell
  apply W_s_FirstLoop
  unfold F_s_FirstLoop
  simp [hc, hc']
  refine C_s_l11Fine hv hw ?_
  simp
  refine ⟨fun q => Ret.eq h (by rw [firstL, if_neg (fun hh => q hh.1)]), fun hf => ?_⟩
  simp [hz.1.len]
  refine ⟨fun q => Ret.eq h (by rw [firstL, if_neg (fun hh => by omega)]), fun hl => ?_⟩
  rw [firstL, if_pos ⟨hf, by omega⟩] at h
  obtain ⟨hg, hg', rfl, hd⟩ := hf
  have hn := hg.1
  refine ⟨InvK1 n es fs ds d H, ⟨ds.length + 1, Shr.of ⟨0, by omega, by simp, by omega, Abs.sub_refl _, rfl⟩⟩, ?_⟩
  rintro m ys Hc ⟨k, hk, rfl, rfl, hs, hkk⟩
  simp
  refine ⟨fun hlt => ⟨_, Abs.sub_refl _, ?_⟩, fun hge => ?_⟩
  · rw [first_step hlt] at hkk
    obtain ⟨z', e1, e2⟩ := (hz.mono hs).upto (k := .i64) (i := k) (by simp; omega)
    rw [e1]
    simp
    rw [← List.map_take] at e2
    refine C_s_MixedHops (hv.mono hs) (hw.mono hs) e2.1 fun u H1 h1 => ⟨h1.sub, ?_⟩
    rw [mixedH, if_pos ⟨⟨hg, hg', rfl, hd⟩, by simp; omega⟩] at h1
    refine C_s_LoopsIn (h1.rd ri_len) fun u2 H2 h2 => ⟨sub_trans h1.sub h2.sub, ?_⟩
    have hs2 := sub_trans hs (sub_trans h1.sub h2.sub)
    simp [(h2.rd ri_len).len]
    rw [i64_in (by omega) (by omega)]
    by_cases q : 0 < (loopsIn (tab (mixQ n es fs (ds.take k) d) n.toNat) d).length
    · rw [if_pos (show badMix n es fs ds d k = true from decide_eq_true q)] at hkk
      refine ⟨fun _ => Ret.shr h (by rw [hkk]) hs2, fun q' => by rw [q'] at q; simp at q⟩
    · rw [if_neg (by unfold badMix; simpa using q)] at hkk
      have q0 : loopsIn (tab (mixQ n es fs (ds.take k) d) n.toNat) d = [] := List.eq_nil_of_length_eq_zero (by omega)
      refine ⟨fun q' => by rw [q0] at q'; simp at q', fun _ => ?_⟩
      exact ⟨ds.length + 1 - (k + 1), by omega, Shr.of ⟨k + 1, by omega, by simp, rfl, hs2, hkk⟩⟩
  · have : k = ds.length + 1 := by omega
    subst this
    rw [Nat.sub_self] at hkk
    exact Ret.shr h (by rw [hkk]; rfl) hs

theorem C_i_firstLoop {n d : Int} {u0 u1 z : V} {es fs : List TEdge} {ds : List Int} {H : Heap} {K : V → Heap → Prop} (h0 : Rd H 1 u0 ((tab (fun x => hopOf n es x d) n.toNat).map ri)) (hro : ∀ r, u0 ≠ .ro r) (h1 : Rd H 1 u1 ((tab (fun x => hopOf n fs x d) n.toNat).map ri)) (hz : Sl H 1 z (ds.map ri)) (hn : 1 ≤ n ∧ n ≤ 10) (hl : ds.length ≤ 10)
    (h : K (.int .i64 (firstLoop n es fs ds d)) H) : ACalls P n_i_firstLoop [u0, u1, z, .int .i64 d] H K := by
  apply W_i_firstLoop
  unfold F_i_firstLoop
  simp [hz.1.len]
  rw [i64_in (by omega) (by omega)]
  refine ⟨InvK1 n es fs ds d H, ⟨ds.length + 1, Shr.of ⟨0, by omega, by simp, by omega, Abs.sub_refl _, rfl⟩⟩, ?_⟩
  rintro m ys Hc ⟨k, hk, rfl, rfl, hs, hkk⟩
  simp
  refine ⟨fun hlt => ?_, fun hge => ?_⟩
  · rw [first_step (by omega)] at hkk
    obtain ⟨z', e1, e2⟩ := (hz.mono hs).upto (k := .i64) (i := k) (by simp; omega)
    rw [e1]
    simp
    rw [← List.map_take] at e2
    refine C_i_mixed (h0.mono hs) hro (h1.mono hs) e2.1 (by omega) (by simp; omega) fun u H1 h1' => ?_
    refine C_i_LoopsIn (h1'.rd ri_len) fun u2 H2 h2 => ?_
    have hs2 := sub_trans hs (sub_trans h1'.sub h2.sub)
    have e3 : tab (fun x => if x ∈ ds.take k then hopOf n fs x d else hopOf n es x d) n.toNat = tab (mixQ n es fs (ds.take k) d) n.toNat := rfl
    rw [e3] at h2
    simp [(h2.rd ri_len).len]
    rw [i64_in (by omega) (by omega)]
    by_cases q : 0 < (loopsIn (tab (mixQ n es fs (ds.take k) d) n.toNat) d).length
    · rw [if_pos (show badMix n es fs ds d k = true from decide_eq_true q)] at hkk
      refine ⟨fun _ => Ret.shr h (by rw [hkk]) hs2, fun q' => by rw [q'] at q; simp at q⟩
    · rw [if_neg (by unfold badMix; simpa using q)] at hkk
      have q0 : loopsIn (tab (mixQ n es fs (ds.take k) d) n.toNat) d = [] := List.eq_nil_of_length_eq_zero (by omega)
      refine ⟨fun q' => by rw [q0] at q'; simp at q', fun _ => ?_⟩
      exact ⟨ds.length + 1 - (k + 1), by omega, Shr.of ⟨k + 1, by omega, by simp, rfl, hs2, hkk⟩⟩
  · have : k = ds.length + 1 := by omega
    subst this
    rw [Nat.sub_self] at hkk
    exact Ret.shr h (by rw [hkk]; rfl) hs

theorem C_i_FirstLoop {n m d : Int} {v w z : V} {es fs : List TEdge} {ds : List Int} {H : Heap} {K : V → Heap → Prop} (hv : Rd H 3 v (es.map enEdge)) (hw : Rd H 3 w (fs.map enEdge)) (hz : Sl H 1 z (ds.map ri)) (h : K (.int .i64 (firstL n m es fs ds d)) H) :
    ACalls P n_i_FirstLoop [vG n v, vG m w, z, .int .i64 d] H K := by
  have hc := hv.cell
  have hc' := hw.cell
  apply W_i_FirstLoop
  unfold F_i_FirstLoop
  simp [hc, hc']
  refine C_i_areMixed hv hw ?_
  simp
  refine ⟨fun q => Ret.eq h (by rw [firstL, if_neg (fun hh => q hh.1)]), fun hf => ?_⟩
  simp [hz.1.len]
  refine ⟨fun q => Ret.eq h (by rw [firstL, if_neg (fun hh => by omega)]), fun hl => ⟨_, Abs.sub_refl _, ?_⟩⟩
  rw [firstL, if_pos ⟨hf, by omega⟩] at h
  obtain ⟨hg, hg', rfl, hd⟩ := hf
  have hn := hg.1
  refine C_i_Graph_hopsFor hv hg hd fun u0 H0 h0 => ⟨h0.sub, ?_⟩
  refine C_i_Graph_hopsFor (hw.mono h0.sub) hg' hd fun u1 H1 h1 => ⟨sub_trans h0.sub h1.sub, ?_⟩
  have hs := sub_trans h0.sub h1.sub
  refine C_i_firstLoop ((h0.rd ri_len).mono h1.sub) (Held.notro h0) (h1.rd ri_len) (hz.mono hs) hn (by omega) ⟨hs, ?_⟩
  exact Ret.shr h rfl hs

end Go.Proofs.Ytipdfhjilegkcaa
