/-
The law FnRemote.
-/
import Derived.Test.YtipdfhjilegkcaaRemC
import Derived.Test.YtipdfhjilegkcaaGraphP
set_option linter.all false
namespace Go.Proofs.Ytipdfhjilegkcaa
open Go Go.Abs Go.Proofs

def InvFr (len : Nat) (H : Heap) (m : Nat) (ys : List V) (Hc : Heap) : Prop := ∃ i : Nat, i ≤ len ∧ ys = [.int .i64 (i : Nat)] ∧ m = len - i ∧ Abs.sub H Hc
theorem altsR_in {n : Int} {es : List TEdge} {s f d x : Int} (h : x ∈ altsR n es s f d) : around n es [s, f, d] ∧ (0 ≤ x ∧ x < n) ∧ lfree n es s x d ∧ x ≠ f := by
  unfold altsR at h
  split at h
  · rename_i ha
    unfold alts at h
    split at h
    · have hm := mem_fil h
      have := hm.2
      simp only [altQ, decide_eq_true_eq] at this
      exact ⟨ha, by omega, this.2, this.1⟩
    · simp at h
  · simp at h
set_option maxHeartbeats 4000000 in
theorem C_l_FnRemote {v : V} {bs : List (List V)} {H : Heap} {K : V → Heap → Prop} (hv : Rd H 1 v bs) (hb : Bs bs) (hl : bs.length ≤ 9223372036854775807) (hcell : cellsOf v = [v] ∧ cellOk v = true ∧ notAny v = true) (h : ∀ H', K (.bool true) H') : ACalls P n_l_FnRemote [v] H K := by
  apply W_l_FnRemote
  unfold F_l_FnRemote
  refine C_l_big hv.len ?_
  simp
  refine ⟨fun _ => Ret.of (h _), fun _ => ?_⟩
  refine C_w_DrawRemote hv hb hl hcell fun n es u s f d H1 l1 r1 => ?_
  have c1 := r1.cell
  simp [stz_eq, putCells, c1]
  have hlen := remote_len (n := n) (es := es) s f d
  refine C_i_Remote r1 fun w H2 h2 => ?_
  refine C_s_Remote (r1.mono h2.sub) fun w2 H3 h3 => ?_
  refine C_l_same ((h2.rd ri_len).mono h3.sub) (h3.rd ri_len) (by omega) ?_
  simp
  have s3 := sub_trans h2.sub h3.sub
  refine C_x_Without (r1.mono s3) (by omega) fun u4 b4 H4 h4 => ?_
  have c4 := h4.cell
  simp [stz_eq, putCells, c4]
  have s4 := sub_trans s3 h4.sub
  have rl := (h2.rd ri_len).mono (sub_trans h3.sub h4.sub)
  have r4 := h4.rd enEdge_len
  refine ⟨InvFr (remote n es s f d).length H4, ⟨_, Shr.of ⟨0, by omega, rfl, rfl, Abs.sub_refl _⟩⟩, ?_⟩
  rintro m ys Hc ⟨i, hi, rfl, rfl, hsc⟩
  simp [rl.len]
  rw [i64_in (n := (i : Int) + 1) (by omega) (by omega)]
  refine ⟨fun hlt => ?_, fun hge => ?_⟩
  · have hm := List.getElem_mem hlt
    generalize hp : (remote n es s f d)[i] = p at *
    have hrem : around n es [s, f, d] ∧ near n es s f ∧ s ≠ d ∧ remQ n es s f d p = true ∧ (0 ≤ p ∧ p < n) := by
      unfold remote at hm
      split at hm
      · rename_i hh
        have hq := mem_fil hm
        exact ⟨hh.1, hh.2.1, hh.2.2, hq.2, by omega⟩
      · simp at hm
    obtain ⟨har, hnear, hsd, hq, hpr⟩ := hrem
    obtain ⟨ns, nf, nd'⟩ := nodesOk_three har.2.2
    have hg := har.1
    have hgw := wo_ok hg s f
    simp only [remQ, decide_eq_true_eq] at hq
    obtain ⟨q1, q2, q3, q4, q5, q6⟩ := hq
    have e1 := far_wo hg ns hpr q3 q5
    have e2 := far_wo hg hpr nd' q4 q6
    have rlc := rl.mono hsc
    have rgc := r1.mono (sub_trans s4 hsc)
    have rwc := r4.mono hsc
    have ldp : ∀ {Hx : Heap} {K' : V → Prop}, Abs.sub Hc Hx → K' (.int .i64 p) → bnd (aIndex Hx 1 w (.int .i64 (i : Nat))) fun t => bnd (aLd false 1 Hx t) K' := fun {Hx K'} hx hk => by
      refine (rlc.mono hx).idx (by omega) (by simpa using hlt) fun q hq => ?_
      rw [hq.ld, getD_ri (by simpa using hlt)]
      simp [hlt, hp]
      exact hk
    refine ⟨Hc, Abs.sub_refl _, ?_⟩
    refine ldp (Abs.sub_refl _) ?_
    refine ldp (Abs.sub_refl _) ?_
    refine C_s_Distances rwc hgw ns fun ud H5 h5 => ⟨h5.sub, H5, h5.sub, Abs.sub_refl _, ?_⟩
    refine dist_ld (h5.rd ri_len) hgw hpr ?_
    refine C_s_Distances (rgc.mono h5.sub) hg ns fun ue H6 h6 => ⟨h6.sub, H6, h6.sub, Abs.sub_refl _, ?_⟩
    have s6 := sub_trans h5.sub h6.sub
    refine dist_ld (h6.rd ri_len) hg hpr ?_
    rw [e1]
    simp
    refine ldp s6 ?_
    refine ldp s6 ?_
    refine C_s_Distances (rwc.mono s6) hgw hpr fun uf H7 h7 => ⟨h7.sub, H7, h7.sub, Abs.sub_refl _, ?_⟩
    refine dist_ld (h7.rd ri_len) hgw nd' ?_
    refine C_s_Distances (rgc.mono (sub_trans s6 h7.sub)) hg hpr fun ug H8 h8 => ⟨h8.sub, H8, h8.sub, Abs.sub_refl _, ?_⟩
    refine dist_ld (h8.rd ri_len) hg nd' ?_
    rw [e2]
    simp
    exact ⟨(remote n es s f d).length - (i + 1), by omega, Shr.of ⟨i + 1, by omega, by simp, rfl, sub_trans hsc (sub_trans s6 (sub_trans h7.sub h8.sub))⟩⟩
  · have rgc := r1.mono (sub_trans s4 hsc)
    refine C_s_Alternates rgc fun wa H5 h5 => ?_
    have halen := altsR_len (n := n) (es := es) s f d
    refine ⟨InvFr (altsR n es s f d).length H5, ⟨_, Shr.of ⟨0, by omega, rfl, rfl, Abs.sub_refl _⟩⟩, ?_⟩
    rintro m ys Hd ⟨j, hj, rfl, rfl, hsd⟩
    have ra := (h5.rd ri_len).mono hsd
    simp [ra.len]
    rw [i64_in (n := (j : Int) + 1) (by omega) (by omega)]
    refine ⟨fun hlt => ?_, fun hge => Ret.of (h _)⟩
    have hm := List.getElem_mem hlt
    generalize hp : (altsR n es s f d)[j] = p at *
    obtain ⟨har, hpr, hlf, hpf⟩ := altsR_in hm
    have rgd := rgc.mono (sub_trans h5.sub hsd)
    have ldp : ∀ {K' : V → Prop}, K' (.int .i64 p) → bnd (aIndex Hd 1 wa (.int .i64 (j : Nat))) fun t => bnd (aLd false 1 Hd t) K' := fun {K'} hk => by
      refine ra.idx (by omega) (by simpa using hlt) fun q hq => ?_
      rw [hq.ld, getD_ri (by simpa using hlt)]
      simp [hlt, hp]
      exact hk
    have next : ∀ Hx, Abs.sub Hd Hx → ∃ n77, n77 < (altsR n es s f d).length - j ∧ Shr (InvFr (altsR n es s f d).length H5 n77 [.int .i64 ((j : Int) + 1)]) Hx := fun Hx hx =>
      ⟨(altsR n es s f d).length - (j + 1), by omega, Shr.of ⟨j + 1, by omega, by simp, rfl, sub_trans hsd hx⟩⟩
    refine ⟨Hd, Abs.sub_refl _, ?_⟩
    refine ldp ?_
    refine C_i_NodeSafe rgd ⟨Abs.sub_refl _, Hd, Abs.sub_refl _, Abs.sub_refl _, Hd, Abs.sub_refl _, ?_⟩
    refine ldp ?_
    refine C_s_NodeSafe rgd ⟨Abs.sub_refl _, Hd, Abs.sub_refl _, Abs.sub_refl _, ?_⟩
    simp
    refine ⟨fun hns => ?_, fun _ => ⟨Hd, Abs.sub_refl _, Abs.sub_refl _, next Hd (Abs.sub_refl _)⟩⟩
    refine ldp ?_
    refine C_i_OnWay rgd ⟨Abs.sub_refl _, Hd, Abs.sub_refl _, Abs.sub_refl _, ?_⟩
    have hno : ¬ onW n es p d f := fun hh => by
      have h1 := hh.2
      have h2 := hns.2.2
      omega
    simp [hno]
    exact next Hd (Abs.sub_refl _)

end Go.Proofs.Ytipdfhjilegkcaa
