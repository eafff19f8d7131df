/-
The law FnAround.
-/
import Derived.Test.YtipdfhjilegkcaaAroundP
set_option linter.all false
namespace Go.Proofs.Ytipdfhjilegkcaa
open Go Go.Abs Go.Proofs

theorem bestA_ge {n : Int} {es : List TEdge} {s f d : Int} (h : wB n es s f d < 0) : wB n es s f d = -1 := by
  unfold wB bestA at *
  have key : ∀ (l : List Int) (x : Int), (x = -1 ∨ 0 ≤ x) → (∀ y ∈ l, 0 ≤ y) → (l.foldl (pickA n es s d) x = -1 ∨ 0 ≤ l.foldl (pickA n es s d) x) := by
    intro l
    induction l with
    | nil => exact fun x hx _ => hx
    | cons y l ih =>
      intro x hx hl
      refine ih _ ?_ fun z hz => hl z (List.mem_cons_of_mem _ hz)
      unfold pickA
      split
      · exact .inr (hl y (by simp))
      · exact hx
  rcases key (altsR n es s f d) (-1) (.inl rfl) (fun y hy => (alts_node hy).2.1.1) with q | q
  · exact q
  · omega
def InvFa (len : Nat) (H : Heap) (m : Nat) (ys : List V) (Hc : Heap) : Prop := ∃ i : Nat, 1 ≤ i ∧ i ≤ len ∧ ys = [.int .i64 (i : Nat)] ∧ m = len - i ∧ Hc = H
set_option maxHeartbeats 4000000 in
theorem C_l_FnAround {v : V} {bs : List (List V)} {H : Heap} {K : V → Heap → Prop} (hv : Rd H 1 v bs) (hb : Bs bs) (hl : bs.length ≤ 9223372036854775807) (hcell : cellsOf v = [v] ∧ cellOk v = true ∧ notAny v = true) (h : ∀ H', K (.bool true) H') : ACalls P n_l_FnAround [v] H K := by
  apply W_l_FnAround
  unfold F_l_FnAround
  refine C_l_big hv.len ?_
  simp
  refine ⟨fun _ => Ret.of (h _), fun _ => ?_⟩
  refine C_w_DrawWalkAround hv hb hl hcell fun n es u s f d H1 l1 r1 => ?_
  have c1 := r1.cell
  simp [stz_eq, putCells, c1]
  have hlen := wAround_len (n := n) (es := es) s f d
  have halen := altsR_len (n := n) (es := es) s f d
  refine C_s_WalkAround r1 fun w H2 h2 => ?_
  simp
  refine C_i_WalkAround (r1.mono h2.sub) fun w2 H3 h3 => ?_
  simp
  have s3 := sub_trans h2.sub h3.sub
  refine ⟨H3, Abs.sub_refl _, ?_⟩
  have rw2 := h3.rd ri_len
  refine C_l_same rw2 ((h2.rd ri_len).mono h3.sub) (by omega) ⟨Abs.sub_refl _, H3, Abs.sub_refl _, Abs.sub_refl _, ?_⟩
  simp
  refine C_i_Alternates (r1.mono s3) fun a1 H4 h4 => ⟨h4.sub, H4, h4.sub, Abs.sub_refl _, ?_⟩
  refine C_s_Alternates (r1.mono (sub_trans s3 h4.sub)) fun a2 H5 h5 => ⟨h5.sub, H5, h5.sub, Abs.sub_refl _, ?_⟩
  refine C_l_same ((h4.rd ri_len).mono h5.sub) (h5.rd ri_len) (by omega) ⟨Abs.sub_refl _, H5, Abs.sub_refl _, Abs.sub_refl _, ?_⟩
  simp
  have s5 := sub_trans h4.sub h5.sub
  have q1 := r1.mono (sub_trans s3 s5)
  have q2 := rw2.mono s5
  have hwb : bestA n es s d (altsR n es s f d) = wB n es s f d := rfl
  refine ⟨fun hneg => ?_, fun hpos => ?_⟩
  · refine C_i_BestAlternate q1 ?_
    rw [hwb, bestA_ge hneg]
    simp
    exact Ret.of (h _)
  · obtain ⟨p, k, eB, eW, hk, har, hpr, hpf, hlf, hend, hne, hc1, hc2⟩ := around_ok (n := n) (es := es) (s := s) (f := f) (d := d) (by omega)
    have hwl := wayTo_len n es d p k
    have g1 : ∀ j, j ≤ k → (s :: wayTo n es d p k).getD (j + 1) 0 = iter n es d p j := fun j hj => by
      rw [List.getD_cons_succ]; exact wayTo_get hj
    have eL : (wAround n es s f d).length = k + 2 := by rw [eW, List.length_cons, hwl]
    have ld : ∀ {Hx : Heap} {i : Int} {K' : V → Prop}, Abs.sub H5 Hx → 0 ≤ i ∧ i ≤ (k : Int) + 1 → K' (.int .i64 ((s :: wayTo n es d p k).getD i.toNat 0)) → bnd (aIndex Hx 1 w2 (.int .i64 i)) fun t => bnd (aLd false 1 Hx t) K' := fun {Hx i K'} hx hi hk' => by
      refine (q2.mono hx).idx hi.1 (by rw [List.length_map, eL]; omega) fun q hq => ?_
      rw [hq.ld, getD_ri (by rw [eL]; omega), eW]
      exact hk'
    refine ⟨H5, Abs.sub_refl _, ?_⟩
    refine ld (Abs.sub_refl _) (by omega) ?_
    simp
    refine ld (Abs.sub_refl _) (by omega) ?_
    have e1 : (s :: wayTo n es d p k).getD (Int.toNat 1) 0 = p := g1 0 (by omega)
    rw [e1]
    simp [hpf]
    rw [q2.len, List.length_map, eL]
    simp
    rw [i64_in (n := (k : Int) + 2 - 1) (by omega) (by omega)]
    refine ld (Abs.sub_refl _) (by omega) ?_
    have e2 : (s :: wayTo n es d p k).getD ((k : Int) + 2 - 1).toNat 0 = d := by
      rw [show ((k : Int) + 2 - 1).toNat = k + 1 by omega, g1 k (by omega)]; exact hend
    rw [e2]
    simp
    refine ld (Abs.sub_refl _) (by omega) ?_
    rw [e1]
    refine C_i_BestAlternate q1 ⟨Abs.sub_refl _, H5, Abs.sub_refl _, Abs.sub_refl _, ?_⟩
    rw [hwb, eB]
    simp
    refine ld (Abs.sub_refl _) (by omega) ?_
    rw [e1]
    refine C_i_LoopFree q1 ⟨Abs.sub_refl _, H5, Abs.sub_refl _, Abs.sub_refl _, ?_⟩
    have ns := nodesOk_three har.2.2
    have har' : around n es [s, p, d] := ⟨har.1, har.2.1, nodesOk_mk ns.1 hpr ns.2.2⟩
    simp [har', hlf]
    refine ⟨InvFa (k + 2) H5, ⟨k + 1, Shr.of ⟨1, by omega, by omega, rfl, by omega, rfl⟩⟩, ?_⟩
    rintro m ys Hc ⟨i, i1, i2, rfl, rfl, rfl⟩
    simp
    rw [i64_in (n := (i : Int) + 1) (by omega) (by omega)]
    refine ⟨fun hlt => ?_, fun hge => ?_⟩
    · refine ld (Abs.sub_refl _) (by omega) ?_
      have e3 : (s :: wayTo n es d p k).getD (Int.toNat (i : Int)) 0 = iter n es d p (i - 1) := by
        rw [Int.toNat_natCast]
        have := g1 (i - 1) (by omega)
        rw [show i - 1 + 1 = i by omega] at this
        exact this
      rw [e3]
      simp
      have hni := hne (i - 1) (by omega)
      refine ⟨fun hh => absurd hh hni, fun _ => ?_⟩
      exact ⟨k + 2 - (i + 1), by omega, Shr.of ⟨i + 1, by omega, by omega, by simp, rfl, rfl⟩⟩
    · refine C_x_Without q1 (by omega) fun u6 b6 H6 h6 => ?_
      have c6 := h6.cell
      simp [stz_eq, putCells, c6]
      refine ⟨H6, Abs.sub_refl _, ?_⟩
      refine C_i_WayCost (h6.rd enEdge_len) (q2.mono h6.sub) ⟨Abs.sub_refl _, H6, Abs.sub_refl _, Abs.sub_refl _, ?_⟩
      refine C_i_WayCost (q1.mono h6.sub) (q2.mono h6.sub) ⟨Abs.sub_refl _, H6, Abs.sub_refl _, Abs.sub_refl _, ?_⟩
      rw [hc1]
      simp
      refine C_i_WayCost (q1.mono h6.sub) (q2.mono h6.sub) ⟨Abs.sub_refl _, H6, Abs.sub_refl _, Abs.sub_refl _, ?_⟩
      have : 0 < wayCost n es (wAround n es s f d) := by omega
      simp [this]
      exact Ret.of (h _)

end Go.Proofs.Ytipdfhjilegkcaa
