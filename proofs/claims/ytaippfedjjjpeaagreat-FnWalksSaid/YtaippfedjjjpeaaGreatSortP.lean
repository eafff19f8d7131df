/-
Contract: slices.SortFunc of prefixes.
-/
import Derived.Test.YtaippfedjjjpeaaGreatSortK
import Derived.Test.YtaippfedjjjpeaaGreatComp
set_option linter.all false
namespace Go.Proofs.YtaippfedjjjpeaaGreat
open Go Go.Abs Go.Proofs

def ltP (p q : Int × Int) : Prop := p.1 < q.1 ∨ p.1 = q.1 ∧ p.2 < q.2
theorem C_bits_Len {H : Heap} {K : V → Heap → Prop} (h : ∀ x, K (.int .i64 x) H) : ACalls P n_math_bits_Len [.int .u64 0] H K := by
  refine ⟨fun w0 base F ι G w cargs hrel hsub hF hdis hargs => ?_⟩
  obtain ⟨cv, cvs, rfl, a1, a2⟩ := hargs.cases_cons
  obtain rfl := a2.cases_nil
  cases a1
  have hc := Any.bits_Len (Go.Proofs.SlLaysF0.n15.bits { Tryz.sortPf with }) 0 w (by omega) (by omega)
  refine Calls.mono hc ?_
  rintro e w' ⟨rfl, rfl⟩
  exact ⟨_, _, ι, G, H, rfl, .int _ _, fun i q hi => hi, hrel, hsub, hF, hdis, h _⟩
theorem C_sort_none {v : V} {f : V} {H : Heap} {K : V → Heap → Prop} (hv : lenOf v = some 0) (h : K (.tup []) H) : ACalls P n_slices_SortFunc_i_Prefix_i_Prefix [v, f] H K := by
  apply W_slices_SortFunc_i_Prefix_i_Prefix
  unfold F_slices_SortFunc_i_Prefix_i_Prefix
  simp [hv]
  have e0 : IntKind.u64.wrap 0 = 0 := rfl
  rw [e0]
  refine C_bits_Len fun x => ?_
  apply W_slices_pdqsortCmpFunc_i_Prefix
  unfold F_slices_pdqsortCmpFunc_i_Prefix
  refine ⟨fun _ ys Hc => ys = [.int .i64 0, .int .i64 0, .int .i64 x, .bool true, .bool true] ∧ Hc = H, 0, Shr.of ⟨rfl, rfl⟩, ?_⟩
  rintro m ys Hc ⟨rfl, rfl⟩
  simp
  have e1 : IntKind.i64.wrap 0 = 0 := rfl
  have e2 : IntKind.i64.wrap 1 = 1 := rfl
  try simp [e1]
  apply W_slices_insertionSortCmpFunc_i_Prefix
  unfold F_slices_insertionSortCmpFunc_i_Prefix
  simp [e2]
  refine ⟨fun _ ys Hd => ys = [.int .i64 1] ∧ Hd = Hc, ⟨0, Shr.of ⟨rfl, rfl⟩⟩, ?_⟩
  rintro m ys Hd ⟨rfl, rfl⟩
  simp
  exact Ret.of (Ret.of (Ret.of h))
def ofP (p : Int × Int) : YpT := (Fin.ofNat 65536 p.1.toNat, Fin.ofNat 65536 p.2.toNat)
theorem ofP_I {p : Int × Int} (h : (0 ≤ p.1 ∧ p.1 < 65536) ∧ 0 ≤ p.2 ∧ p.2 < 65536) : ypI (ofP p) = p := by
  unfold ypI ofP
  obtain ⟨a, b⟩ := p
  simp at h ⊢
  omega
theorem C_SortFunc {H0 H : Heap} {v : V} {L : List (Int × Int)} {K : V → Heap → Prop} (hv : Held H0 2 (L.map enP) v H) (hl : L.length ≤ 1048576) (hb : ∀ p ∈ L, (0 ≤ p.1 ∧ p.1 < 65536) ∧ 0 ≤ p.2 ∧ p.2 < 65536)
    (h : ∀ (L' : List (Int × Int)) H', L'.Perm L → (∀ i j, i < j → (h2 : j < L'.length) → ∀ h1 : i < L'.length, ¬ ltP L'[j] L'[i]) → Held H0 2 (L'.map enP) v H' → K (.tup []) H') : ACalls P n_slices_SortFunc_i_Prefix_i_Prefix [v, .fn n_i_comparePrefixes []] H K := by
  by_cases he : L = []
  · subst he
    refine C_sort_none ?_ (h [] H (List.Perm.refl _) (fun i j _ h2 => by simp at h2) hv)
    exact (hv.rd (by simp)).len
  have eI : ∀ M : List (Int × Int), (∀ p ∈ M, (0 ≤ p.1 ∧ p.1 < 65536) ∧ 0 ≤ p.2 ∧ p.2 < 65536) → (M.map ofP).map ypI = M := fun M hM => by
    rw [List.map_map]
    exact (List.map_congr_left (g := fun p => p) fun p hp => ofP_I (hM p hp)).trans (List.map_id' M)
  have eR : ∀ M : List YpT, M.map (rowV ypI) = (M.map ypI).map enP := fun M => by rw [List.map_map]; rfl
  refine acalls_sort ypI yp_sort (ps := L.map ofP) (by rw [eR, eI L hb]; exact hv) (by simpa using he) (by simp; omega) fun ps' H' hp hs hh => ?_
  rw [eR] at hh
  refine h (ps'.map ypI) H' ?_ (fun i j hij h2 h1 => ?_) hh
  · have := hp.map ypI
    rwa [eI L hb] at this
  · have h2' : j < ps'.length := by simpa using h2
    have := hs i j hij h2'
    simp only [List.getElem_map]
    unfold ltOf ypF at this
    simp only [decide_eq_false_iff_not] at this
    unfold ltP
    split at this <;> omega
end Go.Proofs.YtaippfedjjjpeaaGreat
