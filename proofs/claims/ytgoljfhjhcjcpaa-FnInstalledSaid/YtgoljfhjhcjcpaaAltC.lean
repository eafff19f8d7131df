/-
Contract: the other draw.
-/
import Derived.Test.YtgoljfhjhcjcpaaCur
set_option linter.all false
namespace Go.Proofs.Ytgoljfhjhcjcpaa
open Go Go.Abs Go.Proofs

def InvAl (H : Heap) (bs : List (List V)) (m : Nat) (ys : List V) (Hc : Heap) : Prop :=
  ∃ (i : Nat) (u : V) (rows : List (List V)), i ≤ bs.length ∧ i ≤ 3000 ∧ ys = [u, .int .i64 (i : Nat)] ∧ m = 3000 - i ∧ rows.length = i + 1 ∧ Bs rows ∧ Held H 1 rows u Hc
set_option maxHeartbeats 1000000 in
theorem C_l_alt {v : V} {k : Int} {bs : List (List V)} {H : Heap} {K : V → Heap → Prop} (hv : Rd H 1 v bs) (hb : Bs bs) 
    (h : ∀ (bs' : List (List V)) u H', Abs.sub H H' → Rd H' 1 u bs' → Bs bs' → bs'.length ≤ 9223372036854775807 → (cellsOf u = [u] ∧ cellOk u = true ∧ notAny u = true) → K u H') : ACalls P n_l_alt [v, .int .i64 k] H K := by
  apply W_l_alt
  unfold F_l_alt
  simp [bsl_one]
  intro o ho
  have hr1 : ∀ {rows : List (List V)}, Bs rows → ∀ r ∈ rows, r.length = 1 := fun hb r hr => by obtain ⟨x, rfl⟩ := hb r hr; rfl
  have b0 : Bs [[V.int .u8 (IntKind.u8.wrap k)]] := fun r hr => ⟨_, by simpa using hr⟩
  refine ⟨InvAl H bs, ⟨3000, Shr.of ⟨0, .slice o 0 1 (some 1), [[.int .u8 (IntKind.u8.wrap k)]], by omega, by omega, rfl, by omega, rfl, b0, Held.full ho rfl⟩⟩, ?_⟩
  rintro m ys Hc ⟨i, u, rows, hi, hi2, rfl, rfl, hlr, hbr, hu⟩
  have fin : Ret K u Hc := Ret.of (h rows u Hc hu.sub (hu.rd (hr1 hbr)) hbr (by omega) hu.cell)
  simp [hv.len]
  rw [i64_in (n := (i : Int) + 1) (by omega) (by omega)]
  refine ⟨fun hlt => ⟨fun h3 => ?_, fun _ => fin⟩, fun _ => fin⟩
  obtain ⟨x, hx⟩ := hb bs[i] (List.getElem_mem hlt)
  have hgd : bs.getD i [] = [.int .u8 x] := by simp [hlt, hx]
  refine (hv.mono hu.sub).idx (by omega) (by simpa using hlt) fun p hp => ?_
  simp only [Int.toNat_natCast, hgd] at hp
  rw [hp.ld]
  simp [bsl_one]
  intro o7 ho7
  refine hu.append (sub_fresh ho7) (by simp) (by simp; omega) fun v' H' H'' ho' hs' => ?_
  refine ⟨3000 - (i + 1), by omega, H'', hs', i + 1, v', rows ++ [[.int .u8 x]], by omega, by omega, by simp, rfl, by simp; omega, fun r hr => ?_, ho'⟩
  rcases List.mem_append.1 hr with q | q
  · exact hbr r q
  · exact ⟨x, by simpa using q⟩

end Go.Proofs.Ytgoljfhjhcjcpaa
