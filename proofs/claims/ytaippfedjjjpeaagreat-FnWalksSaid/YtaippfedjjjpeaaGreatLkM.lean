/-
Contracts of the laws' helpers over slices of structs Link.
-/
import Derived.Test.YtaippfedjjjpeaaGreatBase
import Derived.Test.YtaippfedjjjpeaaGreatAbs3
set_option linter.all false
namespace Go.Proofs.YtaippfedjjjpeaaGreat
open Go Go.Abs Go.Proofs

/-! #### Link -/
abbrev TLink : Type := Int × Int
abbrev enLink (e : TLink) : List V := [.int .i64 e.1, .int .i64 e.2]
theorem enLink_len {xs : List TLink} : ∀ r ∈ xs.map enLink, r.length = 2 := fun r hr => by obtain ⟨x, _, rfl⟩ := List.mem_map.1 hr; rfl
theorem enLink_inj {a b : TLink} : a = b ↔ (a.1 = b.1 ∧ a.2 = b.2) := by
  constructor
  · rintro rfl; simp
  · intro h; obtain ⟨a0, a1⟩ := a; obtain ⟨b0, b1⟩ := b; simp_all
theorem Links_of {e : TypeId} {dn : Nat} {x : V} (hf : flat P 8 e = some [.int .i64, .int .i64]) (c : CT P (dn + 1) (.slice e) x) : ∃ xs : List TLink, x = .ro (xs.map enLink) ∧ xs.length ≤ 9223372036854775807 := by
  obtain ⟨rows, rfl, hl, h⟩ := CT_slice hf c
  obtain ⟨xs, rfl⟩ := rows_map (f := enLink) (rows := rows) fun row hr => by
    have c := h row hr
    obtain ⟨_, _, rfl, k0, c⟩ := CTs_cons c
    obtain ⟨_, _, rfl, k1, c⟩ := CTs_cons c
    obtain rfl := CTs_nil c
    obtain ⟨m0, rfl, _⟩ := CT_int k0
    obtain ⟨m1, rfl, _⟩ := CT_int k1
    exact ⟨(m0, m1), rfl⟩
  exact ⟨xs, rfl, by simp [maxLen] at hl; omega⟩
def mkLink (k : Int) (n : Nat) : List (List V) := (List.range n).map fun i => enLink (k + 2 * (i : Nat), k + 2 * (i : Nat) + 1)
theorem mkLink_len (k : Int) (n : Nat) : (mkLink k n).length = n := by simp [mkLink]
theorem mkLink_row (k : Int) (n : Nat) : ∀ r ∈ mkLink k n, r.length = 2 := fun r hr => by
  unfold mkLink at hr
  obtain ⟨i, _, rfl⟩ := List.mem_map.1 hr
  rfl
theorem mkLink_get {k : Int} {n i : Nat} (h : i < n) : (mkLink k n)[i]? = some (enLink (k + 2 * (i : Nat), k + 2 * (i : Nat) + 1)) := by simp [mkLink, h]
end Go.Proofs.YtaippfedjjjpeaaGreat

/-
Contracts of the laws' helpers over slices of structs Stub.
-/
namespace Go.Proofs.YtaippfedjjjpeaaGreat
open Go Go.Abs Go.Proofs

/-! #### Stub -/
abbrev TStub : Type := Int × Int × Int
abbrev enStub (e : TStub) : List V := [.int .i64 e.1, .int .i64 e.2.1, .int .i64 e.2.2]
theorem enStub_len {xs : List TStub} : ∀ r ∈ xs.map enStub, r.length = 3 := fun r hr => by obtain ⟨x, _, rfl⟩ := List.mem_map.1 hr; rfl
theorem enStub_inj {a b : TStub} : a = b ↔ (a.1 = b.1 ∧ a.2.1 = b.2.1 ∧ a.2.2 = b.2.2) := by
  constructor
  · rintro rfl; simp
  · intro h; obtain ⟨a0, a1, a2⟩ := a; obtain ⟨b0, b1, b2⟩ := b; simp_all
theorem Stubs_of {e : TypeId} {dn : Nat} {x : V} (hf : flat P 8 e = some [.int .i64, .int .i64, .int .i64]) (c : CT P (dn + 1) (.slice e) x) : ∃ xs : List TStub, x = .ro (xs.map enStub) ∧ xs.length ≤ 9223372036854775807 := by
  obtain ⟨rows, rfl, hl, h⟩ := CT_slice hf c
  obtain ⟨xs, rfl⟩ := rows_map (f := enStub) (rows := rows) fun row hr => by
    have c := h row hr
    obtain ⟨_, _, rfl, k0, c⟩ := CTs_cons c
    obtain ⟨_, _, rfl, k1, c⟩ := CTs_cons c
    obtain ⟨_, _, rfl, k2, c⟩ := CTs_cons c
    obtain rfl := CTs_nil c
    obtain ⟨m0, rfl, _⟩ := CT_int k0
    obtain ⟨m1, rfl, _⟩ := CT_int k1
    obtain ⟨m2, rfl, _⟩ := CT_int k2
    exact ⟨(m0, m1, m2), rfl⟩
  exact ⟨xs, rfl, by simp [maxLen] at hl; omega⟩
def mkStub (k : Int) (n : Nat) : List (List V) := (List.range n).map fun i => enStub (k + 3 * (i : Nat), k + 3 * (i : Nat) + 1, k + 3 * (i : Nat) + 1 + 1)
theorem mkStub_len (k : Int) (n : Nat) : (mkStub k n).length = n := by simp [mkStub]
theorem mkStub_row (k : Int) (n : Nat) : ∀ r ∈ mkStub k n, r.length = 3 := fun r hr => by
  unfold mkStub at hr
  obtain ⟨i, _, rfl⟩ := List.mem_map.1 hr
  rfl
theorem mkStub_get {k : Int} {n i : Nat} (h : i < n) : (mkStub k n)[i]? = some (enStub (k + 3 * (i : Nat), k + 3 * (i : Nat) + 1, k + 3 * (i : Nat) + 1 + 1)) := by simp [mkStub, h]
end Go.Proofs.YtaippfedjjjpeaaGreat

/-
Contracts of the laws' helpers over advertisements and databases.
-/
namespace Go.Proofs.YtaippfedjjjpeaaGreat
open Go Go.Abs Go.Proofs

structure TLsa where
  origin : Int
  seq : Int
  age : Int
  links : List TLink
  stubs : List TStub
theorem TLsa.eq_iff {a b : TLsa} : a = b ↔ a.origin = b.origin ∧ a.seq = b.seq ∧ a.age = b.age ∧ a.links = b.links ∧ a.stubs = b.stubs := by
  constructor
  · rintro rfl; simp
  · intro h; cases a; cases b; simp_all
instance : DecidableEq TLsa := fun a b => decidable_of_iff (a.origin = b.origin ∧ a.seq = b.seq ∧ a.age = b.age ∧ a.links = b.links ∧ a.stubs = b.stubs) TLsa.eq_iff.symm
abbrev lsaRow (a : TLsa) (l s : V) : List V := [.int .i64 a.origin, .int .i64 a.seq, .int .i64 a.age, l, s]
def lsaT (b : Bool) : Ty TLsa where
  n := 5
  rd H a vs := ∃ l s, vs = lsaRow a l s ∧ Rb b H 2 l (a.links.map enLink) ∧ Rb b H 3 s (a.stubs.map enStub)
  own a vs es := ∃ l s, vs = lsaRow a l s ∧ es = [⟨2, a.links.map enLink, l⟩, ⟨3, a.stubs.map enStub, s⟩]
  len := by rintro H a vs ⟨l, s, rfl, _⟩; rfl
  mono := by rintro H H' a vs ⟨l, s, rfl, h1, h2⟩ hs; exact ⟨l, s, rfl, h1.mono hs, h2.mono hs⟩
  ok := by
    rintro a vs es ⟨l, s, rfl, rfl⟩ e he r hr
    simp at he
    rcases he with rfl | rfl
    · exact enLink_len r hr
    · exact enStub_len r hr
  ofOwn := by
    rintro H a vs es ⟨l, s, rfl, rfl⟩ h
    exact ⟨l, s, rfl, (h ⟨2, a.links.map enLink, l⟩ (by simp)).any b, (h ⟨3, a.stubs.map enStub, s⟩ (by simp)).any b⟩
theorem Dp.lsa {b : Bool} {a : TLsa} {l s : V} {H0 H1 H2 : Heap} (h1 : Held H0 2 (a.links.map enLink) l H1) (h2 : Held H1 3 (a.stubs.map enStub) s H2) : Dp (lsaT b) H0 a (lsaRow a l s) H2 :=
  ⟨_, ⟨l, s, rfl, rfl⟩, H1, h1, H2, h2, rfl⟩
theorem lsa_dp {b : Bool} {a : TLsa} {vs : List V} {H0 H2 : Heap} (h : Dp (lsaT b) H0 a vs H2) : ∃ l s H1, vs = lsaRow a l s ∧ Held H0 2 (a.links.map enLink) l H1 ∧ Held H1 3 (a.stubs.map enStub) s H2 := by
  obtain ⟨es, ⟨l, s, rfl, rfl⟩, H1, h1, H2', h2, h3⟩ := h
  cases h3
  exact ⟨l, s, H1, rfl, h1, h2⟩
abbrev dbT (b : Bool) : Ty (List TLsa) := sliceT b (lsaT b)
theorem lsa_cell {b : Bool} {H : Heap} {a : TLsa} {l s : V} (h1 : Rb b H 2 l (a.links.map enLink)) (h2 : Rb b H 3 s (a.stubs.map enStub)) : (cellsOf l = [l] ∧ cellOk l = true ∧ notAny l = true) ∧ (cellsOf s = [s] ∧ cellOk s = true ∧ notAny s = true) := ⟨h1.1.cell, h2.1.cell⟩

def szl (a : TLsa) : Nat := a.links.length + a.stubs.length
end Go.Proofs.YtaippfedjjjpeaaGreat
/-
Contracts: prefixes, tables, the best route.
-/
namespace Go.Proofs.YtaippfedjjjpeaaGreat
open Go Go.Abs Go.Proofs

def psz (len : Int) : Int := 2 ^ (16 - len).toNat
theorem psz_in {len : Int} (h : 0 ≤ len ∧ len ≤ 16) : 1 ≤ psz len ∧ psz len ≤ 65536 := by
  have : len = 0 ∨ len = 1 ∨ len = 2 ∨ len = 3 ∨ len = 4 ∨ len = 5 ∨ len = 6 ∨ len = 7 ∨ len = 8 ∨ len = 9 ∨ len = 10 ∨ len = 11 ∨ len = 12 ∨ len = 13 ∨ len = 14 ∨ len = 15 ∨ len = 16 := by omega
  rcases this with rfl | rfl | rfl | rfl | rfl | rfl | rfl | rfl | rfl | rfl | rfl | rfl | rfl | rfl | rfl | rfl | rfl <;> decide
theorem C_i_Prefix_size {net len : Int} {H : Heap} {K : V → Heap → Prop} (hl : 0 ≤ len ∧ len ≤ 16) (h : K (.int .i64 (psz len)) H) : ACalls P n_i_Prefix_size [.agg [.int .i64 net, .int .i64 len]] H K := by
  apply W_i_Prefix_size
  unfold F_i_Prefix_size
  simp
  have : len = 0 ∨ len = 1 ∨ len = 2 ∨ len = 3 ∨ len = 4 ∨ len = 5 ∨ len = 6 ∨ len = 7 ∨ len = 8 ∨ len = 9 ∨ len = 10 ∨ len = 11 ∨ len = 12 ∨ len = 13 ∨ len = 14 ∨ len = 15 ∨ len = 16 := by omega
  rcases this with rfl | rfl | rfl | rfl | rfl | rfl | rfl | rfl | rfl | rfl | rfl | rfl | rfl | rfl | rfl | rfl | rfl <;> exact Ret.eq h rfl
theorem C_s_l01Size2 {len : Int} {H : Heap} {K : V → Heap → Prop} (hl : 0 ≤ len ∧ len ≤ 16) (h : K (.int .i64 (psz len)) H) : ACalls P n_s_l01Size2 [.int .i64 len] H K := by
  apply W_s_l01Size2
  unfold F_s_l01Size2
  simp
  have : len = 0 ∨ len = 1 ∨ len = 2 ∨ len = 3 ∨ len = 4 ∨ len = 5 ∨ len = 6 ∨ len = 7 ∨ len = 8 ∨ len = 9 ∨ len = 10 ∨ len = 11 ∨ len = 12 ∨ len = 13 ∨ len = 14 ∨ len = 15 ∨ len = 16 := by omega
  rcases this with rfl | rfl | rfl | rfl | rfl | rfl | rfl | rfl | rfl | rfl | rfl | rfl | rfl | rfl | rfl | rfl | rfl <;> exact Ret.eq h rfl

def addrOk (a : Int) : Prop := 0 ≤ a ∧ a ≤ 65535
instance (a : Int) : Decidable (addrOk a) := by unfold addrOk; infer_instance
def prefOk (net len : Int) : Prop := (0 ≤ len ∧ len ≤ 16) ∧ addrOk net ∧ net.tmod (psz len) = 0
instance (net len : Int) : Decidable (prefOk net len) := by unfold prefOk; infer_instance
theorem C_s_l01Addr {a : Int} {H : Heap} {K : V → Heap → Prop} (h : K (.bool (decide (addrOk a))) H) : ACalls P n_s_l01Addr [.int .i64 a] H K := by
  apply W_s_l01Addr
  unfold F_s_l01Addr
  apply C_s_l01In
  exact Ret.of h
theorem C_i_isAddr {a : Int} {H : Heap} {K : V → Heap → Prop} (h : K (.bool (decide (addrOk a))) H) : ACalls P n_i_isAddr [.int .i64 a] H K := by
  apply W_i_isAddr
  unfold F_i_isAddr
  apply C_i_within
  exact Ret.of h
theorem C_s_PrefixOk {net len : Int} {H : Heap} {K : V → Heap → Prop} (h : K (.bool (decide (prefOk net len))) H) : ACalls P n_s_PrefixOk [.agg [.int .i64 net, .int .i64 len]] H K := by
  apply W_s_PrefixOk
  unfold F_s_PrefixOk
  simp
  refine ⟨_, Abs.sub_refl _, ?_⟩
  apply C_s_l01In
  simp
  refine ⟨fun q1 q2 => ?_, fun q => Ret.no h fun hh => by have := hh.1; omega⟩
  apply C_s_l01Addr
  simp
  refine ⟨fun q3 => ?_, fun q => Ret.no h fun hh => q hh.2.1⟩
  refine C_s_l01Size2 ⟨q1, q2⟩ ?_
  have := psz_in ⟨q1, q2⟩
  simp
  rw [if_neg (by omega)]
  simp
  exact Ret.iff h ⟨fun hh => ⟨⟨q1, q2⟩, q3, hh⟩, fun hh => hh.2.2⟩
theorem C_i_PrefixOk {net len : Int} {H : Heap} {K : V → Heap → Prop} (h : K (.bool (decide (prefOk net len))) H) : ACalls P n_i_PrefixOk [.agg [.int .i64 net, .int .i64 len]] H K := by
  apply W_i_PrefixOk
  unfold F_i_PrefixOk
  simp
  refine ⟨_, Abs.sub_refl _, ?_⟩
  apply C_i_within
  simp
  refine ⟨fun q1 q2 => ?_, fun q => Ret.no h fun hh => by have := hh.1; omega⟩
  apply C_i_isAddr
  simp
  refine ⟨fun q3 => ?_, fun q => Ret.no h fun hh => q hh.2.1⟩
  refine C_i_Prefix_size ⟨q1, q2⟩ ?_
  have := psz_in ⟨q1, q2⟩
  simp
  rw [if_neg (by omega)]
  simp
  exact Ret.iff h ⟨fun hh => ⟨⟨q1, q2⟩, q3, hh⟩, fun hh => hh.2.2⟩
/-! #### tables -/
abbrev rt (t : List TStub) (i : Nat) : TStub := t.getD i (0, 0, 0)
def ahead (a b : TStub) : Prop := a.1 < b.1 ∨ a.1 = b.1 ∧ a.2.1 < b.2.1
instance (a b : TStub) : Decidable (ahead a b) := by unfold ahead; infer_instance
theorem C_s_l02Ahead {a b : TStub} {H : Heap} {K : V → Heap → Prop} (h : K (.bool (decide (ahead a b))) H) : ACalls P n_s_l02Ahead [.agg [.int .i64 a.1, .int .i64 a.2.1], .agg [.int .i64 b.1, .int .i64 b.2.1]] H K := by
  apply W_s_l02Ahead
  unfold F_s_l02Ahead
  simp
  refine ⟨fun q => Ret.yes h (.inl q), fun q => ⟨fun q2 => Ret.iff h ⟨fun hh => .inr ⟨q2, hh⟩, fun hh => by unfold ahead at hh; omega⟩, fun q2 => Ret.no h fun hh => by unfold ahead at hh; omega⟩⟩
theorem C_i_comparePrefixes {a b : TStub} {H : Heap} {K : V → Heap → Prop} (h : K (.int .i64 (if a.1 ≠ b.1 then IntKind.i64.wrap (a.1 - b.1) else IntKind.i64.wrap (a.2.1 - b.2.1))) H) : ACalls P n_i_comparePrefixes [.agg [.int .i64 a.1, .int .i64 a.2.1], .agg [.int .i64 b.1, .int .i64 b.2.1]] H K := by
  apply W_i_comparePrefixes
  unfold F_i_comparePrefixes
  simp
  refine ⟨fun h1 => Ret.eq h (by simp [h1]), fun h1 => Ret.eq h (by simp [h1])⟩

end Go.Proofs.YtaippfedjjjpeaaGreat
