/-
Contracts: copies of advertisements and databases.
-/
import Derived.Test.YtcmpkkcbdmllpacPref
set_option linter.all false
namespace Go.Proofs.Ytcmpkkcbdmllpac
open Go Go.Abs Go.Proofs

def InvC1 (H : Heap) (a : TLsa) (l s : V) (m : Nat) (ys : List V) (Hc : Heap) : Prop :=
  ∃ (i : Nat) (u : V), i ≤ a.links.length ∧ ys = [.box (lsaRow a l s), .box [.int .i64 0, .int .i64 0, .int .i64 0, .nils, .nils], .box (lsaRow a u .nils), .int .i64 (i : Nat)] ∧ m = a.links.length - i ∧ Held H 2 ((a.links.take i).map enLink) u Hc
def InvC2 (H : Heap) (a : TLsa) (l s u : V) (m : Nat) (ys : List V) (Hc : Heap) : Prop :=
  ∃ (i : Nat) (t : V), i ≤ a.stubs.length ∧ ys = [.box (lsaRow a l s), .box [.int .i64 0, .int .i64 0, .int .i64 0, .nils, .nils], .box (lsaRow a u t), .int .i64 (i : Nat)] ∧ m = a.stubs.length - i ∧ Held H 3 ((a.stubs.take i).map enStub) t Hc
def InvD1 (c : Bool) (H : Heap) (xs : List TLsa) (w : V) (m : Nat) (ys : List V) (Hc : Heap) : Prop :=
  ∃ (i : Nat) (u : V), i ≤ xs.length ∧ ys = [.box [w], .box [.nils], .box [u], .int .i64 (i : Nat)] ∧ m = xs.length - i ∧ Dp (dbT c) H (xs.take i) [u] Hc
def InvD2 (c : Bool) (H : Heap) (xs : List TLsa) (m : Nat) (ys : List V) (Hc : Heap) : Prop :=
  ∃ (i : Nat) (u : V), i ≤ xs.length ∧ ys = [.box [.nils], .box [u], .int .i64 (i : Nat)] ∧ m = xs.length - i ∧ Dp (dbT c) H (xs.take i) [u] Hc
end Go.Proofs.Ytcmpkkcbdmllpac
