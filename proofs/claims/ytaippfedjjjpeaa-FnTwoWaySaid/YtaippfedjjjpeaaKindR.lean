/-
Contracts of the laws' helpers over routes.
-/
import Derived.Test.YtaippfedjjjpeaaRoutes
import Derived.Test.YtaippfedjjjpeaaKindA
set_option linter.all false
namespace Go.Proofs.Ytaippfedjjjpeaa
open Go Go.Abs Go.Proofs


abbrev routesT (b : Bool) : Ty (List TRoute) := sliceT b (flatT 3 enRoute (fun _ => rfl))
def bRouteS (xs : List TRoute) : Prop := xs.length ≤ 1000
theorem sB_RouteS {xs : List TRoute} (h : bRouteS xs) : xs.length ≤ 10000000 := by unfold bRouteS at h; omega
def mkRr (k : Int) (n : Nat) : List TRoute := (List.range n).map fun i => (k + 3 * (i : Nat), k + 3 * (i : Nat) + 1, k + 3 * (i : Nat) + 1 + 1)
@[simp] theorem mkRr_len (k : Int) (n : Nat) : (mkRr k n).length = n := by simp [mkRr]
theorem mkRr_eq (k : Int) (n : Nat) : mkRoute k n = (mkRr k n).map enRoute := by unfold mkRoute mkRr; rw [List.map_map]; rfl
end Go.Proofs.Ytaippfedjjjpeaa
