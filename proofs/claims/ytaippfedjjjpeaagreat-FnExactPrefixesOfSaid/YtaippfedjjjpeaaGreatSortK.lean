/-
The kit's contract of slices.SortFunc, laid at the program.
-/
import Derived.Test.YtaippfedjjjpeaaGreatCmpK
import Derived.Test.YtaippfedjjjpeaaGreatSortB
import Derived.Shelf.SlSortCmp.WholeK
import Derived.Ground.SlsfProg
set_option linter.all false
namespace Go.Proofs
open Go.Shelf Go.RowKit Go.Lib Go.Sort
shelf_lay_g SlLaysF0.n6 Slsf 6 at Tryz 94 as Tryz.sortPf
theorem yp_lays (blk off size : Nat) (w : World) : CmpLays Tryz.prog 95 #[] (Go.Abs.rowC ypI) 2 ypF blk off size w :=
  fun _ _ _ _ x y => yp_cmp x y _
theorem yp_sort : Go.Abs.KitSort ypI Tryz.prog 94 95 (ltOf ypF) := fun blk off cap d w hH hb hs => by
  have eg : ∀ args w, (callFunc 95 args).run Tryz.prog w = .ok (.enter 95 args) w := enters_of Tryz.func95 (by kernel_rfl) rfl
  exact AnyQ.slices_SortFunc Tryz.sortPf 2 Tryz.isAgg57 Tryz.sizeOf57 (Go.Abs.rowC ypI) (fun _ => rfl) (fun x v hv => by simp [Go.Abs.rowC] at hv; rcases hv with rfl | rfl <;> rfl) ypF yp_swo 95 #[] blk off cap d w eg (yp_lays blk off d.size w) hH hb hs
end Go.Proofs
