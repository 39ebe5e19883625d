/- Reading WordindexCrash's arguments. -/
import Derived.Test.YticfigfipbcmhaaGreatDoorWkFG
import Derived.Test.YticfigfipbcmhaaGreatDoorWiOpen2
import Derived.Handed
import Derived.Shelf.Strings.Shaped
namespace Go.Proofs.YticfigfipbcmhaaGreatDoor
open Go.ChangeShapes Go.WideShapes Go.ChangeAt Go.RowKit Go.Deep
set_option linter.unusedVariables false
theorem ml_shaped {W : World} (h : W.ShapedOpen Tryz.prog) : ML W :=
  Go.Proofs.cell_of_shapedOpen_int (zero := #[.int .i64 0]) (t := 3) h (of_decide_eq_true (by kernel_rfl)) (by kernel_rfl) rfl (by kernel_rfl) (by kernel_rfl) Tryz.underlying3
end Go.Proofs.YticfigfipbcmhaaGreatDoor
