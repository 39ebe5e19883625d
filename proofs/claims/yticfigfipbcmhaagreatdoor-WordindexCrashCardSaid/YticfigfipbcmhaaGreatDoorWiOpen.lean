/- The rows, and what every row's proof wants. -/
import Derived.Test.YticfigfipbcmhaaGreatDoorWiG
import Derived.Test.YticfigfipbcmhaaGreatDoorRows
import Derived.ProofKit
import Derived.OpenShut
namespace Go.Proofs.YticfigfipbcmhaaGreatDoor
open Go.ChangeShapes Go.WideShapes Go.ChangeAt Go.RowKit Go.Deep
theorem Tryz.own : ownKnob Tryz.prog.godebug = none := by kernel_rfl
end Go.Proofs.YticfigfipbcmhaaGreatDoor
