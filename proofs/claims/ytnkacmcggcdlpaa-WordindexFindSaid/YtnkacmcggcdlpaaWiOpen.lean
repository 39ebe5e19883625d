/- The rows, and what every row's proof wants. -/
import Derived.Test.YtnkacmcggcdlpaaWiG
import Derived.Test.YtnkacmcggcdlpaaRows
import Derived.ProofKit
import Derived.OpenShut
namespace Go.Proofs.Ytnkacmcggcdlpaa
open Go.ChangeShapes Go.WideShapes Go.ChangeAt Go.RowKit Go.Deep
theorem Try.own : ownKnob Try.prog.godebug = none := by kernel_rfl
end Go.Proofs.Ytnkacmcggcdlpaa
