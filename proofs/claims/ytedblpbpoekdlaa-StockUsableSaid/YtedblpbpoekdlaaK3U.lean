/- Facts on the seat that every law's row asks. -/
import Derived.Test.YtedblpbpoekdlaaRows
import Derived.Test.YtedblpbpoekdlaaK2U
namespace Bf
open Go Go.RowKit Go.Proofs Go.ChangeShapes Go.WideShapes Go.ChangeAt Go.Proofs.Ytedblpbpoekdlaa
theorem own_knob : ownKnob Try.prog.godebug = none := by kernel_rfl
theorem laid_out : laidOutB Try.prog = true := by kernel_rfl
end Bf
