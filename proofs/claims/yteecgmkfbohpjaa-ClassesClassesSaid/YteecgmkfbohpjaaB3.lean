import Derived.Test.YteecgmkfbohpjaaRows
import Derived.Test.YteecgmkfbohpjaaB2
namespace Bf
open Go Go.RowKit Go.Proofs Go.ChangeShapes Go.WideShapes Go.ChangeAt Go.Proofs.Yteecgmkfbohpjaa
theorem own_knob : ownKnob Try.prog.godebug = none := by kernel_rfl
theorem laid_out : laidOutB Try.prog = true := by kernel_rfl
end Bf
