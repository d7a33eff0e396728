/- The statement QualityTrueSaid: for all arguments the law's function returns true. No condition of its own. -/
import Derived.Test.YtedblpbpoekdlaaRQualityTrue
import Derived.Test.YtedblpbpoekdlaaPQualityTrue
namespace Go.Proofs.Ytedblpbpoekdlaa
theorem qualityTrue_said : Rows.QualityTrueSaid := Bf.qualityTrue_holds fun xs hl h => by
  obtain ⟨a0, a1, a2, a3, a4, rfl, w0, w1, w2, w3, w4⟩ := Bf.qualityTrue_args (Bf.args_all hl h)
  exact (Bf.backflushlaw40_QualityTrue_c (Bf.qualityTrue_true a0 a1 a2 a3 a4)).weak
end Go.Proofs.Ytedblpbpoekdlaa
