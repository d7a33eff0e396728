/- The statement QualityStateSpecSaid: for all arguments the law's function returns true. No condition of its own. -/
import Derived.Test.YtedblpbpoekdlaaRQualityStateSpec
import Derived.Test.YtedblpbpoekdlaaPQualityStateSpec
namespace Go.Proofs.Ytedblpbpoekdlaa
theorem qualityStateSpec_said : Rows.QualityStateSpecSaid := Bf.qualityStateSpec_holds fun xs hl h => by
  obtain ⟨a0, a1, a2, a3, a4, a5, a6, rfl, w0, w1, w2, w3, w4, w5, w6⟩ := Bf.qualityStateSpec_args (Bf.args_all hl h)
  exact (Bf.backflushlaw40_QualityStateSpec_c (Bf.qualityStateSpec_true a0 a1 a2 a3 a4 a5 a6)).weak
end Go.Proofs.Ytedblpbpoekdlaa
