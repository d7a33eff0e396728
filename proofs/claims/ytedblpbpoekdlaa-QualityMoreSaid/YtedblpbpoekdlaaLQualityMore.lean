/- The statement QualityMoreSaid: for all arguments the law's function returns true. No condition of its own. -/
import Derived.Test.YtedblpbpoekdlaaRQualityMore
import Derived.Test.YtedblpbpoekdlaaPQualityMore
namespace Go.Proofs.Ytedblpbpoekdlaa
theorem qualityMore_said : Rows.QualityMoreSaid := Bf.qualityMore_holds fun xs hl h => by
  obtain ⟨a0, a1, a2, a3, a4, a5, a6, a7, rfl, w0, w1, w2, w3, w4, w5, w6, w7⟩ := Bf.qualityMore_args (Bf.args_all hl h)
  exact (Bf.backflushlaw40_QualityMore_c (Bf.qualityMore_true a0 a1 a2 a3 a4 a5 a6 a7 w6)).weak
end Go.Proofs.Ytedblpbpoekdlaa
