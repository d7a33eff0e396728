/- The statement QualityReadsSaid: for all arguments the law's function returns true. No condition of its own. -/
import Derived.Test.YtedblpbpoekdlaaRQualityReads
import Derived.Test.YtedblpbpoekdlaaPQualityReads
namespace Go.Proofs.Ytedblpbpoekdlaa
theorem qualityReads_said : Rows.QualityReadsSaid := Bf.qualityReads_holds fun xs hl h => by
  obtain ⟨a0, a1, a2, a3, a4, a5, a6, rfl, w0, w1, w2, w3, w4, w5, w6⟩ := Bf.qualityReads_args (Bf.args_all hl h)
  exact (Bf.backflushlaw40_QualityReads_c (Bf.qualityReads_true a0 a1 a2 a3 a4 a5 a6)).weak
end Go.Proofs.Ytedblpbpoekdlaa
