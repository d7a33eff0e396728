/- The statement QualityFreeSaid: for all arguments the law's function returns true. No condition of its own. -/
import Derived.Test.YtedblpbpoekdlaaRQualityFree
import Derived.Test.YtedblpbpoekdlaaPQualityFree
namespace Go.Proofs.Ytedblpbpoekdlaa
theorem qualityFree_said : Rows.QualityFreeSaid := Bf.qualityFree_holds fun xs hl h => by
  obtain ⟨a0, a1, a2, a3, a4, a5, rfl, w0, w1, w2, w3, w4, w5⟩ := Bf.qualityFree_args (Bf.args_all hl h)
  exact (Bf.backflushlaw40_QualityFree_c (Bf.qualityFree_true a0 a1 a2 a3 a4 a5)).weak
end Go.Proofs.Ytedblpbpoekdlaa
