/- The statement QualityCertifySpecSaid: for all arguments the law's function returns true. No condition of its own. -/
import Derived.Test.YtedblpbpoekdlaaRQualityCertifySpec
import Derived.Test.YtedblpbpoekdlaaPQualityCertifySpec
namespace Go.Proofs.Ytedblpbpoekdlaa
theorem qualityCertifySpec_said : Rows.QualityCertifySpecSaid := Bf.qualityCertifySpec_holds fun xs hl h => by
  obtain ⟨a0, a1, a2, a3, a4, a5, rfl, w0, w1, w2, w3, w4, w5⟩ := Bf.qualityCertifySpec_args (Bf.args_all hl h)
  exact (Bf.backflushlaw40_QualityCertifySpec_c (Bf.qualityCertifySpec_true a0 a1 a2 a3 a4 a5)).weak
end Go.Proofs.Ytedblpbpoekdlaa
