/- The statement StockAllSaid: for all arguments the law's function returns true. No condition of its own. -/
import Derived.Test.YtedblpbpoekdlaaRStockAll
import Derived.Test.YtedblpbpoekdlaaPStockAll
namespace Go.Proofs.Ytedblpbpoekdlaa
theorem stockAll_said : Rows.StockAllSaid := Bf.stockAll_holds fun xs hl h => by
  obtain ⟨a0, a1, a2, rfl, w0, w1, w2⟩ := Bf.stockAll_args (Bf.args_all hl h)
  exact (Bf.backflushlaw18_StockAll_c (Bf.stockAll_true a0 a1 a2 w0)).weak
end Go.Proofs.Ytedblpbpoekdlaa
