/- The statement StockLotSpecSaid: for all arguments the law's function returns true. No condition of its own. -/
import Derived.Test.YtedblpbpoekdlaaRStockLotSpec
import Derived.Test.YtedblpbpoekdlaaPStockLotSpec
namespace Go.Proofs.Ytedblpbpoekdlaa
theorem stockLotSpec_said : Rows.StockLotSpecSaid := Bf.stockLotSpec_holds fun xs hl h => by
  obtain ⟨a0, a1, a2, a3, a4, rfl, w0, w1, w2, w3, w4⟩ := Bf.stockLotSpec_args (Bf.args_all hl h)
  exact (Bf.backflushlaw18_StockLotSpec_c (Bf.stockLotSpec_true a0 a1 a2 a3 a4 w0)).weak
end Go.Proofs.Ytedblpbpoekdlaa
