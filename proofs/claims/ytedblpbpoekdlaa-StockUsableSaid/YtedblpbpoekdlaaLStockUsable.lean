/- The statement StockUsableSaid: for all arguments the law's function returns true. No condition of its own. -/
import Derived.Test.YtedblpbpoekdlaaRStockUsable
import Derived.Test.YtedblpbpoekdlaaPStockUsable
namespace Go.Proofs.Ytedblpbpoekdlaa
theorem stockUsable_said : Rows.StockUsableSaid := Bf.stockUsable_holds fun xs hl h => by
  obtain ⟨a0, a1, a2, a3, a4, rfl, w0, w1, w2, w3, w4⟩ := Bf.stockUsable_args (Bf.args_all hl h)
  exact (Bf.backflushlaw18_StockUsable_c (Bf.stockUsable_true a0 a1 a2 a3 a4 w0)).weak
end Go.Proofs.Ytedblpbpoekdlaa
