/- The statement StockPastSaid: for all arguments the law's function returns true. No condition of its own. -/
import Derived.Test.YtedblpbpoekdlaaRStockPast
import Derived.Test.YtedblpbpoekdlaaPStockPast
namespace Go.Proofs.Ytedblpbpoekdlaa
theorem stockPast_said : Rows.StockPastSaid := Bf.stockPast_holds fun xs hl h => by
  obtain ⟨a0, a1, a2, a3, rfl, w0, w1, w2, w3⟩ := Bf.stockPast_args (Bf.args_all hl h)
  exact (Bf.backflushlaw18_StockPast_c (Bf.stockPast_true a0 a1 a2 a3 w0)).weak
end Go.Proofs.Ytedblpbpoekdlaa
