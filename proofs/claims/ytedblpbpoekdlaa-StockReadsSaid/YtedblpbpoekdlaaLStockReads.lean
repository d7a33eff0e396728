/- The statement StockReadsSaid: for all arguments the law's function returns true. No condition of its own. -/
import Derived.Test.YtedblpbpoekdlaaRStockReads
import Derived.Test.YtedblpbpoekdlaaPStockReads
namespace Go.Proofs.Ytedblpbpoekdlaa
theorem stockReads_said : Rows.StockReadsSaid := Bf.stockReads_holds fun xs hl h => by
  obtain ⟨a0, a1, a2, a3, a4, a5, rfl, w0, w1, w2, w3, w4, w5⟩ := Bf.stockReads_args (Bf.args_all hl h)
  exact (Bf.backflushlaw18_StockReads_c (Bf.stockReads_true a0 a1 a2 a3 a4 a5 w0)).weak
end Go.Proofs.Ytedblpbpoekdlaa
