/- The statement StockBackSaid: for all arguments the law's function returns true. No condition of its own. -/
import Derived.Test.YtedblpbpoekdlaaRStockBack
import Derived.Test.YtedblpbpoekdlaaPStockBack
namespace Go.Proofs.Ytedblpbpoekdlaa
theorem stockBack_said : Rows.StockBackSaid := Bf.stockBack_holds fun xs hl h => by
  obtain ⟨a0, a1, a2, a3, a4, a5, a6, rfl, w0, w1, w2, w3, w4, w5, w6⟩ := Bf.stockBack_args (Bf.args_all hl h)
  exact (Bf.backflushlaw18_StockBack_c (Bf.stockBack_true a0 a1 a2 a3 a4 a5 a6 w0)).weak
end Go.Proofs.Ytedblpbpoekdlaa
