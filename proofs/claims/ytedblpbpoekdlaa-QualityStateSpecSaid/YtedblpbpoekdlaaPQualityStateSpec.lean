/- Plain law: QualityStateSpec's model is true of all arguments. -/
import Derived.Test.YtedblpbpoekdlaaQD
namespace Bf
open Go Go.RowKit Go.Proofs
theorem qualityStateSpec_true (a0 : GWorld) (a1 : Int) (a2 : GCertificate) (a3 a4 : Int) (a5 : List GSpec) (a6 : List Int) : backflushlaw40_QualityStateSpec_m a0 a1 a2 a3 a4 a5 a6 = some true := by
  unfold backflushlaw40_QualityStateSpec_m
  rw [sane40, few40]
  simp only [bd, Bool.not_true, cond_false]
  cases hf : decide (a0.facts.length ≤ 60) && decide (a5.length ≤ 20) && decide (a6.length ≤ 20)
  · rfl
  obtain ⟨_, hl, hh⟩ := few_spec hf
  simp only [Bool.not_true, cond_or, Bool.false_or]
  cases decide (20 < ((a2.results.length : Nat) : Int))
  case true => rfl
  simp only [cond_false]
  rw [quality_Check _ _ _ _ _ (by omega), ref_Check _ _ _ _ _ (by omega), quality_State _ _ _ _ _ _ (by omega), ref_State _ _ _ _ _ _ (by omega) (by omega)]
  simp only [same_reads, BEq.rfl, decide_true, bdc, cond_true, bd]
end Bf
