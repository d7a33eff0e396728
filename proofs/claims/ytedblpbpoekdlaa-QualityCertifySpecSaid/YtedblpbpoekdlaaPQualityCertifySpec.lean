/- Plain law: QualityCertifySpec's model is true of all arguments. -/
import Derived.Test.YtedblpbpoekdlaaQC
namespace Bf
open Go Go.RowKit Go.Proofs

theorem sane40 : backflushlaw40_sane_m = some true := by decide +kernel
theorem few40 (w : GWorld) (l : List GSpec) (h : List Int) : backflushref40_Few_m w l h = some (decide (w.facts.length ≤ 60) && decide (l.length ≤ 20) && decide (h.length ≤ 20)) := by
  unfold backflushref40_Few_m
  simp only [cond_and]
  rw [show decide (((w.facts.length : Nat) : Int) ≤ 60) = decide (w.facts.length ≤ 60) from decide_eq_decide.2 (by omega), show decide (((l.length : Nat) : Int) ≤ 20) = decide (l.length ≤ 20) from decide_eq_decide.2 (by omega), show decide (((h.length : Nat) : Int) ≤ 20) = decide (h.length ≤ 20) from decide_eq_decide.2 (by omega)]
theorem certF_len (fs : List GFact) (lot day kn : Int) (l : List GSpec) : (certF fs lot day kn l).1.results.length ≤ l.length := by
  unfold certF
  cases specsF l
  · simp
  cases (LotF fs lot day kn).2.2
  · simp
  simp only [Bool.not_true, cond_false]
  have key : ∀ (xs : List GSpec) (s : CS), (xs.foldl (stepC fs lot day kn) s).2.2.length ≤ s.2.2.length + xs.length := by
    intro xs
    induction xs with
    | nil => intro s; simp
    | cons x xs ih =>
      intro s
      rw [List.foldl_cons]
      have h1 := ih (stepC fs lot day kn s x)
      have h2 : (stepC fs lot day kn s x).2.2.length ≤ s.2.2.length + 1 := by
        simp only [stepC]
        cases (resF fs lot x.test day kn).2.2 <;> simp
      simp only [List.length_cons]
      omega
  have := key l ((LotF fs lot day kn).2.1, true, [])
  simpa [runC] using this
theorem qualityCertifySpec_true (a0 : GWorld) (a1 a2 a3 a4 : Int) (a5 : List GSpec) : backflushlaw40_QualityCertifySpec_m a0 a1 a2 a3 a4 a5 = some true := by
  unfold backflushlaw40_QualityCertifySpec_m
  rw [sane40, few40]
  simp only [bd, Bool.not_true, cond_false]
  cases hf : decide (a0.facts.length ≤ 60) && decide (a5.length ≤ 20) && decide (([] : List Int).length ≤ 20)
  · rfl
  have hl : a5.length ≤ 20 := by
    simp only [Bool.and_eq_true, decide_eq_true_eq] at hf
    exact hf.1.2
  have hc := certF_len a0.facts a1 a3 a4 a5
  simp only [Bool.not_true, cond_false, quality_Result, ref_Result]
  rw [quality_Certify _ _ _ _ _ (by omega), ref_Certify _ _ _ _ _ (by omega)]
  simp only [same_reads, same_cert _ _ (Nat.le_trans hc (by omega)), BEq.rfl, decide_true, bdc, cond_true, bd, cond_false]
end Bf
