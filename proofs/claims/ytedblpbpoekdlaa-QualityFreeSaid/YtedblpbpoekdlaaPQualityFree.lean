/- Plain law: QualityFree's model is true of all arguments. -/
import Derived.Test.YtedblpbpoekdlaaQD
namespace Bf
open Go Go.RowKit Go.Proofs
theorem foldl_and {α : Type} (p : α → Bool) : ∀ (l : List α) (b : Bool), l.foldl (fun s x => s && p x) b = (b && l.all p)
  | [], b => by simp
  | x :: l, b => by rw [List.foldl_cons, foldl_and p l, List.all_cons, Bool.and_assoc]
theorem qualityFree_true (a0 : GWorld) (a1 a2 a3 : Int) (a4 : List GSpec) (a5 : List Int) : backflushlaw40_QualityFree_m a0 a1 a2 a3 a4 a5 = some true := by
  unfold backflushlaw40_QualityFree_m
  rw [sane40, few40]
  simp only [bd, Bool.not_true, cond_false]
  cases hf : decide (a0.facts.length ≤ 60) && decide (a4.length ≤ 20) && decide (a5.length ≤ 20)
  · rfl
  obtain ⟨_, hl, hh⟩ := few_spec hf
  simp only [Bool.not_true, cond_false]
  rw [quality_State _ _ _ _ _ _ (by omega), stock_Lot]
  simp only [cond_or, cond_and]
  unfold stateF
  cases h0 : !(specsF a4 && rise 1023 (-1) a5) || decide (1024 < a5.length)
  case true => rfl
  simp only [cond_false]
  cases h2 : (LotF a0.facts a1 a2 a3).2.2
  · rfl
  obtain ⟨d0, d1, hr⟩ := LotF_ok h2
  simp only [Bool.not_true, cond_false, Bool.false_or]
  -- the loops of the law
  have loops : ∀ (s : Int) (b : Bool), (forL a5 (fun (k9 : Nat) (x12 : Int) (s7 : Bool) loop8 => loop8 (s7 && (x12 != a1))) (fun (s7 : Bool) => forL a4 (fun (k17 : Nat) (x20 : GSpec) (s15 : Bool) loop16 => bd (facts_At_m a0.facts (⟨8, a1, x20.test⟩ : GKey) a2 a3) fun x24 => loop16 (s15 && x24.2 && decide (0 ≤ x24.1) && decide (x20.lo ≤ x24.1) && decide (x24.1 ≤ x20.hi))) (fun (s15 : Bool) => some ((s != 3) && (s15 == (s == 0)))) s7) b) = some ((s != 3) && ((b && (a5.all (fun x => x != a1) && (runC a0.facts a1 a2 a3 a4).2.1)) == (s == 0))) := by
    intro s b
    simp only [forL]
    rw [forLg_pure (step := fun s x => s && (x != a1)) 0 b (fun _ _ _ _ _ => rfl), foldl_and]
    rw [forLg_pure (step := fun s (x : GSpec) => s && ((atF a0.facts ⟨8, a1, x.test⟩ a2 a3).2 && decide (0 ≤ (atF a0.facts ⟨8, a1, x.test⟩ a2 a3).1) && decide (x.lo ≤ (atF a0.facts ⟨8, a1, x.test⟩ a2 a3).1) && decide ((atF a0.facts ⟨8, a1, x.test⟩ a2 a3).1 ≤ x.hi))) 0 _ (fun k x s c _ => by rw [facts_At]; simp only [bd, Bool.and_assoc]), foldl_and, runC_good]
    simp only [resF_at d0 d1, Bool.and_assoc]
  have hd : ∀ x : Int, (a1 == x) = !(x != a1) := fun x => by rw [bne, Bool.not_not, Bool.beq_comm]
  have hany : (a5.any fun x => a1 == x) = !(a5.all fun x => x != a1) := by
    rw [List.any_eq_not_all_not]
    congr 1
    congr 1
    funext x
    rw [hd, Bool.not_not]
  have hst : ∀ n : Int, 0 ≤ n → n ≤ 3 → n = 0 ∨ n = 1 ∨ n = 2 ∨ n = 3 := fun n _ _ => by omega
  have hs : (LotF a0.facts a1 a2 a3).1.state = 0 ∨ (LotF a0.facts a1 a2 a3).1.state = 1 ∨ (LotF a0.facts a1 a2 a3).1.state = 2 ∨ (LotF a0.facts a1 a2 a3).1.state = 3 := by
    unfold rightF at hr
    simp only [Bool.and_eq_true, decide_eq_true_eq] at hr
    exact hst _ hr.2.1 hr.2.2
  have he : decide ((LotF a0.facts a1 a2 a3).1.expiry ≤ a2) = !decide (a2 < (LotF a0.facts a1 a2 a3).1.expiry) := by
    by_cases h : (LotF a0.facts a1 a2 a3).1.expiry ≤ a2
    · have : ¬ a2 < (LotF a0.facts a1 a2 a3).1.expiry := by omega
      simp [h, this]
    · have : a2 < (LotF a0.facts a1 a2 a3).1.expiry := by omega
      simp [h, this]
  rw [he, hany]
  rcases hs with h | h | h | h <;> rw [h] <;> simp only [BEq.rfl, cond_true, cond_false, show ((0 : Int) == 3) = false from rfl, show ((1 : Int) == 3) = false from rfl, show ((2 : Int) == 3) = false from rfl, show ((0 : Int) == 2) = false from rfl, show ((1 : Int) == 2) = false from rfl, show ((0 : Int) == 1) = false from rfl, show ((1 : Int) == 0) = false from rfl, show ((2 : Int) == 0) = false from rfl, Bool.false_or, Bool.true_or, Bool.true_and, Bool.false_and]
  · cases ha : a5.all fun x => x != a1
    · simp only [Bool.not_false, cond_true]
      refine (loops _ _).trans ?_
      rw [ha]; simp
    · simp only [Bool.not_true, cond_false]
      cases hx : decide (a2 < (LotF a0.facts a1 a2 a3).1.expiry)
      · simp only [Bool.not_false, Bool.true_or, cond_true]
        refine (loops _ _).trans ?_
        simp
      · cases hg : (runC a0.facts a1 a2 a3 a4).2.1
        · simp only [Bool.not_true, Bool.not_false, Bool.false_or, cond_true]
          refine (loops _ _).trans ?_
          rw [ha, hg]; simp
        · simp only [Bool.not_true, Bool.false_or, cond_false]
          refine (loops _ _).trans ?_
          rw [ha, hg]; simp
  · cases ha : a5.all fun x => x != a1
    · simp only [Bool.not_false, cond_true]
      refine (loops _ _).trans ?_
      simp
    · simp only [Bool.not_true, cond_false]
      refine (loops _ _).trans ?_
      simp
  · refine (loops _ _).trans ?_
    simp
  · rfl
end Bf
