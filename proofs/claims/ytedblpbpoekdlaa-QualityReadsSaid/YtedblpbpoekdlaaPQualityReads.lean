/- Plain law: QualityReads's model is true of all arguments. -/
import Derived.Test.YtedblpbpoekdlaaQD
import Derived.Test.YtedblpbpoekdlaaQW
namespace Bf
open Go Go.RowKit Go.Proofs

theorem resF_agree {fs : List GFact} {lot test day a b : Int} (h : ∀ r ∈ (resF fs lot test day a).2.1, atF fs r.key day a = atF fs r.key day b) : resF fs lot test day b = resF fs lot test day a := by
  unfold resF at h ⊢
  cases hd : decide (0 ≤ day) && decide (day < 1024)
  · rfl
  · rw [hd] at h
    simp only [Bool.not_true, cond_false] at h ⊢
    have : atF fs ⟨8, lot, test⟩ day a = atF fs ⟨8, lot, test⟩ day b := by
      refine h (rdF ⟨8, lot, test⟩ day) ?_
      cases (!(atF fs ⟨8, lot, test⟩ day a).2) || decide ((atF fs ⟨8, lot, test⟩ day a).1 < 0) <;> simp
    rw [this]
theorem stepC_reads {fs : List GFact} {lot day kn : Int} : ∀ (l : List GSpec) (s : CS), ∃ t, (l.foldl (stepC fs lot day kn) s).1 = s.1 ++ t
  | [], s => ⟨[], by simp⟩
  | x :: l, s => by
    rw [List.foldl_cons]
    obtain ⟨t, ht⟩ := stepC_reads l (stepC fs lot day kn s x)
    exact ⟨(resF fs lot x.test day kn).2.1 ++ t, by rw [ht]; simp [stepC]⟩
theorem stepC_agree {fs : List GFact} {lot day a b : Int} : ∀ (l : List GSpec) (s : CS), (∀ r ∈ (l.foldl (stepC fs lot day a) s).1, atF fs r.key day a = atF fs r.key day b) → l.foldl (stepC fs lot day b) s = l.foldl (stepC fs lot day a) s
  | [], _, _ => rfl
  | x :: l, s, h => by
    rw [List.foldl_cons] at h ⊢
    rw [List.foldl_cons]
    obtain ⟨t, ht⟩ := stepC_reads (fs := fs) (lot := lot) (day := day) (kn := a) l (stepC fs lot day a s x)
    have e : stepC fs lot day b s x = stepC fs lot day a s x := by
      unfold stepC
      rw [resF_agree (a := a) (b := b) fun r hr => h r (by rw [ht]; simp [stepC, hr])]
    rw [e]
    exact stepC_agree l _ h
theorem runC_agree {fs : List GFact} {lot day a b : Int} {l : List GSpec} (h : ∀ r ∈ (runC fs lot day a l).1, atF fs r.key day a = atF fs r.key day b) : LotF fs lot day b = LotF fs lot day a ∧ runC fs lot day b l = runC fs lot day a l := by
  unfold runC at h ⊢
  obtain ⟨t, ht⟩ := stepC_reads (fs := fs) (lot := lot) (day := day) (kn := a) l ((LotF fs lot day a).2.1, true, [])
  have e : LotF fs lot day b = LotF fs lot day a := LotF_agree fun r hr => h r (by rw [ht]; simp [hr])
  refine ⟨e, ?_⟩
  rw [e]
  exact stepC_agree l _ h
theorem dayReads_app {day : Int} {xs ys : List GRead} (h : dayReads day xs) (h' : dayReads day ys) : dayReads day (xs ++ ys) := fun r hr => by
  rcases List.mem_append.1 hr with h1 | h1
  · exact h r h1
  · exact h' r h1
theorem resF_day (fs : List GFact) (lot test day kn : Int) : dayReads day (resF fs lot test day kn).2.1 := by
  unfold resF
  cases decide (0 ≤ day) && decide (day < 1024)
  · intro r hr; cases hr
  · cases (!(atF fs ⟨8, lot, test⟩ day kn).2) || decide ((atF fs ⟨8, lot, test⟩ day kn).1 < 0) <;>
    · intro r hr
      simp only [Bool.not_true, cond_false, cond_true, List.mem_singleton] at hr
      subst hr
      exact ⟨rfl, rfl⟩
theorem runC_day (fs : List GFact) (lot day kn : Int) (l : List GSpec) : dayReads day (runC fs lot day kn l).1 := by
  unfold runC
  have key : ∀ (l : List GSpec) (s : CS), dayReads day s.1 → dayReads day (l.foldl (stepC fs lot day kn) s).1 := by
    intro l
    induction l with
    | nil => intro s h; exact h
    | cons x l ih => intro s h; rw [List.foldl_cons]; exact ih _ (dayReads_app h (resF_day fs lot x.test day kn))
  exact key l _ (LotF_day fs lot day kn)
theorem qualityReads_true (a0 : GWorld) (a1 a2 a3 a4 : Int) (a5 : List GSpec) (a6 : List Int) : backflushlaw40_QualityReads_m a0 a1 a2 a3 a4 a5 a6 = some true := by
  unfold backflushlaw40_QualityReads_m
  rw [sane40, few40]
  simp only [bd, Bool.not_true, cond_false]
  cases hf : decide (a0.facts.length ≤ 60) && decide (a5.length ≤ 20) && decide (a6.length ≤ 20)
  · rfl
  obtain ⟨_, hl, hh⟩ := few_spec hf
  simp only [Bool.not_true, cond_false]
  rw [quality_State _ _ _ _ _ _ (by omega), quality_State _ _ _ _ _ _ (by omega), quality_Certify _ _ _ _ _ (by omega), quality_Certify _ _ _ _ _ (by omega)]
  simp only [cond_or, cond_and, same_reads]
  have hlen := fun kn => certF_len' a0.facts a1 a2 kn a5
  -- the state at the first time
  have main : (stateF a0.facts a1 a2 a3 a5 a6).2.2 = 0 → 0 ≤ a2 ∧ a2 < 1024 ∧ dayReads a2 (stateF a0.facts a1 a2 a3 a5 a6).2.1 ∧ ((∀ r ∈ (stateF a0.facts a1 a2 a3 a5 a6).2.1, atF a0.facts r.key a2 a3 = atF a0.facts r.key a2 a4) → stateF a0.facts a1 a2 a4 a5 a6 = stateF a0.facts a1 a2 a3 a5 a6 ∧ certF a0.facts a1 a2 a4 a5 = certF a0.facts a1 a2 a3 a5) ∨ (¬ (0 ≤ a2 ∧ a2 < 1024) ∧ (stateF a0.facts a1 a2 a3 a5 a6).2.1 = [] ∧ stateF a0.facts a1 a2 a4 a5 a6 = stateF a0.facts a1 a2 a3 a5 a6 ∧ certF a0.facts a1 a2 a4 a5 = certF a0.facts a1 a2 a3 a5) := by
    intro h0
    by_cases hd : 0 ≤ a2 ∧ a2 < 1024
    · left
      refine ⟨hd.1, hd.2, ?_⟩
      have hv : (!(specsF a5 && rise 1023 (-1) a6) || decide (1024 < a6.length)) = false := by
        cases h : (!(specsF a5 && rise 1023 (-1) a6) || decide (1024 < a6.length)) with
        | false => rfl
        | true => unfold stateF at h0; rw [h] at h0; cases h0
      have hs : specsF a5 = true := by
        cases h : specsF a5 with
        | true => rfl
        | false => rw [h] at hv; simp at hv
      cases h2 : (LotF a0.facts a1 a2 a3).2.2
      · have e1 : stateF a0.facts a1 a2 a3 a5 a6 = (3, (LotF a0.facts a1 a2 a3).2.1, 0) := by unfold stateF; rw [hv, h2]; rfl
        rw [e1]
        refine ⟨LotF_day _ _ _ _, fun h => ?_⟩
        have e := LotF_agree (fs := a0.facts) (no := a1) (day := a2) (a := a3) (b := a4) h
        constructor
        · unfold stateF; rw [hv, e, h2]; rfl
        · unfold certF; rw [e, h2, hs]; rfl
      · have e1 : (stateF a0.facts a1 a2 a3 a5 a6).2.1 = (runC a0.facts a1 a2 a3 a5).1 := by
          unfold stateF
          rw [hv, h2]
          simp only [Bool.not_true, cond_false]
          cases (LotF a0.facts a1 a2 a3).1.state == 3
          case true => rfl
          cases (LotF a0.facts a1 a2 a3).1.state == 2 || (a6.any fun x => a1 == x)
          case true => rfl
          cases (LotF a0.facts a1 a2 a3).1.state == 1 || decide ((LotF a0.facts a1 a2 a3).1.expiry ≤ a2) || !(runC a0.facts a1 a2 a3 a5).2.1 <;> rfl
        rw [e1]
        refine ⟨runC_day _ _ _ _ _, fun h => ?_⟩
        obtain ⟨e2, e3⟩ := runC_agree h
        constructor
        · unfold stateF; rw [e2, e3]
        · unfold certF; rw [e2, e3]
    · right
      have hdd : (decide (0 ≤ a2) && decide (a2 < 1024)) = false := by
        rw [Bool.and_eq_false_iff, decide_eq_false_iff_not, decide_eq_false_iff_not]; omega
      have hL : ∀ kn, LotF a0.facts a1 a2 kn = (lot0, [], false) := fun kn => by unfold LotF; rw [hdd]; rfl
      refine ⟨hd, ?_, ?_, ?_⟩
      · unfold stateF; rw [hL]
        cases !(specsF a5 && rise 1023 (-1) a6) || decide (1024 < a6.length) <;> rfl
      · unfold stateF; rw [hL, hL]
        cases !(specsF a5 && rise 1023 (-1) a6) || decide (1024 < a6.length) <;> rfl
      · unfold certF; rw [hL, hL]
        cases specsF a5 <;> rfl
  cases he : (stateF a0.facts a1 a2 a3 a5 a6).2.2 != 0
  case true => simp [bdc]
  have he0 : (stateF a0.facts a1 a2 a3 a5 a6).2.2 = 0 := by simpa using he
  simp only [Bool.not_false, bdc_t rfl, Bool.false_or]
  rcases main he0 with ⟨d0, d1, hr, hag⟩ | ⟨_, hnil, e1, e2⟩
  · obtain ⟨v, hv1, hv2⟩ := alike a0.facts _ a2 a3 a4 d0 d1 hr
    rw [bd_some hv1]
    cases v with
    | false => rfl
    | true =>
      obtain ⟨e1, e2⟩ := hag (hv2.1 rfl)
      rw [e1, e2]
      simp only [Bool.not_true, cond_false]
      rw [same_cert _ _ (Nat.le_trans (hlen a3) (by omega))]
      simp [he0, bdc, bd]
  · rw [hnil, e1, e2]
    have : facts_Alike_m a0.facts [] a3 a4 = some true := rfl
    rw [bd_some this]
    simp only [Bool.not_true, cond_false]
    rw [same_cert _ _ (Nat.le_trans (hlen a3) (by omega))]
    simp [he0, bdc, bd, hnil]
end Bf
