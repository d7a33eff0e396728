/- Plain laws: where all that was read of a lot is alike, the lot is the same (stock). -/
import Derived.Test.YtedblpbpoekdlaaUV
namespace Bf
open Go Go.RowKit Go.Proofs

theorem dayReads_nil (day : Int) : dayReads day [] := fun r hr => by cases hr
theorem dayReads_cons {day : Int} (k : GKey) {l : List GRead} (h : dayReads day l) : dayReads day (rdF k day :: l) := fun r hr => by
  rcases List.mem_cons.1 hr with rfl | hr
  · exact ⟨rfl, rfl⟩
  · exact h r hr
theorem lotF_day (fs : List GFact) (no day kn : Int) : dayReads day (lotF fs no day kn).2.1 := by
  unfold lotF lotG
  generalize rightF _ = b
  cases b <;> cases (atF fs ⟨1, no, 0⟩ day kn).2 <;> cases (atF fs ⟨1, no, 1⟩ day kn).2 <;> cases (atF fs ⟨1, no, 2⟩ day kn).2 <;> cases (atF fs ⟨1, no, 3⟩ day kn).2 <;> cases (atF fs ⟨1, no, 4⟩ day kn).2 <;>
    (simp only [Bool.not_true, Bool.not_false, cond_true, cond_false]; repeat (first | exact dayReads_nil _ | refine dayReads_cons _ ?_))
theorem LotF_day (fs : List GFact) (no day kn : Int) : dayReads day (LotF fs no day kn).2.1 := by
  unfold LotF
  cases decide (0 ≤ day) && decide (day < 1024)
  · intro r hr; cases hr
  · cases decide (0 ≤ no) && decide (no < manyF fs day kn)
    · intro r hr
      simp only [Bool.not_true, cond_false, List.mem_singleton] at hr
      subst hr; exact ⟨rfl, rfl⟩
    · intro r hr
      simp only [Bool.not_true, cond_false, cond_true, List.mem_cons] at hr
      rcases hr with rfl | hr
      · exact ⟨rfl, rfl⟩
      · exact lotF_day fs no day kn r hr
theorem lotF_agree {fs : List GFact} {no day a b : Int} (h : ∀ r ∈ (lotF fs no day a).2.1, atF fs r.key day a = atF fs r.key day b) : lotF fs no day b = lotF fs no day a := by
  unfold lotF lotG at h ⊢
  simp only at h ⊢
  have m0 : atF fs ⟨1, no, 0⟩ day b = atF fs ⟨1, no, 0⟩ day a := by
    refine (h (rdF ⟨1, no, 0⟩ day) ?_).symm
    generalize rightF _ = v
    cases v <;> cases (atF fs ⟨1, no, 0⟩ day a).2 <;> cases (atF fs ⟨1, no, 1⟩ day a).2 <;> cases (atF fs ⟨1, no, 2⟩ day a).2 <;> cases (atF fs ⟨1, no, 3⟩ day a).2 <;> cases (atF fs ⟨1, no, 4⟩ day a).2 <;> simp
  rw [m0]
  cases e0 : (atF fs ⟨1, no, 0⟩ day a).2
  · rfl
  rw [e0] at h
  simp only [Bool.not_true, cond_false] at h ⊢
  have m1 : atF fs ⟨1, no, 1⟩ day b = atF fs ⟨1, no, 1⟩ day a := by
    refine (h (rdF ⟨1, no, 1⟩ day) ?_).symm
    generalize rightF _ = v
    cases v <;> cases (atF fs ⟨1, no, 1⟩ day a).2 <;> cases (atF fs ⟨1, no, 2⟩ day a).2 <;> cases (atF fs ⟨1, no, 3⟩ day a).2 <;> cases (atF fs ⟨1, no, 4⟩ day a).2 <;> simp
  rw [m1]
  cases e1 : (atF fs ⟨1, no, 1⟩ day a).2
  · rfl
  rw [e1] at h
  simp only [Bool.not_true, cond_false] at h ⊢
  have m2 : atF fs ⟨1, no, 2⟩ day b = atF fs ⟨1, no, 2⟩ day a := by
    refine (h (rdF ⟨1, no, 2⟩ day) ?_).symm
    generalize rightF _ = v
    cases v <;> cases (atF fs ⟨1, no, 2⟩ day a).2 <;> cases (atF fs ⟨1, no, 3⟩ day a).2 <;> cases (atF fs ⟨1, no, 4⟩ day a).2 <;> simp
  rw [m2]
  cases e2 : (atF fs ⟨1, no, 2⟩ day a).2
  · rfl
  rw [e2] at h
  simp only [Bool.not_true, cond_false] at h ⊢
  have m3 : atF fs ⟨1, no, 3⟩ day b = atF fs ⟨1, no, 3⟩ day a := by
    refine (h (rdF ⟨1, no, 3⟩ day) ?_).symm
    generalize rightF _ = v
    cases v <;> cases (atF fs ⟨1, no, 3⟩ day a).2 <;> cases (atF fs ⟨1, no, 4⟩ day a).2 <;> simp
  rw [m3]
  cases e3 : (atF fs ⟨1, no, 3⟩ day a).2
  · rfl
  rw [e3] at h
  simp only [Bool.not_true, cond_false] at h ⊢
  have m4 : atF fs ⟨1, no, 4⟩ day b = atF fs ⟨1, no, 4⟩ day a := by
    refine (h (rdF ⟨1, no, 4⟩ day) ?_).symm
    generalize rightF _ = v
    cases v <;> cases (atF fs ⟨1, no, 4⟩ day a).2 <;> simp
  rw [m4]
theorem LotF_agree {fs : List GFact} {no day a b : Int} (h : ∀ r ∈ (LotF fs no day a).2.1, atF fs r.key day a = atF fs r.key day b) : LotF fs no day b = LotF fs no day a := by
  unfold LotF at h ⊢
  cases hd : decide (0 ≤ day) && decide (day < 1024)
  · rfl
  rw [hd] at h
  simp only [Bool.not_true, cond_false] at h ⊢
  have hm : manyF fs day b = manyF fs day a := by
    unfold manyF
    rw [h (rdF headK day) (by cases decide (0 ≤ no) && decide (no < manyF fs day a) <;> simp) |>.symm |> (fun e => show atF fs headK day b = atF fs headK day a from e)]
  rw [hm]
  cases hn : decide (0 ≤ no) && decide (no < manyF fs day a)
  · rfl
  rw [hn] at h
  simp only [cond_true] at h ⊢
  rw [lotF_agree fun r hr => h r (List.mem_cons_of_mem _ hr)]
end Bf
