/- Plain law: StockAll's model is true of all arguments. -/
import Derived.Test.YtedblpbpoekdlaaTD
import Derived.Test.YtedblpbpoekdlaaK2S
namespace Bf
open Go Go.RowKit Go.Proofs

theorem lotF_cases (fs : List GFact) (no day kn : Int) : ((lotF fs no day kn).2.2 = false ∧ (lotF fs no day kn).1 = lot0) ∨ ((lotF fs no day kn).2.2 = true ∧ (lotF fs no day kn).1.no_ = no ∧ rightF (lotF fs no day kn).1 = true) := by
  unfold lotF lotG
  simp only
  cases (atF fs ⟨1, no, 0⟩ day kn).2
  · exact .inl ⟨rfl, rfl⟩
  cases (atF fs ⟨1, no, 1⟩ day kn).2
  · exact .inl ⟨rfl, rfl⟩
  cases (atF fs ⟨1, no, 2⟩ day kn).2
  · exact .inl ⟨rfl, rfl⟩
  cases (atF fs ⟨1, no, 3⟩ day kn).2
  · exact .inl ⟨rfl, rfl⟩
  cases (atF fs ⟨1, no, 4⟩ day kn).2
  · exact .inl ⟨rfl, rfl⟩
  simp only [Bool.not_true, cond_false]
  cases hr : rightF ⟨no, (atF fs ⟨1, no, 0⟩ day kn).1, (atF fs ⟨1, no, 1⟩ day kn).1, (atF fs ⟨1, no, 2⟩ day kn).1, (atF fs ⟨1, no, 3⟩ day kn).1, (atF fs ⟨1, no, 4⟩ day kn).1⟩
  · exact .inl ⟨rfl, rfl⟩
  · exact .inr ⟨rfl, rfl, hr⟩
theorem lotsGo_pre (fs : List GFact) (day kn : Int) : ∀ (n : Nat) (i : Int) (s : List GLot × List GRead), ∃ t u, (lotsGo fs day kn n i s).1 = s.1 ++ t ∧ (lotsGo fs day kn n i s).2 = s.2 ++ u ∧ u.length ≤ 5 * n
  | 0, _, s => ⟨[], [], by simp [lotsGo], by simp [lotsGo], by simp⟩
  | n + 1, i, s => by
    rw [lotsGo]
    obtain ⟨t, u, h1, h2, h3⟩ := lotsGo_pre fs day kn n (i + 1) (bif (lotF fs i day kn).2.2 then s.1 ++ [(lotF fs i day kn).1] else s.1, s.2 ++ (lotF fs i day kn).2.1)
    have h5 := lotF_len fs i day kn
    refine ⟨(bif (lotF fs i day kn).2.2 then [(lotF fs i day kn).1] else []) ++ t, (lotF fs i day kn).2.1 ++ u, ?_, by rw [h2]; simp, by simp; omega⟩
    rw [h1]
    cases (lotF fs i day kn).2.2 <;> simp
theorem all_go {fs : List GFact} {day kn : Int} {L : List GLot × List GRead} {B : Int → Int × Int → (Int × Int → Option Bool) → Option Bool} {K : Int × Int → Option Bool} (hd : (decide (0 ≤ day) && decide (day < 1024)) = true) (hM : manyF fs day kn ≤ 8) (hL1 : L.1.length ≤ 100) (hL2 : L.2.length ≤ 1000)
    (hB : ∀ k7 s5 loop6, B k7 s5 loop6 = jn (fun (p19 : Int) (p20 : Int) => loop6 (p19, p20)) fun j18 => bd (some (LotF fs k7 day kn)) fun x21 => jn (fun (p24 : Int) => bif !x21.2.2 then (bif !(GLot.eqb x21.1 (⟨0, 0, 0, 0, 0, 0⟩ : GLot)) then (some false) else (j18 s5.1 p24)) else (bdc (!(decide (((L.1.length : Nat) : Int) ≤ s5.1))) (idx L.1 s5.1) fun x25 => bdc (!(bif bif decide (((L.1.length : Nat) : Int) ≤ s5.1) then true else !(GLot.eqb x25 x21.1) then true else x21.1.no_ != k7)) (backflushref18_Right_m x21.1) fun x26 => bif bif bif bif decide (((L.1.length : Nat) : Int) ≤ s5.1) then true else !(GLot.eqb x25 x21.1) then true else x21.1.no_ != k7 then true else !x26 then (some false) else (j18 (wr (s5.1 + 1)) p24))) fun j23 => bif decide (0 < ((x21.2.1.length : Nat) : Int)) then (j23 (wr (s5.2 + (wr (((x21.2.1.length : Nat) : Int) - 1))))) else (j23 s5.2))
    (hK : K (((L.1.length : Nat) : Int), ((L.2.length : Nat) : Int) - 1) = some true) :
    ∀ (n : Nat) (i : Int) (s : List GLot × List GRead), i + (n : Int) = 10 → 0 ≤ i → lotsGo fs day kn (manyF fs day kn - i).toNat i s = L → forNg B K n i (((s.1.length : Nat) : Int), ((s.2.length : Nat) : Int) - 1) = some true := by
  intro n
  induction n with
  | zero =>
    intro i s hi h0 hs
    rw [show (manyF fs day kn - i).toNat = 0 by omega] at hs
    rw [lotsGo] at hs
    subst hs
    exact hK
  | succ n ih =>
    intro i s hi h0 hs
    obtain ⟨t, u, p1, p2, p3⟩ := lotsGo_pre fs day kn (manyF fs day kn - i).toNat i s
    rw [hs] at p1 p2
    have hs1 : s.1.length ≤ 100 := by have := congrArg List.length p1; simp at this; omega
    have hs2 : s.2.length ≤ 1000 := by have := congrArg List.length p2; simp at this; omega
    rw [forNg, hB]
    simp only [jn]
    rw [bd_some rfl]
    have hLot : LotF fs i day kn = (bif decide (i < manyF fs day kn) then ((lotF fs i day kn).1, rdF headK day :: (lotF fs i day kn).2.1, (lotF fs i day kn).2.2) else (lot0, [rdF headK day], false)) := by
      unfold LotF
      rw [hd, decide_eq_true h0]
      rfl
    have hlen0 : GLot.eqb lot0 (⟨0, 0, 0, 0, 0, 0⟩ : GLot) = true := rfl
    by_cases hlt : i < manyF fs day kn
    · rw [hLot, decide_eq_true hlt]
      simp only [cond_true]
      have h5 := lotF_len fs i day kn
      have hpos : decide ((0 : Int) < (((rdF headK day :: (lotF fs i day kn).2.1).length : Nat) : Int)) = true := decide_eq_true (by simp <;> omega)
      rw [hpos]
      simp only [cond_true]
      have hm : (manyF fs day kn - i).toNat = (manyF fs day kn - (i + 1)).toNat + 1 := by omega
      rw [hm, lotsGo] at hs
      have hq : wr ((((s.2.length : Nat) : Int) - 1) + wr ((((rdF headK day :: (lotF fs i day kn).2.1).length : Nat) : Int) - 1)) = (((s.2 ++ (lotF fs i day kn).2.1).length : Nat) : Int) - 1 := by
        simp only [List.length_cons, List.length_append]
        rw [wr_id (show -9223372036854775808 ≤ (((lotF fs i day kn).2.1.length + 1 : Nat) : Int) - 1 by omega) (by omega), wr_id (by omega) (by omega)]
        omega
      rw [hq]
      rcases lotF_cases fs i day kn with ⟨c1, c2⟩ | ⟨c1, c2, c3⟩
      · rw [c1] at hs
        rw [c1, c2, hlen0]
        simp only [Bool.not_false, Bool.not_true, cond_true, cond_false] at hs ⊢
        exact ih (i + 1) (s.1, s.2 ++ (lotF fs i day kn).2.1) (by omega) (by omega) hs
      · rw [c1] at hs
        rw [c1]
        simp only [Bool.not_true, cond_true, cond_false] at hs ⊢
        obtain ⟨t', u', q1, q2, q3⟩ := lotsGo_pre fs day kn (manyF fs day kn - (i + 1)).toNat (i + 1) (s.1 ++ [(lotF fs i day kn).1], s.2 ++ (lotF fs i day kn).2.1)
        rw [hs] at q1
        have hx : L.1[s.1.length]? = some (lotF fs i day kn).1 := by rw [q1]; simp
        have hlt2 : s.1.length < L.1.length := (List.getElem?_eq_some_iff.1 hx).1
        have hge : decide (((L.1.length : Nat) : Int) ≤ ((s.1.length : Nat) : Int)) = false := decide_eq_false (by omega)
        have heq : GLot.eqb (lotF fs i day kn).1 (lotF fs i day kn).1 = true := (GLot.eqb_iff _ _).2 rfl
        have hno : ((lotF fs i day kn).1.no_ != i) = false := by rw [c2]; simp
        rw [hge, bdc_t (show (!false) = true from rfl), bd_some (show idx L.1 ((s.1.length : Nat) : Int) = some (lotF fs i day kn).1 by rw [idx_nat]; exact hx), heq, hno]
        rw [bdc_t (show (!(bif bif false then true else !true then true else false)) = true from rfl), bd_some (ref_right _), c3]
        simp only [Bool.not_true, cond_false]
        have := ih (i + 1) (s.1 ++ [(lotF fs i day kn).1], s.2 ++ (lotF fs i day kn).2.1) (by omega) (by omega) hs
        rw [wr_id (by omega) (by omega)]
        rw [show ((((s.1 ++ [(lotF fs i day kn).1], s.2 ++ (lotF fs i day kn).2.1) : List GLot × List GRead).1.length : Nat) : Int) = ((s.1.length : Nat) : Int) + 1 by simp] at this
        exact this
    · rw [hLot, decide_eq_false hlt]
      simp only [cond_false]
      rw [show decide ((0 : Int) < ((([rdF headK day] : List GRead).length : Nat) : Int)) = true from rfl]
      simp only [cond_true]
      have hq : wr ((((s.2.length : Nat) : Int) - 1) + wr (((([rdF headK day] : List GRead).length : Nat) : Int) - 1)) = ((s.2.length : Nat) : Int) - 1 := by
        rw [show wr (((([rdF headK day] : List GRead).length : Nat) : Int) - 1) = 0 from rfl, wr_id (by omega) (by omega)]
        omega
      rw [hq, hlen0]
      simp only [Bool.not_false, Bool.not_true, cond_true, cond_false]
      refine ih (i + 1) s (by omega) (by omega) ?_
      rw [show (manyF fs day kn - i).toNat = 0 by omega] at hs
      rw [show (manyF fs day kn - (i + 1)).toNat = 0 by omega]
      exact hs
theorem fewF_len {fs : List GFact} (h : fewF fs = true) : fs.length ≤ 60 := by
  unfold fewF at h
  simp only [Bool.and_eq_true, decide_eq_true_eq] at h
  exact h.2
theorem stockAll_true (a0 : GWorld) (a1 a2 : Int) (w0 : GWorld.wf a0) : backflushlaw18_StockAll_m a0 a1 a2 = some true := by
  have hlen : a0.facts.length ≤ 9223372036854775807 := w0.2.1
  unfold backflushlaw18_StockAll_m
  rw [bd_some sane18]
  simp only [Bool.not_true, cond_false]
  rw [bd_some (few18 a0 hlen)]
  cases hf : fewF a0.facts
  · rfl
  simp only [Bool.not_true, cond_false]
  rw [bd_some (stock_Lots a0 a1 a2)]
  have hM := few_many hf a1 a2
  cases hd : decide (0 ≤ a1) && decide (a1 < 1024)
  · have hL : LotsF a0.facts a1 a2 = ([], []) := by unfold LotsF; rw [hd]; rfl
    have hday : (decide (a1 < 0) || decide (1024 ≤ a1)) = true := by
      rw [Bool.and_eq_false_iff, decide_eq_false_iff_not, decide_eq_false_iff_not] at hd
      rw [Bool.or_eq_true, decide_eq_true_eq, decide_eq_true_eq]
      omega
    have hLot : ∀ i, LotF a0.facts i a1 a2 = (lot0, [], false) := fun i => by unfold LotF; rw [hd]; rfl
    rw [hL]
    simp only [cond_or, hday, cond_true]
    unfold forN
    rw [gd_true (by decide), show ((10 : Int) - 0).toNat = 10 from rfl]
    have key : ∀ (B : Int → Int × Int → (Int × Int → Option Bool) → Option Bool) (K : Int × Int → Option Bool), (∀ i c, B i (0, 0) c = c (0, 0)) → K (0, 0) = some true → ∀ (n : Nat) (i : Int), forNg B K n i (0, 0) = some true := by
      intro B K hB hK n
      induction n with
      | zero => intro i; exact hK
      | succ n ih => intro i; rw [forNg, hB]; exact ih (i + 1)
    refine key _ _ (fun i c => ?_) rfl 10 0
    show jn _ _ = _
    simp only [jn]
    rw [bd_some (stock_Lot a0 i a1 a2), hLot]
    rfl
  · have hL : LotsF a0.facts a1 a2 = lotsGo a0.facts a1 a2 (manyF a0.facts a1 a2).toNat 0 ([], [rdF headK a1]) := by unfold LotsF; rw [hd]; rfl
    have hday : (decide (a1 < 0) || decide (1024 ≤ a1)) = false := by
      simp only [Bool.and_eq_true, decide_eq_true_eq] at hd
      rw [Bool.or_eq_false_iff, decide_eq_false_iff_not, decide_eq_false_iff_not]
      omega
    obtain ⟨t, u, q1, q2, q3⟩ := lotsGo_pre a0.facts a1 a2 (manyF a0.facts a1 a2).toNat 0 ([], [rdF headK a1])
    have q4 := lotsGo_len a0.facts a1 a2 (manyF a0.facts a1 a2).toNat 0 ([], [rdF headK a1])
    rw [hL]
    simp only [cond_or, hday, cond_false]
    have l1 : (lotsGo a0.facts a1 a2 (manyF a0.facts a1 a2).toNat 0 ([], [rdF headK a1])).1.length ≤ 8 := by simp at q4; omega
    have l2 : (lotsGo a0.facts a1 a2 (manyF a0.facts a1 a2).toNat 0 ([], [rdF headK a1])).2.length ≤ 41 := by rw [q2]; simp; omega
    have l3 : 1 ≤ (lotsGo a0.facts a1 a2 (manyF a0.facts a1 a2).toNat 0 ([], [rdF headK a1])).2.length := by rw [q2]; simp
    unfold forN
    rw [gd_true (by decide), show ((10 : Int) - 0).toNat = 10 from rfl]
    refine all_go (fs := a0.facts) (day := a1) (kn := a2) (L := lotsGo a0.facts a1 a2 (manyF a0.facts a1 a2).toNat 0 ([], [rdF headK a1])) hd hM.2 (by omega) (by omega) (fun k7 s5 loop6 => ?_) ?_ 10 0 ([], [rdF headK a1]) rfl (by omega) (by rw [Int.sub_zero])
    · rw [← stock_Lot a0 k7 a1 a2]
      simp only [cond_or]
    · show some _ = _
      rw [wr_id (by omega) (by omega)]
      simp
end Bf
