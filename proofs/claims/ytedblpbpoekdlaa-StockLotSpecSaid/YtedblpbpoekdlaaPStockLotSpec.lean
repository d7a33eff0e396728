/- Plain law: StockLotSpec's model is true of all arguments. -/
import Derived.Test.YtedblpbpoekdlaaUG
import Derived.Test.YtedblpbpoekdlaaK2U
namespace Bf
open Go Go.RowKit Go.Proofs

theorem refLots_go {w : GWorld} {day kn : Int} {B : Int → List GLot × List GRead → (List GLot × List GRead → Option (List GLot × List GRead)) → Option (List GLot × List GRead)}
    (hB : ∀ i s c, s.1.length ≤ 1200 → s.2.length ≤ 8000 → B i s c = c (bif (lotF w.facts i day kn).2.2 then s.1 ++ [(lotF w.facts i day kn).1] else s.1, s.2 ++ (lotF w.facts i day kn).2.1)) : ∀ (n : Nat) (i : Int) (s : List GLot × List GRead), s.1.length + n ≤ 1200 → s.2.length + 5 * n ≤ 8000 → forNg B (fun s => some (s.1, s.2)) n i s = some (lotsGo w.facts day kn n i s)
  | 0, _, s, _, _ => rfl
  | n + 1, i, s, h1, h2 => by
    rw [forNg, hB i s _ (by omega) (by omega), lotsGo]
    have := lotF_len w.facts i day kn
    refine refLots_go hB n (i + 1) _ ?_ ?_
    · cases (lotF w.facts i day kn).2.2 <;> simp <;> omega
    · simp; omega
theorem ref_Lots (w : GWorld) (day kn : Int) : backflushref18_Lots_m w day kn = some (LotsF w.facts day kn) := by
  unfold backflushref18_Lots_m backflushref18_Day_m LotsF
  rw [bd_some rfl]
  simp only [cond_and]
  cases hd : decide (0 ≤ day) && decide (day < 1024)
  · rfl
  simp only [Bool.not_true, cond_false]
  rw [bd_some (show backflushref18_head_m = some headK from rfl)]
  have hmany : backflushref18_many_m w day kn = some (manyF w.facts day kn) := by
    unfold backflushref18_many_m backflushref18_Day_m
    rw [bd_some rfl]
    simp only [cond_and]
    rw [hd]
    simp only [Bool.not_true, cond_false]
    rw [bd_some (show backflushref18_head_m = some headK from rfl), bd_some (ref_At w.facts headK day kn)]
    unfold manyF
    congr 1
    omega
  rw [bd_some hmany]
  have hm := manyF_le w.facts day kn
  unfold forN
  rw [gd_true (by simp only [decide_eq_true_eq]; omega)]
  rw [show (manyF w.facts day kn - 0).toNat = (manyF w.facts day kn).toNat by omega]
  refine refLots_go (w := w) (day := day) (kn := kn) (fun i s c h1 h2 => ?_) (manyF w.facts day kn).toNat 0 ([], [rdF headK day]) (by simp; omega) (by simp; omega)
  show jn _ _ = _
  simp only [jn]
  rw [bd_some (ref_lot w i day kn)]
  have := lotF_len w.facts i day kn
  rw [gd_true (decide_eq_true (by omega))]
  cases h : (lotF w.facts i day kn).2.2
  · rfl
  · simp only [cond_true]
    exact gd_true (decide_eq_true (by simp only [List.length_cons, List.length_nil]; omega))
/-- Looking for the place from the end. -/
theorem ref_iter {R : Type} (s5 : List GLot) (x10 : GLot) (hs : s5.length ≤ 1000) (j13 : List GLot → Option R) : ∀ (j fuel : Nat), j ≤ s5.length → j < fuel →
    iter (fun (s16 : Int) loop17 => bdc (decide (0 < s16)) (idx s5 (wr (s16 - 1))) fun x19 => bif bif decide (0 < s16) then decide (x10.expiry < x19.expiry) else false then (loop17 (wr (s16 - 1))) else (gd (decide (0 ≤ s16)) <| gd (decide (s16.toNat ≤ s5.length)) <| gd (decide ((([x10] : List GLot).length + (s5.drop (s16.toNat)).length) * 49 ≤ 140737488355328)) <| gd (decide (0 ≤ s16)) <| gd (decide (0 ≤ s16.toNat ∧ s16.toNat ≤ s5.length)) <| gd (decide ((([] : List GLot).length + ((s5.take (s16.toNat)).drop (0)).length) * 49 ≤ 140737488355328)) <| gd (decide (((([] : List GLot) ++ ((s5.take (s16.toNat)).drop (0))).length + (([x10] : List GLot) ++ (s5.drop (s16.toNat))).length) * 49 ≤ 140737488355328)) <| j13 ((([] : List GLot) ++ ((s5.take (s16.toNat)).drop (0))) ++ (([x10] : List GLot) ++ (s5.drop (s16.toNat)))))) fuel (j : Int) = j13 (s5.take (insAt s5 x10 j) ++ x10 :: s5.drop (insAt s5 x10 j)) := by
  have done : ∀ j : Nat, j ≤ s5.length → (gd (decide (0 ≤ (j : Int))) <| gd (decide ((j : Int).toNat ≤ s5.length)) <| gd (decide ((([x10] : List GLot).length + (s5.drop ((j : Int).toNat)).length) * 49 ≤ 140737488355328)) <| gd (decide (0 ≤ (j : Int))) <| gd (decide (0 ≤ (j : Int).toNat ∧ (j : Int).toNat ≤ s5.length)) <| gd (decide ((([] : List GLot).length + ((s5.take ((j : Int).toNat)).drop (0)).length) * 49 ≤ 140737488355328)) <| gd (decide (((([] : List GLot) ++ ((s5.take ((j : Int).toNat)).drop (0))).length + (([x10] : List GLot) ++ (s5.drop ((j : Int).toNat))).length) * 49 ≤ 140737488355328)) <| j13 ((([] : List GLot) ++ ((s5.take ((j : Int).toNat)).drop (0))) ++ (([x10] : List GLot) ++ (s5.drop ((j : Int).toNat))))) = j13 (s5.take j ++ x10 :: s5.drop j) := fun j hj => by
    rw [show ((j : Int)).toNat = j by omega]
    have h1 : (s5.drop j).length ≤ 1000 := by rw [List.length_drop]; omega
    have h2 : ((s5.take j).drop 0).length ≤ 1000 := by rw [List.length_drop, List.length_take]; omega
    rw [gd_true (decide_eq_true (by omega)), gd_true (decide_eq_true hj), gd_true (decide_eq_true (by simp only [List.length_cons, List.length_nil]; omega)), gd_true (decide_eq_true (by omega)), gd_true (decide_eq_true ⟨by omega, hj⟩), gd_true (decide_eq_true (by simp only [List.length_nil]; omega)), gd_true (decide_eq_true (by simp only [List.length_append, List.length_cons, List.length_nil]; omega))]
    simp
  intro j
  induction j with
  | zero =>
    intro fuel _ hf
    obtain ⟨fuel, rfl⟩ : ∃ f, fuel = f + 1 := ⟨fuel - 1, by omega⟩
    rw [iter]
    exact done 0 (Nat.zero_le _)
  | succ j ih =>
    intro fuel hj hf
    obtain ⟨fuel, rfl⟩ : ∃ f, fuel = f + 1 := ⟨fuel - 1, by omega⟩
    have h0 : decide ((0 : Int) < ((j + 1 : Nat) : Int)) = true := decide_eq_true (by omega)
    have ew : wr (((j + 1 : Nat) : Int) - 1) = (j : Int) := by rw [wr_id (by omega) (by omega)]; omega
    have e2 : s5[j]? = some (s5[j]'(by omega)) := List.getElem?_eq_getElem _
    rw [iter, h0, bdc_t rfl, ew, bd_some (show idx s5 (j : Int) = some (s5[j]'(by omega)) by rw [idx_nat]; exact e2)]
    simp only [cond_true]
    rw [insAt, e2]
    simp only
    by_cases hlt : x10.expiry < (s5[j]'(by omega)).expiry
    · rw [if_pos hlt, decide_eq_true hlt]
      simp only [cond_true]
      exact ih fuel (by omega) (by omega)
    · rw [if_neg hlt, decide_eq_false hlt]
      simp only [cond_false]
      exact done (j + 1) hj
theorem filter_fold {p : GLot → Bool} {R : Type} {B : Nat → GLot → List GLot → (List GLot → Option R) → Option R} {K : List GLot → Option R} (hB : ∀ k x s c, s.length ≤ 1000 → B k x s c = c (bif p x then insE s x else s)) : ∀ (xs : List GLot) (k : Nat) (s : List GLot), s.length + xs.length ≤ 1000 → forLg B K k xs s = K ((xs.filter p).foldl insE s)
  | [], _, s, _ => by simp [forLg]
  | x :: xs, k, s, h => by
    rw [forLg, hB k x s _ (by simp at h; omega), List.filter_cons]
    cases hp : p x
    · simp only [cond_false]; rw [filter_fold hB xs (k + 1) s (by simp at h; omega)]; rfl
    · simp only [cond_true]
      rw [filter_fold hB xs (k + 1) _ (by rw [(insE_perm s x).length_eq]; simp at h ⊢; omega)]
      rfl
theorem ref_Usable (w : GWorld) (line : GLine) (day kn : Int) (h : fewF w.facts = true) : backflushref18_Usable_m w line day kn = some (UsableF w.facts line day kn) := by
  unfold backflushref18_Usable_m UsableF
  cases line.config != 0
  case true => rfl
  simp only [cond_false]
  rw [bd_some (ref_Lots w day kn)]
  simp only [forL]
  have hlen := LotsF_len h day kn
  rw [filter_fold (p := useP line day) (fun k x s c hs => ?_) (LotsF w.facts day kn).1 0 [] (by simp; omega)]
  · rw [sortU_eq _ (Nat.le_trans (List.length_filter_le _ _) (by omega))]
    rfl
  · show jn _ _ = _
    simp only [jn]
    rw [show (bif bif bif x.item != line.item then true else x.plant != line.plant then true else x.state != 0 then true else decide (x.expiry ≤ day)) = !(useP line day x) from ?_]
    · cases useP line day x
      · rfl
      · simp only [Bool.not_true, cond_false, cond_true]
        exact ref_iter s x hs c s.length 1048576 (Nat.le_refl _) (by omega)
    · unfold useP
      simp only [cond_or, bne]
      rw [show decide (x.expiry ≤ day) = !(decide (day < x.expiry)) by rw [← decide_not]; exact decide_eq_decide.2 (by omega)]
      cases x.item == line.item <;> cases x.plant == line.plant <;> cases x.state == 0 <;> rfl
theorem stockLotSpec_true (a0 : GWorld) (a1 : GLine) (a2 a3 a4 : Int) (w0 : GWorld.wf a0) : backflushlaw18_StockLotSpec_m a0 a1 a2 a3 a4 = some true := by
  have hlen : a0.facts.length ≤ 9223372036854775807 := w0.2.1
  unfold backflushlaw18_StockLotSpec_m
  rw [bd_some sane18]
  simp only [Bool.not_true, cond_false]
  rw [bd_some (few18 a0 hlen)]
  cases hf : fewF a0.facts
  · rfl
  simp only [Bool.not_true, cond_false]
  have hb : ∀ (x : Int) (c : Unit → Option Bool), (bd (stock_Lot_m a0 x a3 a4) fun x17 => bd (backflushref18_Lot_m a0 x a3 a4) fun x19 => bdc (!(!(GLot.eqb x17.1 x19.1))) (backflushref04_SameReads_m x17.2.1 x19.2.1) fun x21 => bif bif bif !(GLot.eqb x17.1 x19.1) then true else !x21 then true else x17.2.2 != x19.2.2 then (some false) else (c ())) = c () := fun x c => by
    rw [bd_some (stock_Lot a0 x a3 a4), bd_some (ref_Lot a0 x a3 a4), (GLot.eqb_iff _ _).2 rfl, bdc_t (show (!(!true)) = true from rfl), same_reads, bd_some rfl, decide_eq_true rfl, bne_self_eq_false]
    rfl
  unfold forN
  rw [gd_true (by simp)]
  show forNg _ _ 3 0 () = some true
  rw [forNg, bd_some (show idx ([a2, 0, 1] : List Int) 0 = some a2 from rfl), hb, forNg, bd_some (show idx ([a2, 0, 1] : List Int) (0 + 1) = some 0 from rfl), hb, forNg, bd_some (show idx ([a2, 0, 1] : List Int) (0 + 1 + 1) = some 1 from rfl), hb, forNg]
  rw [bd_some (stock_Lots a0 a3 a4), bd_some (ref_Lots a0 a3 a4), bd_some (stock_Usable a0 a1 a3 a4 hf), bd_some (ref_Usable a0 a1 a3 a4 hf), same_lots, bd_some rfl, decide_eq_true rfl, bdc_t rfl, same_reads, bd_some rfl, decide_eq_true rfl, bdc_t (show (bif true then true else false) = true from rfl), same_lots, bd_some rfl, decide_eq_true rfl, bdc_t (show (bif bif true then true else false then true else false) = true from rfl), same_reads, bd_some rfl, decide_eq_true rfl]
  rfl
end Bf
