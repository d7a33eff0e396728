/- Plain laws: what can be used, in order (stock); what was read alike. -/
import Derived.Test.YtedblpbpoekdlaaUD
namespace Bf
open Go Go.RowKit Go.Proofs

/-! #### The sort ends, and loses nothing of the length -/
theorem ins_iter {cmp : GLot → GLot → Option Int} (hc : ∀ a b, ∃ v, cmp a b = some v) {n : Nat} (hn : n ≤ 1000) : ∀ (j fuel : Nat) (s : List GLot), j < fuel → s.length = n → j < n → ∃ s', s'.length = n ∧ ∀ loop2 : List GLot → Option (List GLot),
    iter (fun (s13 : Int × (List GLot)) loop14 => bdc (decide ((0 : Int) < s13.1)) (idx s13.2 s13.1) fun x17 => bdc (decide ((0 : Int) < s13.1)) (idx s13.2 (wr (s13.1 - 1))) fun x18 => bdc (decide ((0 : Int) < s13.1)) (cmp x17 x18) fun x19 => bif bif decide ((0 : Int) < s13.1) then decide (x19 < 0) else false then (bd (idx s13.2 (wr (s13.1 - 1))) fun x20 => bd (idx s13.2 s13.1) fun x21 => bd (idx ((s13.2).set (s13.1).toNat x20) (wr (s13.1 - 1))) fun x22 => loop14 (wr (s13.1 - 1), ((s13.2).set (s13.1).toNat x20).set (wr (s13.1 - 1)).toNat x21)) else (loop2 s13.2)) fuel ((j : Int), s) = loop2 s'
  | 0, fuel + 1, s, _, hs, _ => ⟨s, hs, fun loop2 => by rw [iter]; rfl⟩
  | j + 1, fuel + 1, s, hf, hs, hj => by
    have h0 : decide ((0 : Int) < ((j + 1 : Nat) : Int)) = true := decide_eq_true (by omega)
    have e1 : idx s ((j + 1 : Nat) : Int) = some (s[j + 1]'(by omega)) := by rw [idx_nat]; exact List.getElem?_eq_getElem _
    have ew : wr (((j + 1 : Nat) : Int) - 1) = (j : Int) := by rw [wr_id (by omega) (by omega)]; omega
    have e2 : idx s (j : Int) = some (s[j]'(by omega)) := by rw [idx_nat]; exact List.getElem?_eq_getElem _
    obtain ⟨v, hv⟩ := hc (s[j + 1]'(by omega)) (s[j]'(by omega))
    by_cases hneg : v < 0
    · obtain ⟨s', h1, h2⟩ := ins_iter hc hn j fuel ((s.set (j + 1) (s[j]'(by omega))).set j (s[j + 1]'(by omega))) (by omega) (by rw [List.length_set, List.length_set]; exact hs) (by omega)
      refine ⟨s', h1, fun loop2 => ?_⟩
      rw [iter]
      simp only [h0]
      rw [bdc_t rfl, bd_some e1, bdc_t rfl, ew, bd_some e2, bdc_t rfl, bd_some hv, decide_eq_true hneg]
      simp only [cond_true]
      rw [bd_some e2, bd_some e1]
      have e3 : idx (s.set ((j + 1 : Nat) : Int).toNat (s[j]'(by omega))) (j : Int) = some (s[j]'(by omega)) := by
        rw [idx_nat, show ((j + 1 : Nat) : Int).toNat = j + 1 by omega, List.getElem?_set_ne (by omega)]; exact List.getElem?_eq_getElem _
      rw [bd_some e3, show ((j + 1 : Nat) : Int).toNat = j + 1 by omega, show ((j : Nat) : Int).toNat = j by omega]
      exact h2 loop2
    · refine ⟨s, hs, fun loop2 => ?_⟩
      rw [iter]
      simp only [h0]
      rw [bdc_t rfl, bd_some e1, bdc_t rfl, ew, bd_some e2, bdc_t rfl, bd_some hv, decide_eq_false hneg]
      rfl
theorem sort_go {l : List GLot} {B : Int → List GLot → (List GLot → Option (List GLot)) → Option (List GLot)} (hl : l.length ≤ 1000) (hB : ∀ (k : Nat) s, k < l.length → s.length = l.length → ∃ s', (∀ c, B (k : Int) s c = c s') ∧ s'.length = l.length) : ∃ l', forN 1 ((l.length : Nat) : Int) B (fun s => some s) l = some l' ∧ l'.length = l.length := by
  obtain ⟨s', h1, h2⟩ := forN_ex (body := B) (lo := 1) (hi := ((l.length : Nat) : Int)) (fun _ s => s.length = l.length) l (by decide) (by omega) (fun j s hj hj2 hP => by
    obtain ⟨k, rfl⟩ : ∃ k : Nat, j = (k : Int) := ⟨j.toNat, by omega⟩
    exact hB k s (by omega) hP) rfl
  exact ⟨s', h1 _, h2⟩
theorem ins_sort {cmp : GLot → GLot → Option Int} (hc : ∀ a b, ∃ v, cmp a b = some v) (l : List GLot) (hl : l.length ≤ 1000) : ∃ l', slices_insertionSortCmpFunc_Lot_m l 0 ((l.length : Nat) : Int) cmp = some l' ∧ l'.length = l.length := by
  unfold slices_insertionSortCmpFunc_Lot_m
  rw [show wr (0 + 1) = 1 from rfl]
  refine sort_go hl fun k s hk hs => ?_
  obtain ⟨s', h1, h2⟩ := ins_iter hc hl k 1048576 s (by omega) hs hk
  exact ⟨s', fun c => h2 c, h1⟩
theorem sort_ok {cmp : GLot → GLot → Option Int} (hc : ∀ a b, ∃ v, cmp a b = some v) (l : List GLot) (hl : l.length ≤ 19) : ∃ l', slices_SortStableFunc_Lot_m l cmp = some l' ∧ l'.length = l.length := by
  obtain ⟨l', h1, h2⟩ := ins_sort hc l (by omega)
  refine ⟨l', ?_, h2⟩
  have e : slices_stableCmpFunc_Lot_m l ((l.length : Nat) : Int) cmp = some l' := by
    unfold slices_stableCmpFunc_Lot_m
    rw [show (1048576 : Nat) = 1048575 + 1 from rfl, iter]
    rw [show decide ((20 : Int) ≤ ((l.length : Nat) : Int)) = false from decide_eq_false (by omega)]
    simp only [cond_false]
    rw [bd_some h1, gd_true (decide_eq_true h2), iter]
    rw [show decide ((20 : Int) < ((l.length : Nat) : Int)) = false from decide_eq_false (by omega)]
    rfl
  unfold slices_SortStableFunc_Lot_m
  rw [bd_some e]
  exact gd_true (decide_eq_true h2)

/-! #### What can be used -/
def useP (line : GLine) (day : Int) (x : GLot) : Bool := x.item == line.item && x.plant == line.plant && x.state == 0 && decide (day < x.expiry)
def sortU (l : List GLot) : List GLot := (slices_SortStableFunc_Lot_m l (fun y0 y1 => stock_Usable_1_m y0 y1)).getD []
def UsableF (fs : List GFact) (line : GLine) (day kn : Int) : List GLot × List GRead :=
  bif line.config != 0 then ([], []) else (sortU ((LotsF fs day kn).1.filter (useP line day)), (LotsF fs day kn).2)
theorem LotsF_len {fs : List GFact} (h : fewF fs = true) (day kn : Int) : (LotsF fs day kn).1.length ≤ 8 := by
  unfold LotsF
  cases decide (0 ≤ day) && decide (day < 1024)
  · simp
  · simp only [Bool.not_true, cond_false]
    have := lotsGo_len fs day kn (manyF fs day kn).toNat 0 ([], [rdF headK day])
    have := few_many h day kn
    simp at *
    omega
theorem filter_go {p : GLot → Bool} {R : Type} {B : Nat → GLot → List GLot → (List GLot → Option R) → Option R} {K : List GLot → Option R} (hB : ∀ k x s c, s.length ≤ 1000 → B k x s c = c (bif p x then s ++ [x] else s)) : ∀ (xs : List GLot) (k : Nat) (s : List GLot), s.length + xs.length ≤ 1000 → forLg B K k xs s = K (s ++ xs.filter p)
  | [], _, s, _ => by simp [forLg]
  | x :: xs, k, s, h => by
    rw [forLg, hB k x s _ (by simp at h; omega)]
    cases hp : p x
    · simp only [cond_false]; rw [filter_go hB xs (k + 1) s (by simp at h; omega), List.filter_cons, hp]; rfl
    · simp only [cond_true]; rw [filter_go hB xs (k + 1) (s ++ [x]) (by simp at h ⊢; omega), List.filter_cons, hp]; simp
theorem stock_Usable (w : GWorld) (line : GLine) (day kn : Int) (h : fewF w.facts = true) : stock_Usable_m w line day kn = some (UsableF w.facts line day kn) := by
  unfold stock_Usable_m UsableF
  cases line.config != 0
  case true => rfl
  simp only [cond_false]
  rw [bd_some (stock_Lots w day kn)]
  simp only [forL]
  have hlen := LotsF_len h day kn
  rw [filter_go (p := useP line day) (fun k x s c hs => ?_) (LotsF w.facts day kn).1 0 [] (by simp; omega)]
  · simp only [List.nil_append]
    obtain ⟨l', h1, h2⟩ := sort_ok (cmp := fun y0 y1 => stock_Usable_1_m y0 y1) (fun a b => by unfold stock_Usable_1_m; rw [cmpc]; exact ⟨_, rfl⟩) ((LotsF w.facts day kn).1.filter (useP line day)) (Nat.le_trans (List.length_filter_le _ _) (by omega))
    rw [bd_some h1, gd_true (decide_eq_true h2)]
    unfold sortU
    rw [h1]
    rfl
  · show jn _ _ = _
    simp only [jn, cond_and, useP]
    cases x.item == line.item && x.plant == line.plant && x.state == 0 && decide (day < x.expiry)
    · rfl
    · simp only [cond_true]
      exact gd_true (decide_eq_true (by simp only [List.length_cons, List.length_nil]; omega))

/-! #### What was read alike -/
theorem lotsGo_reads (fs : List GFact) (day kn : Int) : ∀ (n : Nat) (i : Int) (s : List GLot × List GRead), ∃ u, (lotsGo fs day kn n i s).2 = s.2 ++ u
  | 0, _, s => ⟨[], by simp [lotsGo]⟩
  | n + 1, i, s => by
    rw [lotsGo]
    obtain ⟨u, h⟩ := lotsGo_reads fs day kn n (i + 1) (bif (lotF fs i day kn).2.2 then s.1 ++ [(lotF fs i day kn).1] else s.1, s.2 ++ (lotF fs i day kn).2.1)
    exact ⟨(lotF fs i day kn).2.1 ++ u, by rw [h]; simp⟩
theorem lotsGo_agree {fs : List GFact} {day a b : Int} : ∀ (n : Nat) (i : Int) (s : List GLot × List GRead), (∀ r ∈ (lotsGo fs day a n i s).2, atF fs r.key day a = atF fs r.key day b) → lotsGo fs day b n i s = lotsGo fs day a n i s
  | 0, _, _, _ => rfl
  | n + 1, i, s, h => by
    rw [lotsGo] at h ⊢
    rw [lotsGo]
    obtain ⟨u, hu⟩ := lotsGo_reads fs day a n (i + 1) (bif (lotF fs i day a).2.2 then s.1 ++ [(lotF fs i day a).1] else s.1, s.2 ++ (lotF fs i day a).2.1)
    have e : lotF fs i day b = lotF fs i day a := lotF_agree fun r hr => h r (by rw [hu]; simp [hr])
    rw [e]
    exact lotsGo_agree n (i + 1) _ h
theorem lotsGo_day (fs : List GFact) (day kn : Int) : ∀ (n : Nat) (i : Int) (s : List GLot × List GRead), dayReads day s.2 → dayReads day (lotsGo fs day kn n i s).2
  | 0, _, _, h => h
  | n + 1, i, s, h => by
    rw [lotsGo]
    refine lotsGo_day fs day kn n (i + 1) _ fun r hr => ?_
    rcases List.mem_append.1 hr with hr | hr
    · exact h r hr
    · exact lotF_day fs i day kn r hr
theorem LotsF_day (fs : List GFact) (day kn : Int) : dayReads day (LotsF fs day kn).2 := by
  unfold LotsF
  cases decide (0 ≤ day) && decide (day < 1024)
  · exact dayReads_nil day
  · exact lotsGo_day fs day kn _ 0 _ (dayReads_cons headK (dayReads_nil day))
theorem LotsF_agree {fs : List GFact} {day a b : Int} (h : ∀ r ∈ (LotsF fs day a).2, atF fs r.key day a = atF fs r.key day b) : LotsF fs day b = LotsF fs day a := by
  unfold LotsF at h ⊢
  cases hd : decide (0 ≤ day) && decide (day < 1024)
  · rfl
  rw [hd] at h
  simp only [Bool.not_true, cond_false] at h ⊢
  obtain ⟨u, hu⟩ := lotsGo_reads fs day a (manyF fs day a).toNat 0 ([], [rdF headK day])
  have e : atF fs headK day a = atF fs headK day b := h (rdF headK day) (by rw [hu]; simp)
  have hm : manyF fs day b = manyF fs day a := by unfold manyF; rw [e]
  rw [hm]
  exact lotsGo_agree _ 0 _ h
/-- Whatever the day: what was read alike, if it is found so, was read alike. -/
theorem alike' (fs : List GFact) (rs : List GRead) (day a b : Int) (hr : dayReads day rs) (hn : ¬ (0 ≤ day ∧ day < 1024) → rs = []) : ∃ v, facts_Alike_m fs rs a b = some v ∧ (v = true → ∀ r ∈ rs, atF fs r.key day a = atF fs r.key day b) := by
  by_cases hd : 0 ≤ day ∧ day < 1024
  · obtain ⟨v, h1, h2⟩ := alike fs rs day a b hd.1 hd.2 hr
    exact ⟨v, h1, h2.1⟩
  · rw [hn hd]
    exact ⟨true, rfl, fun _ r hr => by cases hr⟩
theorem day_bad {day : Int} (h : ¬ (0 ≤ day ∧ day < 1024)) : (decide (0 ≤ day) && decide (day < 1024)) = false := by
  rw [Bool.and_eq_false_iff, decide_eq_false_iff_not, decide_eq_false_iff_not]; omega
end Bf
