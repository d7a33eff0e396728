/- Plain law: StockPast's model is true of all arguments. -/
import Derived.Test.YtedblpbpoekdlaaUG
import Derived.Test.YtedblpbpoekdlaaK2U
namespace Bf
open Go Go.RowKit Go.Proofs

theorem indexF (fs : List GFact) (kn : Int) : ∃ n : Int, slices_IndexFunc_Fact_m fs (fun y0 => facts_Upto_1_m y0 kn) = some n ∧ ((n = -1 ∧ ∀ x ∈ fs, x.known ≤ kn) ∨ (0 ≤ n ∧ n.toNat < fs.length ∧ ∀ x ∈ fs.take n.toNat, x.known ≤ kn)) ∧ (n ≠ -1 → ∃ x, fs[n.toNat]? = some x ∧ kn < x.known) := by
  unfold slices_IndexFunc_Fact_m
  simp only [forL]
  have key : ∀ (xs pre : List GFact), fs = pre ++ xs → (∀ x ∈ pre, x.known ≤ kn) → ∃ n : Int, forLg (fun (k3 : Nat) (x5 : GFact) (s1 : Unit) (loop2 : Unit → Option Int) => bd (facts_Upto_1_m x5 kn) fun x8 => bif x8 then (some ((k3 : Nat) : Int)) else (loop2 ())) (fun (s1 : Unit) => some (-1)) pre.length xs () = some n ∧ ((n = -1 ∧ ∀ x ∈ fs, x.known ≤ kn) ∨ (0 ≤ n ∧ n.toNat < fs.length ∧ ∀ x ∈ fs.take n.toNat, x.known ≤ kn)) ∧ (n ≠ -1 → ∃ x, fs[n.toNat]? = some x ∧ kn < x.known) := by
    intro xs
    induction xs with
    | nil =>
      intro pre h hp
      refine ⟨-1, rfl, .inl ⟨rfl, fun x hx => hp x (by rw [h] at hx; simpa using hx)⟩, fun h => absurd rfl h⟩
    | cons x xs ih =>
      intro pre h hp
      rw [forLg]
      unfold facts_Upto_1_m at ih ⊢
      rw [bd_some rfl]
      by_cases hk : kn < x.known
      · rw [decide_eq_true hk]
        refine ⟨(pre.length : Int), rfl, .inr ⟨by omega, by rw [h]; simp, fun y hy => hp y ?_⟩, fun _ => ⟨x, by rw [h]; simp, hk⟩⟩
        rw [h, Int.toNat_natCast, List.take_left] at hy
        exact hy
      · rw [decide_eq_false hk]
        have := ih (pre ++ [x]) (by rw [h]; simp) (fun y hy => by
          rcases List.mem_append.1 hy with hy | hy
          · exact hp y hy
          · rw [List.mem_singleton] at hy; subst hy; omega)
        rw [List.length_append] at this
        exact this
  exact key fs [] rfl (fun x hx => by cases hx)
def uptoF (fs : List GFact) (kn : Int) : List GFact := fs.filter (fun f => decide (f.known ≤ kn))
theorem filter_all {fs : List GFact} {kn : Int} (h : ∀ x ∈ fs, x.known ≤ kn) : uptoF fs kn = fs := List.filter_eq_self.2 fun x hx => decide_eq_true (h x hx)
theorem deleteF (fs : List GFact) (kn : Int) (hl : fs.length ≤ 1000) : ∃ e, slices_DeleteFunc_Fact_m fs (fun y0 => facts_Upto_1_m y0 kn) = some (uptoF fs kn, e) ∧ e.length = fs.length ∧ uptoF fs kn = e.take (uptoF fs kn).length := by
  unfold slices_DeleteFunc_Fact_m
  obtain ⟨n, h1, h2, h3⟩ := indexF fs kn
  rw [bd_some h1]
  rcases h2 with ⟨rfl, h2⟩ | ⟨h0, hlt, h2⟩
  · refine ⟨fs, ?_, rfl, ?_⟩
    · rw [filter_all h2]; rfl
    · rw [filter_all h2, List.take_length]
  rw [show (n == -1) = false from by simpa using fun e => by omega, cond_false]
  obtain ⟨i, rfl⟩ : ∃ i : Nat, n = (i : Int) := ⟨n.toNat, by omega⟩
  simp only [Int.toNat_natCast] at hlt h2 h3
  rw [wr_id (by omega) (by omega)]
  obtain ⟨x0, hx0, hk0⟩ := h3 (by omega)
  -- the loop
  have key : ∀ (m : Nat) (i j fuel : Nat) (s : List GFact), m = fs.length - j → j ≤ fs.length → i < j → m < fuel → s.length = fs.length → s.take i = uptoF (fs.take j) kn → s.drop j = fs.drop j →
      ∃ e, iter (fun (s2 : Int × Int × (List GFact)) (loop3 : Int × Int × (List GFact) → Option (List GFact × List GFact)) => bif decide (s2.2.1 < ((s2.2.2.length : Nat) : Int)) then (jn (fun (p8 : Int) (p9 : List GFact) => loop3 (p8, wr (s2.2.1 + 1), p9)) fun j7 => bd (idx s2.2.2 s2.2.1) fun x10 => bd (facts_Upto_1_m x10 kn) fun x12 => bif !x12 then (bd (idx s2.2.2 s2.1) fun x13 => j7 (wr (s2.1 + 1)) ((s2.2.2).set (s2.1).toNat x10)) else (j7 s2.1 s2.2.2)) else (gd (decide (0 ≤ s2.1)) <| gd (decide (s2.1.toNat < s2.2.2.length)) <| gd (decide (0 ≤ s2.1)) <| gd (decide (s2.1.toNat ≤ (clr (⟨(⟨0, 0, 0⟩ : GKey), 0, (⟨0, 0⟩ : GSpan), 0, 0⟩ : GFact) s2.1.toNat s2.2.2).length)) <| some ((clr (⟨(⟨0, 0, 0⟩ : GKey), 0, (⟨0, 0⟩ : GSpan), 0, 0⟩ : GFact) s2.1.toNat s2.2.2).take (s2.1.toNat), clr (⟨(⟨0, 0, 0⟩ : GKey), 0, (⟨0, 0⟩ : GSpan), 0, 0⟩ : GFact) s2.1.toNat s2.2.2))) fuel ((i : Int), (j : Int), s) = some (uptoF fs kn, e) ∧ e.length = fs.length ∧ uptoF fs kn = e.take (uptoF fs kn).length := by
    intro m
    induction m with
    | zero =>
      intro i j fuel s hm hj hij hf hs ht hd
      have hjn : j = fs.length := by omega
      obtain ⟨fuel, rfl⟩ : ∃ f, fuel = f + 1 := ⟨fuel - 1, by omega⟩
      rw [iter]
      simp only
      rw [decide_eq_false (show ¬ (j : Int) < ((s.length : Nat) : Int) by omega)]
      simp only [cond_false, Int.toNat_natCast]
      rw [gd_true (decide_eq_true (by omega)), gd_true (decide_eq_true (by omega)), gd_true (decide_eq_true (by omega)), gd_true (decide_eq_true (by rw [clr_length]; omega))]
      have hu : uptoF fs kn = s.take i := by rw [ht, hjn, List.take_length]
      have hc : ∀ x0 : GFact, (clr x0 i s).take i = s.take i := fun x0 => by
        unfold clr
        rw [List.take_append_of_le_length (by rw [List.length_take]; omega), List.take_take, Nat.min_self]
      have hil : (s.take i).length = i := by rw [List.length_take]; omega
      exact ⟨_, by rw [hc, ← hu], by rw [clr_length, hs], by rw [hu, hil, hc]⟩
    | succ m ih =>
      intro i j fuel s hm hj hij hf hs ht hd
      have hjn : j < fs.length := by omega
      obtain ⟨fuel, rfl⟩ : ∃ f, fuel = f + 1 := ⟨fuel - 1, by omega⟩
      have e1 : s[j]? = some fs[j] := by
        have h4 : (s.drop j)[0]? = (fs.drop j)[0]? := by rw [hd]
        rw [List.getElem?_drop, List.getElem?_drop] at h4
        simp only [Nat.add_zero] at h4
        rw [h4]; exact List.getElem?_eq_getElem hjn
      rw [iter]
      simp only
      rw [decide_eq_true (show (j : Int) < ((s.length : Nat) : Int) by omega)]
      simp only [cond_true, jn]
      rw [bd_some (show idx s (j : Int) = some fs[j] by rw [idx_nat]; exact e1)]
      have hup : facts_Upto_1_m fs[j] kn = some (decide (kn < fs[j].known)) := rfl
      rw [bd_some hup, wr_id (show -9223372036854775808 ≤ (j : Int) + 1 by omega) (by omega), wr_id (show -9223372036854775808 ≤ (i : Int) + 1 by omega) (by omega)]
      have htk : uptoF (fs.take (j + 1)) kn = uptoF (fs.take j) kn ++ (if fs[j].known ≤ kn then [fs[j]] else []) := by
        rw [List.take_succ_eq_append_getElem hjn]
        unfold uptoF
        rw [List.filter_append]
        congr 1
        by_cases h5 : fs[j].known ≤ kn <;> simp [h5]
      have hd' : ∀ s' : List GFact, s'.drop j = s.drop j → s'.drop (j + 1) = fs.drop (j + 1) := fun s' h => by
        rw [← List.drop_drop, ← List.drop_drop, h, hd]
      by_cases hk : kn < fs[j].known
      · rw [decide_eq_true hk]
        simp only [Bool.not_true, cond_false]
        rw [show (j : Int) + 1 = ((j + 1 : Nat) : Int) by omega]
        refine ih i (j + 1) fuel s (by omega) (by omega) (by omega) (by omega) hs ?_ (hd' s rfl)
        rw [htk, if_neg (by omega), List.append_nil, ht]
      · rw [decide_eq_false hk]
        simp only [Bool.not_false, cond_true, Int.toNat_natCast]
        have e2 : idx s (i : Int) = some (s[i]'(by omega)) := by rw [idx_nat]; exact List.getElem?_eq_getElem _
        rw [bd_some e2]
        rw [show (j : Int) + 1 = ((j + 1 : Nat) : Int) by omega, show (i : Int) + 1 = ((i + 1 : Nat) : Int) by omega]
        refine ih (i + 1) (j + 1) fuel _ (by omega) (by omega) (by omega) (by omega) (by rw [List.length_set]; exact hs) ?_ (hd' _ ?_)
        · rw [htk, if_pos (by omega), ← ht]
          rw [List.take_succ_eq_append_getElem (by rw [List.length_set]; omega), List.getElem_set_self]
          congr 1
          exact List.take_set_of_le (Nat.le_refl _)
        · exact List.drop_set_of_lt hij
  rw [show (i : Int) + 1 = ((i + 1 : Nat) : Int) by omega]
  refine key (fs.length - (i + 1)) i (i + 1) 1048576 fs rfl (by omega) (by omega) (by omega) rfl ?_ rfl
  rw [List.take_succ_eq_append_getElem hlt]
  unfold uptoF
  rw [List.filter_append]
  have : fs[i] = x0 := by rw [List.getElem?_eq_getElem hlt] at hx0; simpa using hx0
  rw [this, List.filter_eq_self.2 fun x hx => decide_eq_true (h2 x hx)]
  simp [show ¬ x0.known ≤ kn by omega]
theorem facts_Upto (fs : List GFact) (kn : Int) (hl : fs.length ≤ 1000) : facts_Upto_m fs kn = some (uptoF fs kn) := by
  unfold facts_Upto_m slices_Clone_Fact_m
  rw [gd_true (decide_eq_true (by simp only [List.length_nil]; omega)), List.nil_append, bd_some rfl]
  obtain ⟨e, h1, h2, h3⟩ := deleteF fs kn hl
  rw [bd_some h1]
  simp only
  rw [gd_true (decide_eq_true h2), gd_true (decide_eq_true h3)]
theorem at_upto (fs : List GFact) (k : GKey) (d kn : Int) : atF (uptoF fs kn) k d kn = atF fs k d kn := by
  have : (uptoF fs kn).filter (keyR · k kn) = fs.filter (keyR · k kn) := by
    unfold uptoF
    rw [List.filter_filter]
    refine List.filter_congr fun f _ => ?_
    unfold keyR
    cases GKey.eqb f.key k <;> cases decide (f.known ≤ kn) <;> rfl
  unfold atF bestF
  rw [this]
theorem lotF_same' {fs fs' : List GFact} {no d t : Int} (h : ∀ k, atF fs' k d t = atF fs k d t) : lotF fs' no d t = lotF fs no d t := by
  unfold lotF
  simp only [h]
theorem lotsGo_same {fs fs' : List GFact} {d t : Int} (h : ∀ k, atF fs' k d t = atF fs k d t) : ∀ (n : Nat) (i : Int) (s : List GLot × List GRead), lotsGo fs' d t n i s = lotsGo fs d t n i s
  | 0, _, _ => rfl
  | n + 1, i, s => by rw [lotsGo, lotsGo, lotF_same' h, lotsGo_same h n]
theorem LotsF_same {fs fs' : List GFact} {d t : Int} (h : ∀ k, atF fs' k d t = atF fs k d t) : LotsF fs' d t = LotsF fs d t := by
  have : manyF fs' d t = manyF fs d t := by unfold manyF; rw [h]
  unfold LotsF
  rw [this, lotsGo_same h]
theorem stockPast_true (a0 : GWorld) (a1 : GLine) (a2 a3 : Int) (w0 : GWorld.wf a0) : backflushlaw18_StockPast_m a0 a1 a2 a3 = some true := by
  have hlen : a0.facts.length ≤ 9223372036854775807 := w0.2.1
  unfold backflushlaw18_StockPast_m
  rw [bd_some sane18]
  simp only [Bool.not_true, cond_false]
  rw [bd_some (few18 a0 hlen)]
  cases hf : fewF a0.facts
  · rfl
  simp only [Bool.not_true, cond_false]
  have hl : a0.facts.length ≤ 60 := by
    have := hf
    unfold fewF at this
    simp only [Bool.and_eq_true, decide_eq_true_eq] at this
    exact this.2
  have hf' : fewF (uptoF a0.facts a3) = true := by
    have := hf
    unfold fewF at this ⊢
    simp only [Bool.and_eq_true, decide_eq_true_eq, List.all_eq_true] at this ⊢
    exact ⟨fun x hx => this.1 x (List.mem_filter.1 hx).1, Nat.le_trans (List.length_filter_le _ _) hl⟩
  have hat : ∀ k, atF (uptoF a0.facts a3) k a2 a3 = atF a0.facts k a2 a3 := fun k => at_upto a0.facts k a2 a3
  have hU : UsableF (uptoF a0.facts a3) a1 a2 a3 = UsableF a0.facts a1 a2 a3 := by unfold UsableF; rw [LotsF_same hat]
  rw [bd_some (facts_Upto a0.facts a3 (by omega)), bd_some (stock_Lots a0 a2 a3), bd_some (stock_Lots ⟨a0.tables, uptoF a0.facts a3⟩ a2 a3), bd_some (stock_Usable a0 a1 a2 a3 hf), bd_some (stock_Usable ⟨a0.tables, uptoF a0.facts a3⟩ a1 a2 a3 hf')]
  simp only
  rw [LotsF_same hat, hU, same_lots, bd_some rfl, decide_eq_true rfl, bdc_t rfl, same_reads, bd_some rfl, decide_eq_true rfl, bdc_t (show (bif true then true else false) = true from rfl), same_lots, bd_some rfl, decide_eq_true rfl, bdc_t (show (bif bif true then true else false then true else false) = true from rfl), same_reads, bd_some rfl, decide_eq_true rfl]
  rfl
end Bf
