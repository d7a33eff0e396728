/- Plain laws: putting in order by insertion (stock): both ways of it are one. -/
import Derived.Test.YtedblpbpoekdlaaUF
namespace Bf
open Go Go.RowKit Go.Proofs

/-- Where a lot is put in: after all that expire no later. -/
def insAt (l : List GLot) (x : GLot) : Nat → Nat
  | 0 => 0
  | j + 1 => match l[j]? with
    | some y => if x.expiry < y.expiry then insAt l x j else j + 1
    | none => j + 1
def insE (l : List GLot) (x : GLot) : List GLot := l.take (insAt l x l.length) ++ x :: l.drop (insAt l x l.length)
def sortF (l : List GLot) : List GLot := l.foldl insE []
theorem insAt_le (l : List GLot) (x : GLot) : ∀ j, insAt l x j ≤ j
  | 0 => Nat.le_refl _
  | j + 1 => by
    unfold insAt
    have := insAt_le l x j
    cases l[j]? with
    | none => exact Nat.le_refl _
    | some y => simp only; split <;> omega
theorem insE_perm (l : List GLot) (x : GLot) : (insE l x).Perm (x :: l) := by
  unfold insE
  refine List.perm_middle.trans ?_
  rw [List.take_append_drop]
theorem foldl_perm : ∀ (xs l : List GLot), (xs.foldl insE l).Perm (l ++ xs)
  | [], l => by simp
  | x :: xs, l => by
    rw [List.foldl_cons]
    refine (foldl_perm xs (insE l x)).trans ?_
    refine ((insE_perm l x).append_right xs).trans ?_
    exact List.perm_middle.symm
theorem sortF_perm (l : List GLot) : (sortF l).Perm l := foldl_perm l []

/-! #### The stable sort -/
theorem insAt_pre {pre : List GLot} {y x : GLot} : insAt (pre ++ [y]) x (pre.length + 1) = if x.expiry < y.expiry then insAt pre x pre.length else pre.length + 1 := by
  have key : ∀ j, j ≤ pre.length → insAt (pre ++ [y]) x j = insAt pre x j := by
    intro j
    induction j with
    | zero => intro _; rfl
    | succ j ih =>
      intro h
      unfold insAt
      rw [List.getElem?_append_left (by omega), ih (by omega)]
  rw [insAt, show (pre ++ [y])[pre.length]? = some y by simp]
  simp only
  rw [key _ (Nat.le_refl _)]
def ltC (a b : GLot) : Option Int := stock_Usable_1_m a b
theorem ltC_neg (a b : GLot) : ∃ v, stock_Usable_1_m a b = some v ∧ (v < 0 ↔ a.expiry < b.expiry) := by
  unfold stock_Usable_1_m
  rw [cmpc]
  refine ⟨_, rfl, ?_⟩
  by_cases h1 : a.expiry < b.expiry
  · rw [if_pos h1]; simp [h1]
  · rw [if_neg h1]
    by_cases h2 : b.expiry < a.expiry
    · rw [if_pos h2]; simp [h1]
    · rw [if_neg h2]; simp [h1]
theorem ins_iter' {n : Nat} (hn : n ≤ 1000) : ∀ (pre : List GLot) (x : GLot) (post : List GLot) (fuel : Nat) (s : List GLot), s = pre ++ x :: post → s.length = n → pre.length < fuel → ∀ loop2 : List GLot → Option (List GLot),
    iter (fun (s13 : Int × (List GLot)) loop14 => bdc (decide ((0 : Int) < s13.1)) (idx s13.2 s13.1) fun x17 => bdc (decide ((0 : Int) < s13.1)) (idx s13.2 (wr (s13.1 - 1))) fun x18 => bdc (decide ((0 : Int) < s13.1)) (stock_Usable_1_m x17 x18) fun x19 => bif bif decide ((0 : Int) < s13.1) then decide (x19 < 0) else false then (bd (idx s13.2 (wr (s13.1 - 1))) fun x20 => bd (idx s13.2 s13.1) fun x21 => bd (idx ((s13.2).set (s13.1).toNat x20) (wr (s13.1 - 1))) fun x22 => loop14 (wr (s13.1 - 1), ((s13.2).set (s13.1).toNat x20).set (wr (s13.1 - 1)).toNat x21)) else (loop2 s13.2)) fuel ((pre.length : Int), s) = loop2 (insE pre x ++ post) := by
  intro pre
  induction h : pre.length generalizing pre with
  | zero =>
    intro x post fuel s hs _ hf loop2
    have : pre = [] := by simpa using h
    subst this
    obtain ⟨fuel, rfl⟩ : ∃ f, fuel = f + 1 := ⟨fuel - 1, by omega⟩
    rw [iter, hs]
    rfl
  | succ j ih =>
    intro x post fuel s hs hl hf loop2
    rcases List.eq_nil_or_concat pre with e | ⟨pre', y, e⟩
    · subst e; cases h
    rw [List.concat_eq_append] at e
    subst e
    have hj : pre'.length = j := by simpa using h
    obtain ⟨fuel, rfl⟩ : ∃ f, fuel = f + 1 := ⟨fuel - 1, by omega⟩
    have hlen : j + 1 < n := by rw [hs] at hl; simp at hl; omega
    have h0 : decide ((0 : Int) < ((j + 1 : Nat) : Int)) = true := decide_eq_true (by omega)
    have ew : wr (((j + 1 : Nat) : Int) - 1) = (j : Int) := by rw [wr_id (by omega) (by omega)]; omega
    have e1 : idx s ((j + 1 : Nat) : Int) = some x := by rw [idx_nat, hs, List.getElem?_append_right (by simp; omega)]; simp [hj]
    have e2 : idx s (j : Int) = some y := by rw [idx_nat, hs, List.append_assoc, List.getElem?_append_right (by omega)]; simp [hj]
    obtain ⟨v, hv, hneg⟩ := ltC_neg x y
    rw [iter]
    simp only [h0]
    rw [bdc_t rfl, bd_some e1, bdc_t rfl, ew, bd_some e2, bdc_t rfl, bd_some hv]
    have hins : insE (pre' ++ [y]) x = if x.expiry < y.expiry then insE pre' x ++ [y] else pre' ++ [y] ++ [x] := by
      unfold insE
      rw [show (pre' ++ [y]).length = pre'.length + 1 by simp, insAt_pre]
      by_cases hlt : x.expiry < y.expiry
      · rw [if_pos hlt, if_pos hlt]
        have := insAt_le pre' x pre'.length
        rw [List.take_append_of_le_length this, List.drop_append_of_le_length this]
        simp
      · rw [if_neg hlt, if_neg hlt, show pre'.length + 1 = (pre' ++ [y]).length by simp, List.take_length, List.drop_length]
    by_cases hlt : x.expiry < y.expiry
    · rw [decide_eq_true (hneg.2 hlt), hins, if_pos hlt]
      simp only [cond_true]
      rw [bd_some e2, bd_some e1, show ((j + 1 : Nat) : Int).toNat = j + 1 by omega, show ((j : Nat) : Int).toNat = j by omega]
      have e3 : idx (s.set (j + 1) y) (j : Int) = some y := by rw [idx_nat, List.getElem?_set_ne (by omega), ← idx_nat]; exact e2
      rw [bd_some e3]
      have e4 : (s.set (j + 1) y).set j x = pre' ++ x :: (y :: post) := by
        rw [hs]
        refine List.ext_getElem? fun m => ?_
        rw [List.getElem?_set, List.getElem?_set]
        by_cases h1 : j = m
        · subst h1
          rw [if_pos rfl]
          simp [← hj]
        · rw [if_neg h1]
          by_cases h2 : j + 1 = m
          · subst h2
            rw [if_pos rfl]
            simp [← hj]
          · rw [if_neg h2]
            by_cases h3 : m < j
            · rw [List.getElem?_append_left (by simp; omega), List.getElem?_append_left (by omega), List.getElem?_append_left (by omega)]
            · rw [List.getElem?_append_right (by simp; omega), List.getElem?_append_right (by omega)]
              obtain ⟨q, rfl⟩ : ∃ q, m = j + 2 + q := ⟨m - (j + 2), by omega⟩
              rw [show j + 2 + q - (pre' ++ [y]).length = q + 1 by simp; omega, show j + 2 + q - pre'.length = q + 2 by omega]
              simp
      have := ih pre' hj x (y :: post) fuel _ e4 (by rw [List.length_set, List.length_set]; exact hl) (by omega) loop2
      rw [this]
      simp
    · rw [decide_eq_false (fun hc => hlt (hneg.1 hc)), hins, if_neg hlt, hs]
      simp
theorem foldl_len (xs l : List GLot) : (xs.foldl insE l).length = l.length + xs.length := by rw [(foldl_perm xs l).length_eq, List.length_append]
theorem ins_sort' (l : List GLot) (hl : l.length ≤ 1000) : slices_insertionSortCmpFunc_Lot_m l 0 ((l.length : Nat) : Int) (fun y0 y1 => stock_Usable_1_m y0 y1) = some (sortF l) := by
  unfold slices_insertionSortCmpFunc_Lot_m
  rw [show wr (0 + 1) = 1 from rfl]
  cases l with
  | nil => rfl
  | cons x xs =>
    refine Exists.elim (forN_ex (lo := 1) (hi := (((x :: xs).length : Nat) : Int)) (body := (fun (k3 : Int) (s1 : (List GLot)) (loop2 : List GLot → Option (List GLot)) => iter (fun (s13 : Int × (List GLot)) loop14 => bdc (decide ((0 : Int) < s13.1)) (idx s13.2 s13.1) fun x17 => bdc (decide ((0 : Int) < s13.1)) (idx s13.2 (wr (s13.1 - 1))) fun x18 => bdc (decide ((0 : Int) < s13.1)) (stock_Usable_1_m x17 x18) fun x19 => bif bif decide ((0 : Int) < s13.1) then decide (x19 < 0) else false then (bd (idx s13.2 (wr (s13.1 - 1))) fun x20 => bd (idx s13.2 s13.1) fun x21 => bd (idx ((s13.2).set (s13.1).toNat x20) (wr (s13.1 - 1))) fun x22 => loop14 (wr (s13.1 - 1), ((s13.2).set (s13.1).toNat x20).set (wr (s13.1 - 1)).toNat x21)) else (loop2 s13.2)) 1048576 (k3, s1))) (fun i s => s = ((x :: xs).take i.toNat).foldl insE [] ++ (x :: xs).drop i.toNat) (x :: xs) (by decide) (by omega) (fun j s hj hj2 hP => ?_) (by simp [insE, insAt])) fun s' h => ?_
    · obtain ⟨k, rfl⟩ : ∃ k : Nat, j = (k : Int) := ⟨j.toNat, by omega⟩
      have hk : k < (x :: xs).length := by omega
      simp only [Int.toNat_natCast] at hP
      have hd : (x :: xs).drop k = (x :: xs)[k] :: (x :: xs).drop (k + 1) := List.drop_eq_getElem_cons hk
      have hfl : (((x :: xs).take k).foldl insE []).length = k := by rw [foldl_len, List.length_take]; simp only [List.length_nil]; omega
      rw [hd] at hP
      refine ⟨_, fun c => ?_, rfl⟩
      have := ins_iter' hl (((x :: xs).take k).foldl insE []) (x :: xs)[k] ((x :: xs).drop (k + 1)) 1048576 s hP (by rw [hP]; simp [foldl_len]; simp at hk; omega) (by omega) c
      rw [hfl] at this
      rw [this, show ((k : Int) + 1).toNat = k + 1 by omega, List.take_succ_eq_append_getElem hk, List.foldl_append]
      rfl
    · rw [h.1, h.2, show (max (1 : Int) (((x :: xs).length : Nat) : Int)).toNat = (x :: xs).length by simp only [List.length_cons]; omega, List.take_length, List.drop_length, List.append_nil]
      rfl
theorem sort_eq (l : List GLot) (hl : l.length ≤ 19) : slices_SortStableFunc_Lot_m l (fun y0 y1 => stock_Usable_1_m y0 y1) = some (sortF l) := by
  have h1 := ins_sort' l (by omega)
  have h2 : (sortF l).length = l.length := (sortF_perm l).length_eq
  have e : slices_stableCmpFunc_Lot_m l ((l.length : Nat) : Int) (fun y0 y1 => stock_Usable_1_m y0 y1) = some (sortF l) := by
    unfold slices_stableCmpFunc_Lot_m
    rw [show (1048576 : Nat) = 1048575 + 1 from rfl, iter]
    rw [show decide ((20 : Int) ≤ ((l.length : Nat) : Int)) = false from decide_eq_false (by omega)]
    simp only [cond_false]
    rw [bd_some h1, gd_true (decide_eq_true h2), iter]
    rw [show decide ((20 : Int) < ((l.length : Nat) : Int)) = false from decide_eq_false (by omega)]
    rfl
  unfold slices_SortStableFunc_Lot_m
  rw [bd_some e]
  exact gd_true (decide_eq_true h2)
theorem sortU_eq (l : List GLot) (hl : l.length ≤ 19) : sortU l = sortF l := by
  unfold sortU
  rw [sort_eq l hl]
  rfl
end Bf
