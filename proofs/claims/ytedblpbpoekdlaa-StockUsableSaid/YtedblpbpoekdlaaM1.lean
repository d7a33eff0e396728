/- Plain laws of the models' loops. No program is named here. -/
import Derived.Test.YtedblpbpoekdlaaF27
namespace Bf

section
variable {α S R : Type}
theorem forLg_pure {body : Nat → α → S → (S → Option R) → Option R} {kk : S → Option R} {step : S → α → S} : ∀ {xs : List α} (k : Nat) (s : S), (∀ k x s c, x ∈ xs → body k x s c = c (step s x)) → forLg body kk k xs s = kk (xs.foldl step s)
  | [], _, _, _ => rfl
  | x :: xs, k, s, h => by
    show body k x s _ = _
    rw [h k x s _ (List.mem_cons_self ..), List.foldl_cons]
    exact forLg_pure (k + 1) _ fun k y s c hy => h k y s c (List.mem_cons_of_mem _ hy)
/-- A loop that leaves at the first element of a kind. -/
theorem forLg_any {body : Nat → α → S → (S → Option R) → Option R} {kk : S → Option R} {p : α → Bool} {r : Option R} {s : S} : ∀ {xs : List α} (k : Nat), (∀ k x c, x ∈ xs → body k x s c = bif p x then r else c s) → forLg body kk k xs s = bif xs.any p then r else kk s
  | [], _, _ => rfl
  | x :: xs, k, h => by
    show body k x s _ = _
    rw [h k x _ (List.mem_cons_self ..), List.any_cons]
    cases p x with
    | true => rfl
    | false => exact forLg_any (k + 1) fun k y c hy => h k y c (List.mem_cons_of_mem _ hy)
/-- The same, where the answer says which one. -/
theorem forLg_idx {body : Nat → α → S → (S → Option Int) → Option Int} {kk : S → Option Int} {p : α → Bool} {s : S} : ∀ {xs : List α} (k : Nat), (∀ k x c, x ∈ xs → body k x s c = bif p x then some ((k : Nat) : Int) else c s) → kk s = some (-1) → ∃ n : Int, forLg body kk k xs s = some n ∧ (0 ≤ n ↔ xs.any p = true)
  | [], _, _, hk => ⟨-1, hk, by simp⟩
  | x :: xs, k, h, hk => by
    have e : forLg body kk k (x :: xs) s = body k x s (forLg body kk (k + 1) xs) := rfl
    rw [e, h k x _ (List.mem_cons_self ..), List.any_cons]
    cases p x with
    | true => exact ⟨_, rfl, by simp⟩
    | false => exact forLg_idx (k + 1) (fun k y c hy => h k y c (List.mem_cons_of_mem _ hy)) hk
theorem forLg_filter {body : Nat → α → Unit → (Unit → Option (List α)) → Option (List α)} {p : α → Bool} : ∀ {xs : List α} (k : Nat), (∀ k x c, body k x () c = bif p x then yl x (c ()) else c ()) → forLg body (fun _ => some []) k xs () = some (xs.filter p)
  | [], _, _ => rfl
  | x :: xs, k, h => by
    have e : forLg body (fun _ => some []) k (x :: xs) () = body k x () (forLg body (fun _ => some []) (k + 1) xs) := rfl
    rw [e, h, forLg_filter (k + 1) h, List.filter_cons]
    cases p x <;> rfl
/-- A list is compared with itself. -/
theorem forLg_same {eqb : α → α → Bool} (he : ∀ x, eqb x x = true) {ys : List α} : ∀ {xs : List α} (k : Nat), (∀ i x, xs[i]? = some x → ys[k + i]? = some x) →
    forLg (fun (k : Nat) (x : α) (_ : Unit) (c : Unit → Option Bool) => bd (idx ys ((k : Nat) : Int)) fun y => bif !(eqb x y) then some false else c ()) (fun _ => some true) k xs () = some true
  | [], _, _ => rfl
  | x :: xs, k, h => by
    have h0 := h 0 x rfl
    have e : idx ys ((k : Nat) : Int) = some x := by rw [idx_nat]; simpa using h0
    show bd (idx ys ((k : Nat) : Int)) _ = _
    rw [e]
    show (bif !(eqb x x) then _ else _) = _
    rw [he x]
    exact forLg_same he (k + 1) fun i y hy => by have := h (i + 1) y (by simpa using hy); rwa [show k + 1 + i = k + (i + 1) by omega]
theorem cond_and (a b : Bool) : (bif a then b else false) = (a && b) := by cases a <;> rfl
theorem cond_or (a b : Bool) : (bif a then true else b) = (a || b) := by cases a <;> rfl
theorem gd_true {β : Type} {c : Bool} {k : Option β} (h : c = true) : gd c k = k := by subst h; rfl
theorem bd_some {α β : Type} {o : Option α} {x : α} {k : α → Option β} (h : o = some x) : bd o k = k x := by subst h; rfl
theorem bdc_t {α β : Type} [Inhabited α] {c : Bool} {o : Option α} {k : α → Option β} (h : c = true) : bdc c o k = bd o k := by subst h; rfl
theorem bdc_f {α β : Type} [Inhabited α] {c : Bool} {o : Option α} {k : α → Option β} (h : c = false) : bdc c o k = k default := by subst h; rfl
end
theorem wr_id {n : Int} (h1 : -9223372036854775808 ≤ n) (h2 : n ≤ 9223372036854775807) : wr n = n := wrap64 (by omega) (by omega)

section
variable {α S R : Type}
theorem forLg_inv {body : Nat → α → S → (S → Option R) → Option R} {kk : S → Option R} {step : S → α → S} (P : Nat → S → Prop) : ∀ {xs : List α} (k : Nat) (s : S), (∀ j x s c, x ∈ xs → k ≤ j → j < k + xs.length → P j s → body j x s c = c (step s x) ∧ P (j + 1) (step s x)) → P k s → forLg body kk k xs s = kk (xs.foldl step s) ∧ P (k + xs.length) (xs.foldl step s)
  | [], _, _, _, hP => ⟨rfl, hP⟩
  | x :: xs, k, s, h, hP => by
    obtain ⟨h1, h2⟩ := h k x s (forLg body kk (k + 1) xs) (List.mem_cons_self ..) (Nat.le_refl _) (by simp) hP
    obtain ⟨h3, h4⟩ := forLg_inv P (xs := xs) (k + 1) (step s x) (fun j y s c hy hj hj2 => h j y s c (List.mem_cons_of_mem _ hy) (by omega) (by simp; omega)) h2
    refine ⟨?_, by rw [List.foldl_cons, List.length_cons, show k + (xs.length + 1) = k + 1 + xs.length by omega]; exact h4⟩
    show body k x s _ = _
    rw [h1, h3, List.foldl_cons]
/-- Lists compared, element by element. -/
theorem forLg_eq {eqb : α → α → Bool} (he : ∀ x y, eqb x y = true ↔ x = y) : ∀ {xs zs : List α} (ys pre : List α), ys = pre ++ zs → xs.length = zs.length →
    (forLg (fun (k : Nat) (x : α) (_ : Unit) (c : Unit → Option Bool) => bd (idx ys ((k : Nat) : Int)) fun y => bif !(eqb x y) then some false else c ()) (fun _ => some true) pre.length xs () = some true ↔ xs = zs)
  | [], [], _, _, _, _ => by simp [forLg]
  | [], _ :: _, _, _, _, hl => by simp at hl
  | _ :: _, [], _, _, _, hl => by simp at hl
  | x :: xs, z :: zs, ys, pre, hys, hl => by
    have e : idx ys ((pre.length : Nat) : Int) = some z := by rw [idx_nat, hys]; simp
    rw [forLg]
    simp only [bd_some e]
    have hl' : (pre ++ [z]).length = pre.length + 1 := by simp
    have ih := forLg_eq he (xs := xs) (zs := zs) ys (pre ++ [z]) (by rw [hys]; simp) (by simpa using hl)
    rw [hl'] at ih
    cases h : eqb x z with
    | true => rw [(he x z).1 h]; simp only [Bool.not_true, cond_false]; rw [ih]; simp
    | false =>
      have : x ≠ z := fun e => by rw [(he x z).2 e] at h; cases h
      simp [this]
theorem forLg_eqs {eqb : α → α → Bool} : ∀ {xs : List α} (ys : List α) (k : Nat), k + xs.length ≤ ys.length →
    ∃ b, forLg (fun (k : Nat) (x : α) (_ : Unit) (c : Unit → Option Bool) => bd (idx ys ((k : Nat) : Int)) fun y => bif !(eqb x y) then some false else c ()) (fun _ => some true) k xs () = some b
  | [], _, _, _ => ⟨true, rfl⟩
  | x :: xs, ys, k, h => by
    have e : idx ys ((k : Nat) : Int) = some (ys[k]'(by simp at h; omega)) := by rw [idx_nat]; exact List.getElem?_eq_getElem _
    rw [forLg, e]
    simp only [bd]
    cases eqb x (ys[k]'(by simp at h; omega)) with
    | true => exact forLg_eqs ys (k + 1) (by simp at h; omega)
    | false => exact ⟨false, rfl⟩
/-- The model of a comparison of two lists. -/
theorem list_eq {eqb : α → α → Bool} [DecidableEq α] (he : ∀ x y, eqb x y = true ↔ x = y) (xs ys : List α) :
    (bif ((xs.length : Nat) : Int) != ((ys.length : Nat) : Int) then (some false) else forLg (fun (k : Nat) (x : α) (_ : Unit) (c : Unit → Option Bool) => bd (idx ys ((k : Nat) : Int)) fun y => bif !(eqb x y) then some false else c ()) (fun _ => some true) 0 xs ()) = some (decide (xs = ys)) := by
  by_cases hl : xs.length = ys.length
  · have h0 : (((xs.length : Nat) : Int) != ((ys.length : Nat) : Int)) = false := by simp [hl]
    rw [h0]
    simp only [cond_false]
    have h1 := forLg_eq he (xs := xs) (zs := ys) ys [] rfl hl
    obtain ⟨b, hb⟩ := forLg_eqs (eqb := eqb) (xs := xs) ys 0 (by omega)
    simp only [List.length_nil] at h1
    rw [hb] at h1 ⊢
    cases b with
    | true => have := h1.1 rfl; simp [this]
    | false => have : ¬ xs = ys := fun e => by have := h1.2 e; cases this
               simp [this]
  · have h0 : (((xs.length : Nat) : Int) != ((ys.length : Nat) : Int)) = true := by simp; omega
    have : ¬ xs = ys := fun e => hl (by rw [e])
    rw [h0]; simp [this]
/-- The same, by a counting loop. -/
theorem forNg_eq {eqb : α → α → Bool} (he : ∀ x y, eqb x y = true ↔ x = y) [DecidableEq α] (as ys : List α) : ∀ (xs zs pre qre : List α), as = qre ++ xs → ys = pre ++ zs → pre.length = qre.length → xs.length = zs.length →
    forNg (fun (k : Int) (_ : Unit) (c : Unit → Option Bool) => bd (idx as k) fun x => bd (idx ys k) fun y => bif !(eqb x y) then some false else c ()) (fun _ => some true) xs.length (pre.length : Int) () = some (decide (xs = zs))
  | [], [], _, _, _, _, _, _ => by simp [forNg]
  | [], _ :: _, _, _, _, _, _, hl => by simp at hl
  | _ :: _, [], _, _, _, _, _, hl => by simp at hl
  | x :: xs, z :: zs, pre, qre, has, hys, hq, hl => by
    have e : idx ys ((pre.length : Nat) : Int) = some z := by rw [idx_nat, hys]; simp
    have e2 : idx as ((pre.length : Nat) : Int) = some x := by rw [idx_nat, has, hq]; simp
    rw [List.length_cons, forNg]
    simp only [bd_some e, bd_some e2]
    have ih := forNg_eq he as ys xs zs (pre ++ [z]) (qre ++ [x]) (by rw [has]; simp) (by rw [hys]; simp) (by simp [hq]) (by simpa using hl)
    rw [show (((pre ++ [z]).length : Nat) : Int) = (pre.length : Int) + 1 by simp] at ih
    cases h : eqb x z with
    | true => rw [(he x z).1 h]; simp only [Bool.not_true, cond_false]; rw [ih]; simp
    | false =>
      have : x ≠ z := fun e => by rw [(he x z).2 e] at h; cases h
      simp [this]
end
/-- Strictly rising numbers, all greater than the last one, none greater than 'm'. -/
def rise (m : Int) : Int → List Int → Bool
  | _, [] => true
  | last, x :: xs => decide (last < x) && decide (x ≤ m) && rise m x xs
theorem rise_model {α : Type} {f : α → Int} {m : Int} {g : α → Option Int} (hg : ∀ x, g x = some (f x)) : ∀ (xs : List α) (k : Nat) (last : Int),
    forLg (fun (_ : Nat) (x : α) (s : Int) (c : Int → Option Bool) => bd (g x) fun n => bif bif decide (n ≤ s) then true else decide (m < n) then (some false) else (c n)) (fun _ => some true) k xs last = some (rise m last (xs.map f))
  | [], _, _ => rfl
  | x :: xs, k, last => by
    rw [forLg, hg]
    simp only [bd, List.map_cons, rise]
    by_cases h1 : f x ≤ last
    · have : ¬ last < f x := by omega
      simp [h1, this]
    · have h1' : last < f x := by omega
      by_cases h2 : m < f x
      · have : ¬ f x ≤ m := by omega
        simp [h1, h2, this]
      · have : f x ≤ m := by omega
        simp only [h1, h2, h1', this, decide_false, decide_true, cond_false, Bool.true_and]
        exact rise_model hg xs (k + 1) (f x)

section
variable {α S R : Type}
theorem forLg_ex {body : Nat → α → S → (S → Option R) → Option R} {kk : S → Option R} (P : List α → S → Prop) : ∀ (xs pre : List α) (k : Nat) (s : S), (∀ j pre x s, x ∈ xs → P pre s → ∃ s', (∀ c, body j x s c = c s') ∧ P (pre ++ [x]) s') → P pre s → ∃ s', forLg body kk k xs s = kk s' ∧ P (pre ++ xs) s'
  | [], pre, _, s, _, hP => ⟨s, rfl, by simpa using hP⟩
  | x :: xs, pre, k, s, h, hP => by
    obtain ⟨s', h1, h2⟩ := h k pre x s (List.mem_cons_self ..) hP
    obtain ⟨s'', h3, h4⟩ := forLg_ex (kk := kk) P xs (pre ++ [x]) (k + 1) s' (fun j pre y s hy hp => h j pre y s (List.mem_cons_of_mem _ hy) hp) h2
    refine ⟨s'', ?_, by simpa using h4⟩
    show body k x s _ = _
    rw [h1, h3]
theorem forNg_ex {body : Int → S → (S → Option R) → Option R} {hi : Int} (P : Int → S → Prop) : ∀ (n : Nat) (i : Int) (s : S), n = (hi - i).toNat → (∀ j s, i ≤ j → j < hi → P j s → ∃ s', (∀ c, body j s c = c s') ∧ P (j + 1) s') → P i s → ∃ s', (∀ kk, forNg body kk n i s = kk s') ∧ P (max i hi) s'
  | 0, i, s, hn, _, hP => ⟨s, fun _ => rfl, by rw [show max i hi = i by omega]; exact hP⟩
  | n + 1, i, s, hn, h, hP => by
    obtain ⟨s', h1, h2⟩ := h i s (Int.le_refl _) (by omega) hP
    obtain ⟨s'', h3, h4⟩ := forNg_ex P n (i + 1) s' (by omega) (fun j s hj hj2 hp => h j s (by omega) hj2 hp) h2
    refine ⟨s'', fun kk => ?_, by rw [show max i hi = max (i + 1) hi by omega]; exact h4⟩
    show body i s _ = _
    rw [h1, h3]
theorem forN_ex {body : Int → S → (S → Option R) → Option R} {lo hi : Int} (P : Int → S → Prop) (s : S) (hlo : -9223372036854775808 ≤ lo) (hhi : hi ≤ 9223372036854775807) (h : ∀ j s, lo ≤ j → j < hi → P j s → ∃ s', (∀ c, body j s c = c s') ∧ P (j + 1) s') (h0 : P lo s) : ∃ s', (∀ kk, forN lo hi body kk s = kk s') ∧ P (max lo hi) s' := by
  obtain ⟨s', h1, h2⟩ := forNg_ex P _ lo s rfl h h0
  exact ⟨s', fun kk => by unfold forN; rw [gd_true (by simp only [decide_eq_true_eq]; exact ⟨hlo, hhi⟩)]; exact h1 kk, h2⟩
theorem forN_empty {body : Int → S → (S → Option R) → Option R} {kk : S → Option R} {lo hi : Int} (s : S) (hlo : -9223372036854775808 ≤ lo) (hhi : hi ≤ 9223372036854775807) (h : hi ≤ lo) : forN lo hi body kk s = kk s := by
  unfold forN
  rw [gd_true (by simp only [decide_eq_true_eq]; exact ⟨hlo, hhi⟩), show (hi - lo).toNat = 0 by omega]
  rfl
end
end Bf
