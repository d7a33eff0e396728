/- Plain laws: all lots (stock); few facts. -/
import Derived.Test.YtedblpbpoekdlaaUW
namespace Bf
open Go Go.RowKit Go.Proofs

theorem GLot.eqb_iff (x y : GLot) : GLot.eqb x y = true ↔ x = y := by
  cases x; cases y; simp [GLot.eqb]
theorem GRead.eqb_iff (x y : GRead) : GRead.eqb x y = true ↔ x = y := by
  obtain ⟨⟨_, _, _⟩, _, _⟩ := x; obtain ⟨⟨_, _, _⟩, _, _⟩ := y; simp [GRead.eqb, and_assoc]
theorem same_reads (xs ys : List GRead) : backflushref04_SameReads_m xs ys = some (decide (xs = ys)) := list_eq GRead.eqb_iff xs ys
theorem same_lots (xs ys : List GLot) : backflushref18_Same_m xs ys = some (decide (xs = ys)) := list_eq GLot.eqb_iff xs ys

/-! #### Few facts, of few lots -/
def fewF (fs : List GFact) : Bool := (fs.all fun f => !(f.key.kind == 0 && decide (8 < f.value))) && decide (fs.length ≤ 60)
theorem few_go {fs : List GFact} {B : Int → Unit → (Unit → Option Bool) → Option Bool} {r : Bool} (hB : ∀ k4 s2 loop3, B k4 s2 loop3 = bd (idx fs k4) fun x13 => bif bif x13.key.kind == 0 then decide (8 < x13.value) else false then (some false) else (loop3 ())) :
    ∀ (xs pre : List GFact), fs = pre ++ xs → forNg B (fun _ => some r) xs.length (pre.length : Int) () = some ((xs.all fun f => !(f.key.kind == 0 && decide (8 < f.value))) && r) := by
  intro xs
  induction xs with
  | nil => intro pre _; rfl
  | cons x xs ih =>
    intro pre h
    have ih' := ih (pre ++ [x]) (by rw [h]; simp)
    rw [show (((pre ++ [x]).length : Nat) : Int) = (pre.length : Int) + 1 by simp] at ih'
    rw [List.length_cons, forNg, hB, bd_some (show idx fs ((pre.length : Nat) : Int) = some x by rw [idx_nat, h]; simp)]
    simp only [cond_and, List.all_cons]
    cases x.key.kind == 0 && decide (8 < x.value)
    · simp only [Bool.not_false, Bool.true_and, cond_false]; exact ih'
    · rfl
theorem few18 (w : GWorld) (h : w.facts.length ≤ 9223372036854775807) : backflushref18_Few_m w = some (fewF w.facts) := by
  unfold backflushref18_Few_m forN fewF
  rw [gd_true (by simp only [decide_eq_true_eq]; omega), show (((w.facts.length : Nat) : Int) - 0).toNat = w.facts.length by omega]
  refine (few_go (fs := w.facts) (r := decide (((w.facts.length : Nat) : Int) ≤ 60)) (fun _ _ _ => rfl) w.facts [] rfl).trans ?_
  rw [show decide (((w.facts.length : Nat) : Int) ≤ 60) = decide (w.facts.length ≤ 60) from decide_eq_decide.2 (by omega)]
theorem better_or (d : Int) (b : Option GFact) (x : GFact) : better d b x = some x ∨ better d b x = b := by
  unfold better
  cases b with
  | none => cases inR x d <;> simp
  | some g => cases inR x d <;> cases hb : befo x g <;> simp [hb]
theorem better_mem {d : Int} : ∀ {xs : List GFact} {b : Option GFact} {f : GFact}, xs.foldl (better d) b = some f → b = some f ∨ f ∈ xs
  | [], _, _, h => .inl h
  | x :: xs, b, f, h => by
    rw [List.foldl_cons] at h
    rcases better_mem h with h1 | h1
    · have hc := better_or d b x
      rcases hc with hc | hc
      · rw [hc] at h1; cases h1; exact .inr (List.mem_cons_self ..)
      · rw [hc] at h1; exact .inl h1
    · exact .inr (List.mem_cons_of_mem _ h1)
theorem bestF_mem {fs : List GFact} {k : GKey} {d kn : Int} {f : GFact} (h : bestF fs k d kn = some f) : f ∈ fs ∧ f.key = k := by
  unfold bestF at h
  rcases better_mem h with h1 | h1
  · cases h1
  · obtain ⟨h2, h3⟩ := List.mem_filter.1 h1
    refine ⟨h2, ?_⟩
    unfold keyR at h3
    simp only [Bool.and_eq_true] at h3
    have := h3.1
    obtain ⟨⟨_, _, _⟩, _, _, _, _⟩ := f
    cases k
    simp [GKey.eqb] at this
    simp [this]
theorem few_many {fs : List GFact} (h : fewF fs = true) (day kn : Int) : 0 ≤ manyF fs day kn ∧ manyF fs day kn ≤ 8 := by
  unfold fewF at h
  simp only [Bool.and_eq_true, List.all_eq_true, Bool.not_eq_true', Bool.and_eq_false_iff, beq_eq_false_iff_ne, decide_eq_false_iff_not] at h
  unfold manyF atF
  have : (valF (bestF fs headK day kn)).1 ≤ 8 := by
    cases e : bestF fs headK day kn with
    | none => simp [valF]
    | some f =>
      obtain ⟨h1, h2⟩ := bestF_mem e
      have h3 := h.1 f h1
      rw [h2] at h3
      unfold valF
      by_cases hv : f.value < 0
      · simp only [if_pos hv]; omega
      · simp only [if_neg hv]
        rcases h3 with h3 | h3
        · exact absurd rfl h3
        · omega
  omega

/-! #### All lots -/
def lotsGo (fs : List GFact) (day kn : Int) : Nat → Int → List GLot × List GRead → List GLot × List GRead
  | 0, _, s => s
  | n + 1, i, s => lotsGo fs day kn n (i + 1) (bif (lotF fs i day kn).2.2 then s.1 ++ [(lotF fs i day kn).1] else s.1, s.2 ++ (lotF fs i day kn).2.1)
/-- All lots, as they are known on a day. -/
def LotsF (fs : List GFact) (day kn : Int) : List GLot × List GRead :=
  bif !(decide (0 ≤ day) && decide (day < 1024)) then ([], []) else lotsGo fs day kn (manyF fs day kn).toNat 0 ([], [rdF headK day])
theorem lotsGo_len (fs : List GFact) (day kn : Int) : ∀ (n : Nat) (i : Int) (s : List GLot × List GRead), (lotsGo fs day kn n i s).1.length ≤ s.1.length + n
  | 0, _, s => by simp [lotsGo]
  | n + 1, i, s => by
    rw [lotsGo]
    have := lotsGo_len fs day kn n (i + 1) (bif (lotF fs i day kn).2.2 then s.1 ++ [(lotF fs i day kn).1] else s.1, s.2 ++ (lotF fs i day kn).2.1)
    cases h : (lotF fs i day kn).2.2 <;> rw [h] at this <;> simp at this ⊢ <;> omega
abbrev S15 := List GLot × List GUnit × List GItem × List ByteArray × List GMachine × List GOption × List (List GCond) × List GRecipe × List GSwap × List Int × List (List GInst) × List GFact × Int × Int × List GRead
def enc15 (w : GWorld) (day kn : Int) (s : List GLot × List GRead) : S15 :=
  (s.1, w.tables.source.units, w.tables.source.items, w.tables.source.plants, w.tables.source.machines, w.tables.source.options, w.tables.source.forbids, w.tables.source.recipes, w.tables.source.swaps, w.tables.levels, w.tables.codes, w.facts, day, kn, s.2)
theorem lots_go {w : GWorld} {day kn : Int} {B : Int → S15 → (S15 → Option (List GLot × List GRead)) → Option (List GLot × List GRead)} {K : S15 → Option (List GLot × List GRead)}
    (hB : ∀ i s c, s.1.length ≤ 2000 → s.2.length ≤ 9000 → B i (enc15 w day kn s) c = c (enc15 w day kn (bif (lotF w.facts i day kn).2.2 then s.1 ++ [(lotF w.facts i day kn).1] else s.1, s.2 ++ (lotF w.facts i day kn).2.1)))
    (hK : ∀ s, K (enc15 w day kn s) = some s) : ∀ (n : Nat) (i : Int) (s : List GLot × List GRead), s.1.length + n ≤ 1200 → s.2.length + 5 * n ≤ 8000 → forNg B K n i (enc15 w day kn s) = some (lotsGo w.facts day kn n i s)
  | 0, _, s, _, _ => hK s
  | n + 1, i, s, h1, h2 => by
    rw [forNg, hB i s _ (by omega) (by omega), lotsGo]
    have := lotF_len w.facts i day kn
    refine lots_go hB hK n (i + 1) _ ?_ ?_
    · cases (lotF w.facts i day kn).2.2 <;> simp <;> omega
    · simp; omega
theorem manyF_le (fs : List GFact) (day kn : Int) : 0 ≤ manyF fs day kn ∧ manyF fs day kn ≤ 1024 := by unfold manyF; omega
theorem stock_Lots (w : GWorld) (day kn : Int) : stock_Lots_m w day kn = some (LotsF w.facts day kn) := by
  unfold stock_Lots_m stock_isDay_m LotsF
  rw [bd_some rfl]
  simp only [cond_and]
  cases hd : decide (0 ≤ day) && decide (day < 1024)
  · rfl
  simp only [Bool.not_true, cond_false]
  rw [bd_some (looker_many _ (by simp))]
  have hm := manyF_le w.facts day kn
  unfold forN
  rw [gd_true (by simp only [decide_eq_true_eq]; omega)]
  rw [show (manyF w.facts day kn - 0).toNat = (manyF w.facts day kn).toNat by omega]
  refine lots_go (w := w) (day := day) (kn := kn) (fun i s c h1 h2 => ?_) (fun _ => rfl) (manyF w.facts day kn).toNat 0 ([], [rdF headK day]) (by simp; omega) (by simp; omega)
  show jn _ _ = _
  simp only [jn]
  rw [bd_some (looker_lot _ i (show s.2.length ≤ 10000 by omega))]
  simp only [enc15]
  cases h : (lotF w.facts i day kn).2.2
  · rfl
  · simp only [cond_true]
    exact gd_true (decide_eq_true (by simp only [List.length_cons, List.length_nil]; omega))
end Bf
