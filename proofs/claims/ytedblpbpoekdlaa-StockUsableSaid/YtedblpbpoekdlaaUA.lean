/- Plain laws: what a key's value is on a day (facts), both as the program and as the reference say it. -/
import Derived.Test.YtedblpbpoekdlaaM1
import Derived.Test.YtedblpbpoekdlaaU4
namespace Bf
open Go Go.RowKit Go.Proofs

def befo (a b : GFact) : Bool := decide (a.known < b.known) || (decide (a.known = b.known) && decide (a.no_ < b.no_))
theorem cmpc (a b : Int) : cmp_Compare_int_m a b = some (if a < b then -1 else if b < a then 1 else 0) := by
  unfold cmp_Compare_int_m cmp_isNaN_int_m
  have h1 : (a != a) = false := by simp
  have h2 : (b != b) = false := by simp
  simp only [bd, h1, h2, cond_false]
  by_cases h : a < b
  · simp [h]
  · by_cases h' : b < a
    · simp [h, h']
    · simp [h, h']
theorem compare_spec (a b : GFact) : ∃ n, facts_compare_m a b = some n ∧ (0 ≤ n ↔ befo a b = false) := by
  unfold facts_compare_m
  rw [cmpc, cmpc]
  simp only [bd, cmp_Or_int_m, forL, forLg]
  unfold befo
  by_cases h1 : a.known < b.known
  · refine ⟨-1, by simp [h1], by simp [h1]⟩
  · by_cases h2 : b.known < a.known
    · refine ⟨1, by simp [h1, h2], ?_⟩
      have h3 : ¬ a.known = b.known := by omega
      simp [h1, h3]
    · have h3 : a.known = b.known := by omega
      by_cases h4 : a.no_ < b.no_
      · refine ⟨-1, by simp [h1, h2, h4], by simp [h3, h4]⟩
      · by_cases h5 : b.no_ < a.no_
        · refine ⟨1, by simp [h1, h2, h4, h5], by simp [h3, h4]⟩
        · refine ⟨0, by simp [h1, h2, h4, h5], by simp [h3, h4]⟩

def inR (f : GFact) (d : Int) : Bool := decide (f.valid.from_ ≤ d) && decide (d < f.valid.to_)
def keyR (f : GFact) (k : GKey) (kn : Int) : Bool := GKey.eqb f.key k && decide (f.known ≤ kn)
def better (d : Int) (b : Option GFact) (f : GFact) : Option GFact := bif inR f d && (match b with | none => true | some g => !befo f g) then some f else b
def bestF (fs : List GFact) (k : GKey) (d kn : Int) : Option GFact := (fs.filter (keyR · k kn)).foldl (better d) none
def valF : Option GFact → Int × Bool
  | none => (0, false)
  | some f => if f.value < 0 then (0, false) else (f.value, true)
/-- The value of a key on a day, as known at a time. -/
def atF (fs : List GFact) (k : GKey) (d kn : Int) : Int × Bool := valF (bestF fs k d kn)

theorem of_filter (fs : List GFact) (k : GKey) (kn : Int) : facts_of_1_m fs k kn = some (fs.filter (keyR · k kn)) := by
  unfold facts_of_1_m
  refine forLg_filter 0 fun j x c => ?_
  simp only [jn, keyR, cond_and]

abbrev T9 := Int × Int × Int × Int × Int × Int × Int × Int × Bool
def enc9 : Option GFact → T9
  | none => (0, 0, 0, 0, 0, 0, 0, 0, false)
  | some f => (f.key.kind, f.key.subject, f.key.object, f.value, f.valid.from_, f.valid.to_, f.known, f.no_, true)
theorem forLg_enc {α S S' R : Type} {body : Nat → α → S → (S → Option R) → Option R} {kk : S → Option R} {enc : S' → S} {step : S' → α → S'} : ∀ {xs : List α} (k : Nat) (s : S'), (∀ k x s c, body k x (enc s) c = c (enc (step s x))) → forLg body kk k xs (enc s) = kk (enc (xs.foldl step s))
  | [], _, _, _ => rfl
  | x :: xs, k, s, h => by
    show body k x (enc s) _ = _
    rw [h k x s _, List.foldl_cons]
    exact forLg_enc (k + 1) _ h

theorem facts_At (fs : List GFact) (k : GKey) (d kn : Int) : facts_At_m fs k d kn = some (atF fs k d kn) := by
  unfold facts_At_m facts_of_m
  simp only [bd]
  rw [of_filter]
  simp only [forL]
  rw [show ((0, 0, 0, 0, 0, 0, 0, 0, false) : T9) = enc9 none from rfl]
  rw [forLg_enc (enc := enc9) (step := better d)]
  · unfold atF bestF
    generalize List.foldl (better d) none (List.filter (fun x => keyR x k kn) fs) = b
    cases b with
    | none => rfl
    | some f =>
      simp only [enc9, valF]
      by_cases h : f.value < 0 <;> simp [h]
  · intro j x b c
    cases b with
    | none =>
      simp only [enc9, better, inR, bdc, cond_and, Bool.and_true, Bool.not_false, Bool.not_true, Bool.and_false, cond_false, cond_true, cond_or, Bool.true_or]
      cases h : (decide (x.valid.from_ ≤ d) && decide (d < x.valid.to_)) <;> simp [enc9]
    | some g =>
      obtain ⟨n, h1, h2⟩ := compare_spec x g
      simp only [enc9, better, inR, bdc, cond_and, Bool.and_true, Bool.not_false, Bool.not_true, cond_false, cond_true, cond_or, Bool.false_or]
      rw [show ({ key := { kind := g.key.kind, subject := g.key.subject, object := g.key.object }, value := g.value, valid := { from_ := g.valid.from_, to_ := g.valid.to_ }, known := g.known, no_ := g.no_ } : GFact) = g from rfl, h1]
      simp only [bd]
      cases h : (decide (x.valid.from_ ≤ d) && decide (d < x.valid.to_)) with
      | false => simp [enc9]
      | true =>
        simp only [Bool.true_and, cond_true]
        cases hb : befo x g with
        | false => have := h2.2 hb; simp [this, enc9]
        | true => have : ¬ 0 ≤ n := fun hn => by rw [h2.1 hn] at hb; cases hb
                  simp [this, enc9]

def stepF (k : GKey) (d kn : Int) (b : Option GFact) (f : GFact) : Option GFact := bif keyR f k kn then better d b f else b
theorem bestF_fold (fs : List GFact) (k : GKey) (d kn : Int) : bestF fs k d kn = fs.foldl (stepF k d kn) none := by
  unfold bestF
  rw [List.foldl_filter]
  congr 1
  funext b f
  unfold stepF
  cases keyR f k kn <;> rfl
theorem ref_At_go {fs : List GFact} {k : GKey} {d kn : Int} {B : Nat → GFact → Int → (Int → Option (Int × Bool)) → Option (Int × Bool)} {K : Int → Option (Int × Bool)}
    (hB : ∀ k4 x7 s2 loop3, B k4 x7 s2 loop3 = jn (fun (p11 : Int) => loop3 p11) fun j10 => bdc ((bif bif bif GKey.eqb x7.key k then decide (x7.valid.from_ ≤ d) else false then decide (d < x7.valid.to_) else false then decide (x7.known ≤ kn) else false) && (!(decide (s2 < 0)))) (idx fs s2) fun x13 => bdc ((bif bif bif GKey.eqb x7.key k then decide (x7.valid.from_ ≤ d) else false then decide (d < x7.valid.to_) else false then decide (x7.known ≤ kn) else false) && (!(decide (s2 < 0)))) (backflushref04_Before_m x7 x13) fun x14 => bif bif bif bif bif GKey.eqb x7.key k then decide (x7.valid.from_ ≤ d) else false then decide (d < x7.valid.to_) else false then decide (x7.known ≤ kn) else false then bif decide (s2 < 0) then true else !x14 else false then (j10 ((k4 : Nat) : Int)) else (j10 s2))
    (hK : ∀ s2, K s2 = bdc (!(decide (s2 < 0))) (idx fs s2) fun x15 => bif bif decide (s2 < 0) then true else decide (x15.value < 0) then (some (0, false)) else (bd (idx fs s2) fun x16 => some (x16.value, true))) : ∀ (xs pre : List GFact) (s : Int) (b : Option GFact), fs = pre ++ xs → (s = -1 ∧ b = none ∨ ∃ (i : Nat) (g : GFact), s = (i : Int) ∧ b = some g ∧ fs[i]? = some g) →
      forLg B K pre.length xs s = some (valF (xs.foldl (stepF k d kn) b)) := by
  intro xs
  induction xs with
  | nil =>
    intro pre s b _ hb
    rcases hb with ⟨rfl, rfl⟩ | ⟨i, g, rfl, rfl, hi⟩
    · simp [forLg, hK, bdc, valF]
    · have hn : ¬ ((i : Int) < 0) := by omega
      simp only [forLg, hK, List.foldl_nil, hn, decide_false, Bool.not_false, bdc, cond_true, idx_nat, hi, bd, cond_false, valF]
      by_cases h : g.value < 0 <;> simp [h]
  | cons x xs ih =>
    intro pre s b hfs hb
    rw [List.foldl_cons]
    have hl : (pre ++ [x]).length = pre.length + 1 := by simp
    have hx : fs[pre.length]? = some x := by rw [hfs]; simp
    have ih' := fun s b => ih (pre ++ [x]) s b (by rw [hfs]; simp)
    rw [hl] at ih'
    have hc : (bif bif bif GKey.eqb x.key k then decide (x.valid.from_ ≤ d) else false then decide (d < x.valid.to_) else false then decide (x.known ≤ kn) else false) = (keyR x k kn && inR x d) := by
      unfold keyR inR
      cases GKey.eqb x.key k <;> cases decide (x.valid.from_ ≤ d) <;> cases decide (d < x.valid.to_) <;> cases decide (x.known ≤ kn) <;> rfl
    rw [forLg, hB]
    simp only [jn, hc]
    rcases hb with ⟨rfl, rfl⟩ | ⟨i, g, rfl, rfl, hi⟩
    · simp only [show decide ((-1 : Int) < 0) = true from rfl, Bool.not_true, Bool.and_false, bdc, cond_false, cond_true, cond_and, Bool.and_true]
      unfold stepF better
      cases h1 : keyR x k kn
      · simp only [Bool.false_and, cond_false]; exact ih' _ _ (.inl ⟨rfl, rfl⟩)
      · cases h2 : inR x d
        · simp only [Bool.and_false, Bool.false_and, cond_false, cond_true]; exact ih' _ _ (.inl ⟨rfl, rfl⟩)
        · simp only [Bool.and_true, cond_true]; exact ih' _ _ (.inr ⟨_, x, rfl, rfl, hx⟩)
    · have hn : ¬ ((i : Int) < 0) := by omega
      simp only [hn, decide_false, Bool.not_false, Bool.and_true, bdc, cond_false, cond_and, idx_nat, hi, bd, backflushref04_Before_m]
      unfold stepF better
      have hb : (bif decide (x.known < g.known) then true else bif x.known == g.known then decide (x.no_ < g.no_) else false) = befo x g := by
        unfold befo
        rw [show (x.known == g.known) = decide (x.known = g.known) from rfl]
        cases decide (x.known < g.known) <;> cases decide (x.known = g.known) <;> rfl
      rw [cond_and] at hb
      rw [hb]
      cases h1 : keyR x k kn
      · simp only [Bool.false_and, cond_false]; exact ih' _ _ (.inr ⟨i, g, rfl, rfl, hi⟩)
      · cases h2 : inR x d
        · simp only [Bool.and_false, Bool.false_and, cond_false, cond_true]; exact ih' _ _ (.inr ⟨i, g, rfl, rfl, hi⟩)
        · simp only [Bool.and_true, cond_true, Bool.true_and]
          cases h3 : befo x g
          · simp only [Bool.not_false, cond_true]; exact ih' _ _ (.inr ⟨_, x, rfl, rfl, hx⟩)
          · simp only [Bool.not_true, cond_false]; exact ih' _ _ (.inr ⟨i, g, rfl, rfl, hi⟩)
theorem ref_At (fs : List GFact) (k : GKey) (d kn : Int) : backflushref04_At_m fs k d kn = some (atF fs k d kn) := by
  unfold backflushref04_At_m atF
  rw [bestF_fold]
  exact ref_At_go (fun _ _ _ _ => rfl) (fun _ => rfl) fs [] (-1) none rfl (.inl ⟨rfl, rfl⟩)
end Bf
