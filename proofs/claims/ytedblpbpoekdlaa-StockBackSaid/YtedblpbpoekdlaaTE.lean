/- Plain laws: lists of facts that are valid, and adding to them (facts). -/
import Derived.Test.YtedblpbpoekdlaaTD
namespace Bf
open Go Go.RowKit Go.Proofs

def win (n lo hi : Int) : Bool := decide (lo ≤ n) && decide (n ≤ hi)
def fitsF (f : GFact) : Bool := win f.key.kind 0 15 && win f.key.subject 0 4095 && win f.key.object 0 1023 && win f.value (-1) 1048576 && decide (0 ≤ f.valid.from_) && decide (f.valid.from_ < f.valid.to_) && decide (f.valid.to_ ≤ 1024) && win f.known 1 16777216 && win f.no_ 0 65535
theorem within (n lo hi : Int) : facts_within_m n lo hi = some (win n lo hi) := by
  unfold facts_within_m win
  simp only [cond_and]
theorem facts_fits (f : GFact) : facts_fits_m f = some (fitsF f) := by
  unfold facts_fits_m fitsF
  simp only [within, bd, bdc, cond_and]
  cases win f.key.kind 0 15 <;> cases win f.key.subject 0 4095 <;> cases win f.key.object 0 1023 <;> cases win f.value (-1) 1048576 <;> cases decide (0 ≤ f.valid.from_) <;> cases decide (f.valid.from_ < f.valid.to_) <;> cases decide (f.valid.to_ ≤ 1024) <;> cases win f.known 1 16777216 <;> rfl
def chainF : List GFact → Bool
  | [] => true
  | x :: xs => (match xs with | [] => true | y :: _ => befo x y) && chainF xs
def allFit (fs : List GFact) : Bool := fs.all fitsF
def checkF (fs : List GFact) : Int := bif !(allFit fs) then 40 else bif chainF fs then 0 else 41
theorem contains_fact (fs : List GFact) : slices_ContainsFunc_Fact_m fs (fun y0 => facts_Check_1_m y0) = some (!(allFit fs)) := by
  unfold slices_ContainsFunc_Fact_m slices_IndexFunc_Fact_m
  obtain ⟨n, h1, h2⟩ := forLg_idx (xs := fs) (s := ()) (p := fun x => !(fitsF x)) (body := fun (k3 : Nat) (x5 : GFact) (s1 : Unit) loop2 => bd (facts_Check_1_m x5) fun x8 => bif x8 then (some ((k3 : Nat) : Int)) else (loop2 ())) (kk := fun (s1 : Unit) => some (-1)) 0 (fun k x c _ => by unfold facts_Check_1_m; rw [facts_fits]; rfl) rfl
  simp only [forL]
  rw [bd_some h1]
  congr 1
  rw [Bool.eq_iff_iff, decide_eq_true_eq, h2]
  simp [allFit, List.any_eq_true, List.all_eq_false]
theorem chain_go {fs : List GFact} {B : Int → Unit → (Unit → Option Int) → Option Int} (hB : ∀ k6 s4 loop5, B k6 s4 loop5 = bd (idx fs k6) fun x15 => bd (idx fs (wr (k6 + 1))) fun x16 => bd (facts_compare_m x15 x16) fun x17 => bif decide (0 ≤ x17) then (some 41) else (loop5 ())) (hl : fs.length ≤ 1000000) :
    ∀ (xs : List GFact) (x : GFact) (pre : List GFact), fs = pre ++ x :: xs → forNg B (fun _ => some 0) xs.length (pre.length : Int) () = some (bif chainF (x :: xs) then 0 else 41) := by
  intro xs
  induction xs with
  | nil => intro x pre _; rfl
  | cons y xs ih =>
    intro x pre h
    have ih' := ih y (pre ++ [x]) (by rw [h]; simp)
    rw [show (((pre ++ [x]).length : Nat) : Int) = (pre.length : Int) + 1 by simp] at ih'
    have hp : pre.length ≤ 1000000 := by rw [h] at hl; simp at hl; omega
    obtain ⟨n, c1, c2⟩ := compare_spec x y
    rw [List.length_cons, forNg, hB, bd_some (show idx fs ((pre.length : Nat) : Int) = some x by rw [idx_nat, h]; simp), wr_id (by omega) (by omega), bd_some (show idx fs ((pre.length : Int) + 1) = some y by
      rw [show (pre.length : Int) + 1 = ((pre.length + 1 : Nat) : Int) by omega, idx_nat, h]; simp), bd_some c1, ih']
    show _ = some (bif (befo x y && chainF (y :: xs)) then 0 else 41)
    cases hb : befo x y
    · rw [decide_eq_true (c2.2 hb)]; rfl
    · have : ¬ 0 ≤ n := fun hn => by rw [c2.1 hn] at hb; cases hb
      rw [decide_eq_false this]; rfl
theorem facts_Check (fs : List GFact) (hl : fs.length ≤ 1000000) : facts_Check_m fs = some (checkF fs) := by
  unfold facts_Check_m checkF
  rw [bd_some (contains_fact fs)]
  cases allFit fs
  · rfl
  simp only [Bool.not_true, cond_false]
  cases fs with
  | nil => rfl
  | cons x xs =>
    have hm : (min 1 (((x :: xs).length : Nat) : Int)).toNat = 1 := by simp only [List.length_cons]; omega
    rw [gd_true (by simp only [decide_eq_true_eq, List.length_cons]; omega), gd_true (by simp only [decide_eq_true_eq, hm, List.length_cons]; omega), hm]
    unfold forN
    rw [gd_true (by simp only [decide_eq_true_eq, List.length_drop, List.length_cons] at *; omega)]
    rw [show (((((x :: xs).drop 1).length : Nat) : Int) - 0).toNat = xs.length by simp]
    exact chain_go (fs := x :: xs) (fun _ _ _ => rfl) hl xs x [] rfl
theorem befo_trans {a b c : GFact} (h : befo a b = true) (h' : befo b c = true) : befo a c = true := by
  unfold befo at *
  simp only [Bool.or_eq_true, Bool.and_eq_true, decide_eq_true_eq] at *
  omega
theorem befo_asym {a b : GFact} (h : befo a b = true) : befo b a = false := by
  unfold befo at *
  simp only [Bool.or_eq_true, Bool.and_eq_true, decide_eq_true_eq, Bool.or_eq_false_iff, Bool.and_eq_false_iff, decide_eq_false_iff_not] at *
  omega
theorem chain_snoc : ∀ {fs : List GFact} {f : GFact}, chainF (fs ++ [f]) = (chainF fs && (match fs.getLast? with | none => true | some l => befo l f))
  | [], f => by simp [chainF]
  | [x], f => by simp [chainF]
  | x :: y :: fs, f => by
    show (befo x y && chainF ((y :: fs) ++ [f])) = ((befo x y && chainF (y :: fs)) && _)
    rw [chain_snoc (fs := y :: fs), Bool.and_assoc]
    rfl
theorem chain_head : ∀ {fs : List GFact} {x l : GFact}, chainF (x :: fs) = true → (x :: fs).getLast? = some l → x = l ∨ befo x l = true
  | [], x, l, _, h => by left; simpa using h
  | y :: fs, x, l, hc, h => by
    have h1 : befo x y = true ∧ chainF (y :: fs) = true := by
      have : (befo x y && chainF (y :: fs)) = true := hc
      simpa using this
    have h2 : (y :: fs).getLast? = some l := by rw [List.getLast?_cons_cons] at h; exact h
    rcases chain_head h1.2 h2 with rfl | h3
    · exact .inr h1.1
    · exact .inr (befo_trans h1.1 h3)
theorem chain_all : ∀ {fs : List GFact} {f : GFact}, chainF (fs ++ [f]) = true → ∀ g ∈ fs, befo g f = true
  | [], _, _, g, hg => by cases hg
  | x :: fs, f, h, g, hg => by
    have h0 := h
    rw [chain_snoc] at h
    simp only [Bool.and_eq_true] at h
    rcases List.mem_cons.1 hg with rfl | hg
    · cases e : (g :: fs).getLast? with
      | none => simp at e
      | some l =>
        rw [e] at h
        rcases chain_head h.1 e with rfl | h1
        · exact h.2
        · exact befo_trans h1 h.2
    · refine chain_all (fs := fs) (f := f) ?_ g hg
      cases fs with
      | nil => cases hg
      | cons y fs =>
        have : (befo x y && chainF ((y :: fs) ++ [f])) = true := h0
        simp only [Bool.and_eq_true] at this
        exact this.2
def AddF (fs : List GFact) (f : GFact) : List GFact × Int :=
  bif checkF fs != 0 then ([], checkF fs) else bif !(fitsF f) then ([], 40) else bif (match fs.getLast? with | none => true | some l => befo l f) then (fs ++ [f], 0) else ([], 41)
theorem last_idx {fs : List GFact} (hl : fs.length ≤ 1000000) (l : GFact) (h : fs.getLast? = some l) : idx fs (wr (((fs.length : Nat) : Int) - 1)) = some l ∧ decide ((0 : Int) < ((fs.length : Nat) : Int)) = true := by
  rw [List.getLast?_eq_getElem?] at h
  have hlt := (List.getElem?_eq_some_iff.1 h).1
  refine ⟨?_, decide_eq_true (by omega)⟩
  rw [wr_id (by omega) (by omega), show (((fs.length : Nat) : Int) - 1) = ((fs.length - 1 : Nat) : Int) by omega, idx_nat]
  exact h
theorem facts_Add (fs : List GFact) (f : GFact) (hl : fs.length ≤ 100000) : facts_Add_m fs f = some (AddF fs f) := by
  unfold facts_Add_m AddF
  rw [bd_some (facts_Check fs (by omega))]
  cases checkF fs != 0
  case true => rfl
  simp only [cond_false]
  rw [bd_some (facts_fits f)]
  cases fitsF f
  · rfl
  simp only [Bool.not_true, cond_false]
  have hadd : ∀ r : Option (List GFact × Int), (bd (slices_Clip_Fact_m fs) fun x6 => gd (decide ((x6.length + ([f] : List GFact).length) * 65 ≤ 140737488355328)) <| some (x6 ++ ([f] : List GFact), (0 : Int))) = some (fs ++ [f], 0) := fun _ => by
    unfold slices_Clip_Fact_m
    rw [bd_some rfl, gd_true (decide_eq_true (by simp only [List.length_cons, List.length_nil]; omega))]
  cases e : fs.getLast? with
  | none =>
    have : fs = [] := by simpa using e
    subst this
    rfl
  | some l =>
    obtain ⟨h1, h2⟩ := last_idx (by omega) l e
    obtain ⟨n, c1, c2⟩ := compare_spec l f
    rw [h2, bdc_t rfl, bd_some h1, bdc_t rfl, bd_some c1]
    simp only [cond_true]
    rw [hadd none]
    cases hb : befo l f
    · rw [decide_eq_true (c2.2 hb)]; rfl
    · have : ¬ 0 ≤ n := fun hn => by rw [c2.1 hn] at hb; cases hb
      rw [decide_eq_false this]; rfl
theorem AddF_cases (fs : List GFact) (f : GFact) : ((AddF fs f).2 ≠ 0 ∧ (AddF fs f).1 = []) ∨ (AddF fs f = (fs ++ [f], 0) ∧ fitsF f = true ∧ checkF (fs ++ [f]) = 0 ∧ chainF (fs ++ [f]) = true) := by
  unfold AddF
  cases h0 : checkF fs != 0
  case true => left; exact ⟨by simp only [cond_true]; simpa using h0, rfl⟩
  cases hf : fitsF f
  · left; exact ⟨by simp, rfl⟩
  cases hb : (match fs.getLast? with | none => true | some l => befo l f)
  · left; simp
  · right
    have hc0 : checkF fs = 0 := by simpa using h0
    have hfit : allFit fs = true := by
      unfold checkF at hc0
      cases h : allFit fs with
      | true => rfl
      | false => rw [h] at hc0; cases hc0
    have hch : chainF fs = true := by
      unfold checkF at hc0
      rw [hfit] at hc0
      cases h : chainF fs with
      | true => rfl
      | false => rw [h] at hc0; cases hc0
    have h2 : chainF (fs ++ [f]) = true := by rw [chain_snoc, hch, hb]; rfl
    refine ⟨rfl, rfl, ?_, h2⟩
    unfold checkF
    have : allFit (fs ++ [f]) = true := by unfold allFit at *; rw [List.all_append, hfit]; simp [hf]
    rw [this, h2]; rfl
/-- A later fact is what is known, where it says something. -/
theorem best_snoc {fs : List GFact} {f : GFact} (h : chainF (fs ++ [f]) = true) (k : GKey) (d kn : Int) : bestF (fs ++ [f]) k d kn = bif keyR f k kn && inR f d then some f else bestF fs k d kn := by
  unfold bestF
  rw [List.filter_append, List.foldl_append]
  cases hk : keyR f k kn
  · simp [hk]
  · simp only [List.filter_cons, hk, List.filter_nil, if_true, List.foldl_cons, List.foldl_nil, Bool.true_and]
    generalize hb : (fs.filter (keyR · k kn)).foldl (better d) none = b
    unfold better
    cases b with
    | none => cases inR f d <;> rfl
    | some g =>
      have hg : g ∈ fs := by
        rcases better_mem hb with h1 | h1
        · cases h1
        · exact (List.mem_filter.1 h1).1
      have := befo_asym (chain_all h g hg)
      simp only [this]
      cases inR f d <;> rfl
end Bf
