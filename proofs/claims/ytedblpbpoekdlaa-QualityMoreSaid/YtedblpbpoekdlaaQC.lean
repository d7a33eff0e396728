/- Plain laws: certificates and states (quality), both as the program and as the reference say them. -/
import Derived.Test.YtedblpbpoekdlaaQB
namespace Bf
open Go Go.RowKit Go.Proofs

theorem GKey.eqb_iff (x y : GKey) : GKey.eqb x y = true ↔ x = y := by
  cases x; cases y; simp [GKey.eqb]
theorem GRead.eqb_iff (x y : GRead) : GRead.eqb x y = true ↔ x = y := by
  obtain ⟨⟨_, _, _⟩, _, _⟩ := x; obtain ⟨⟨_, _, _⟩, _, _⟩ := y; simp [GRead.eqb, and_assoc]
theorem GPoint.eqb_iff (x y : GPoint) : GPoint.eqb x y = true ↔ x = y := by
  cases x; cases y; simp [GPoint.eqb]
theorem same_reads (xs ys : List GRead) : backflushref04_SameReads_m xs ys = some (decide (xs = ys)) := list_eq GRead.eqb_iff xs ys
theorem equal_points (xs ys : List GPoint) : slices_Equal_Point_m xs ys = some (decide (xs = ys)) := list_eq GPoint.eqb_iff xs ys
theorem same_cert (a b : GCertificate) (h : a.results.length ≤ 1000000) : backflushref40_Same_m a b = some (decide (a = b)) := by
  unfold backflushref40_Same_m
  obtain ⟨l1, r1, g1⟩ := a
  obtain ⟨l2, r2, g2⟩ := b
  simp only [cond_or]
  by_cases h1 : l1 = l2
  · by_cases h2 : g1 = g2
    · by_cases h3 : r1.length = r2.length
      · have hb : (l1 != l2 || g1 != g2 || ((r1.length : Nat) : Int) != ((r2.length : Nat) : Int)) = false := by simp [h1, h2, h3]
        rw [hb]
        simp only [cond_false, forN]
        rw [gd_true (by simp at h ⊢; omega)]
        have := forNg_eq GPoint.eqb_iff r1 r2 r1 r2 [] [] rfl rfl rfl h3
        simp only [List.length_nil, Int.natCast_zero] at this
        rw [show (((r1.length : Nat) : Int) - 0).toNat = r1.length by omega, this]
        simp [h1, h2]
      · have hb : (l1 != l2 || g1 != g2 || ((r1.length : Nat) : Int) != ((r2.length : Nat) : Int)) = true := by simp; omega
        have : ¬ r1 = r2 := fun e => h3 (by rw [e])
        rw [hb]; simp [this]
    · have hb : (l1 != l2 || g1 != g2 || ((r1.length : Nat) : Int) != ((r2.length : Nat) : Int)) = true := by rw [show (g1 != g2) = true from bne_iff_ne.2 h2]; simp
      rw [hb]; simp [h2]
  · have hb : (l1 != l2 || g1 != g2 || ((r1.length : Nat) : Int) != ((r2.length : Nat) : Int)) = true := by rw [show (l1 != l2) = true from bne_iff_ne.2 h1]; simp
    rw [hb]; simp [h1]

/-! #### Which specifications are valid -/
def lohi (l : List GSpec) : Bool := l.all fun x => decide (x.lo ≤ x.hi)
def specsF (l : List GSpec) : Bool := lohi l && rise 1023 (-1) (l.map GSpec.test) && decide (l.length ≤ 16)
theorem contains_bad (l : List GSpec) : slices_ContainsFunc_Spec_m l (fun y0 => quality_valid_1_m y0) = some (!(lohi l)) := by
  unfold slices_ContainsFunc_Spec_m slices_IndexFunc_Spec_m
  obtain ⟨n, h1, h2⟩ := forLg_idx (xs := l) (s := ()) (p := fun x => decide (x.hi < x.lo)) (body := fun (k3 : Nat) (x5 : GSpec) (s1 : Unit) loop2 => bd (quality_valid_1_m x5) fun x8 => bif x8 then (some ((k3 : Nat) : Int)) else (loop2 ())) (kk := fun (s1 : Unit) => some (-1)) 0 (fun k x c _ => rfl) rfl
  simp only [forL]
  rw [h1]
  simp only [bd]
  congr 1
  rw [Bool.eq_iff_iff]
  simp only [decide_eq_true_eq, h2, lohi, List.any_eq_true, Bool.not_eq_true', List.all_eq_false]
  constructor
  · rintro ⟨x, hx, h⟩; exact ⟨x, hx, by simp; omega⟩
  · rintro ⟨x, hx, h⟩; exact ⟨x, hx, by simp at h; omega⟩
theorem rising_spec (l : List GSpec) : quality_rising_Spec_m l 1023 (fun y0 => quality_valid_2_m y0) = some (rise 1023 (-1) (l.map GSpec.test)) := rise_model (f := GSpec.test) (fun _ => rfl) l 0 (-1)
theorem rising_int (l : List Int) : quality_rising_int_m l 1023 (fun y0 => quality_valid_3_m y0) = some (rise 1023 (-1) l) := by
  have := rise_model (f := fun x : Int => x) (m := 1023) (g := fun y0 => quality_valid_3_m y0) (fun _ => rfl) l 0 (-1)
  rw [List.map_id'] at this
  exact this
theorem valid_q (l : List GSpec) (held : List Int) : quality_valid_m l held = some (specsF l && rise 1023 (-1) held) := by
  unfold quality_valid_m specsF
  by_cases h : l.length ≤ 16
  · have h1 : ¬ (16 : Int) < ((l.length : Nat) : Int) := by omega
    simp only [h1, h, decide_false, decide_true, Bool.not_false, bdc, cond_true, contains_bad, bd, cond_false, Bool.and_true]
    cases lohi l
    · rfl
    · simp only [Bool.not_true, cond_false, rising_spec, bdc, rising_int, bd, Bool.true_and]
      cases rise 1023 (-1) (l.map GSpec.test) <;> rfl
  · have h1 : (16 : Int) < ((l.length : Nat) : Int) := by omega
    simp [h1, h, bdc]
theorem ref_specs_go {l : List GSpec} {B : Nat → GSpec → Unit → (Unit → Option Bool) → Option Bool}
    (hB : ∀ k3 x5 s1 loop2, B k3 x5 s1 loop2 = bdc ((!(bif bif decide (x5.test < 0) then true else decide (1023 < x5.test) then true else decide (x5.hi < x5.lo))) && (decide (0 < ((k3 : Nat) : Int)))) (idx l (wr (((k3 : Nat) : Int) - 1))) fun x8 => bif bif bif bif decide (x5.test < 0) then true else decide (1023 < x5.test) then true else decide (x5.hi < x5.lo) then true else bif decide (0 < ((k3 : Nat) : Int)) then decide (x5.test ≤ x8.test) else false then (some false) else (loop2 ())) (hl : l.length ≤ 1000000) :
    ∀ (xs pre : List GSpec) (last : Int), l = pre ++ xs → (pre = [] ∧ last = -1 ∨ ∃ q y, pre = q ++ [y] ∧ y.test = last ∧ 0 ≤ last) → forLg B (fun _ => some (decide (((l.length : Nat) : Int) ≤ 16))) pre.length xs () = some (lohi xs && rise 1023 last (xs.map GSpec.test) && decide (l.length ≤ 16)) := by
  intro xs
  induction xs with
  | nil => intro pre last _ _; simp only [forLg, lohi, List.all_nil, List.map_nil, rise, Bool.true_and]; exact congrArg some (decide_eq_decide.2 (by omega))
  | cons x xs ih =>
    intro pre last hp hr
    have ih' := ih (pre ++ [x]) x.test (by rw [hp]; simp)
    rw [show (pre ++ [x]).length = pre.length + 1 by simp] at ih'
    rw [forLg, hB]
    simp only [cond_or, lohi, List.all_cons, List.map_cons, rise]
    have hpl : pre.length ≤ 1000000 := by rw [hp] at hl; simp at hl; omega
    rcases hr with ⟨rfl, rfl⟩ | ⟨q, y, rfl, rfl, h0⟩
    · simp only [List.length_nil, Int.natCast_zero, Int.lt_irrefl, decide_false, Bool.and_false, bdc, cond_false, Bool.or_false]
      by_cases h1 : x.test < 0
      · have : ¬ -1 < x.test := by omega
        simp [h1, this]
      · by_cases h2 : 1023 < x.test
        · have : ¬ x.test ≤ 1023 := by omega
          simp [h1, h2, this]
        · by_cases h3 : x.hi < x.lo
          · have : ¬ x.lo ≤ x.hi := by omega
            simp [h1, h2, h3, this]
          · have a1 : -1 < x.test := by omega
            have a2 : x.test ≤ 1023 := by omega
            have a3 : x.lo ≤ x.hi := by omega
            have := ih' (.inr ⟨[], x, by simp, rfl, by omega⟩)
            simp only [List.length_nil, Nat.zero_add, lohi] at this
            simp only [h1, h2, h3, a1, a2, a3, decide_false, decide_true, Bool.or_false, Bool.true_and, cond_false, List.length_nil, Nat.zero_add]
            exact this
    · have hk : (0 : Int) < (((q ++ [y]).length : Nat) : Int) := by simp <;> omega
      have hi : idx l (wr ((((q ++ [y]).length : Nat) : Int) - 1)) = some y := by
        rw [wr_id (by omega) (by omega), show ((((q ++ [y]).length : Nat) : Int) - 1) = ((q.length : Nat) : Int) by simp <;> omega, idx_nat, hp]
        simp
      simp only [hk, decide_true, Bool.and_true, bdc, hi, bd, cond_and, Bool.true_and]
      by_cases h1 : x.test < 0
      · have : ¬ y.test < x.test := by omega
        simp [h1, this]
      · by_cases h2 : 1023 < x.test
        · have : ¬ x.test ≤ 1023 := by omega
          simp [h1, h2, this]
        · by_cases h3 : x.hi < x.lo
          · have : ¬ x.lo ≤ x.hi := by omega
            simp [h1, h2, h3, this]
          · have a2 : x.test ≤ 1023 := by omega
            have a3 : x.lo ≤ x.hi := by omega
            by_cases h4 : x.test ≤ y.test
            · have : ¬ y.test < x.test := by omega
              simp [h1, h2, h3, h4, this]
            · have a1 : y.test < x.test := by omega
              have := ih' (.inr ⟨q ++ [y], x, rfl, rfl, by omega⟩)
              simp only [lohi] at this
              simp only [h1, h2, h3, h4, a1, a2, a3, decide_false, decide_true, Bool.or_false, Bool.true_and, cond_false, Bool.not_false, cond_true]
              exact this
theorem ref_specs (l : List GSpec) (hl : l.length ≤ 1000000) : backflushref40_specs_m l = some (specsF l) :=
  ref_specs_go (fun _ _ _ _ => rfl) hl l [] (-1) rfl (.inl ⟨rfl, rfl⟩)
theorem ref_lots_go {l : List Int} {B : Nat → Int → Unit → (Unit → Option Bool) → Option Bool}
    (hB : ∀ k3 x5 s1 loop2, B k3 x5 s1 loop2 = bdc ((!(bif decide (x5 < 0) then true else decide (1024 ≤ x5))) && (decide (0 < ((k3 : Nat) : Int)))) (idx l (wr (((k3 : Nat) : Int) - 1))) fun x8 => bif bif bif decide (x5 < 0) then true else decide (1024 ≤ x5) then true else bif decide (0 < ((k3 : Nat) : Int)) then decide (x5 ≤ x8) else false then (some false) else (loop2 ())) (hl : l.length ≤ 1000000) :
    ∀ (xs pre : List Int) (last : Int), l = pre ++ xs → (pre = [] ∧ last = -1 ∨ ∃ q, pre = q ++ [last] ∧ 0 ≤ last) → forLg B (fun _ => some (decide (((l.length : Nat) : Int) ≤ 1024))) pre.length xs () = some (rise 1023 last xs && decide (l.length ≤ 1024)) := by
  intro xs
  induction xs with
  | nil => intro pre last _ _; simp only [forLg, rise, Bool.true_and]; exact congrArg some (decide_eq_decide.2 (by omega))
  | cons x xs ih =>
    intro pre last hp hr
    have ih' := ih (pre ++ [x]) x (by rw [hp]; simp)
    rw [show (pre ++ [x]).length = pre.length + 1 by simp] at ih'
    rw [forLg, hB]
    simp only [cond_or, rise]
    have hpl : pre.length ≤ 1000000 := by rw [hp] at hl; simp at hl; omega
    rcases hr with ⟨rfl, rfl⟩ | ⟨q, rfl, h0⟩
    · simp only [List.length_nil, Int.natCast_zero, Int.lt_irrefl, decide_false, Bool.and_false, bdc, cond_false, Bool.or_false]
      by_cases h1 : x < 0
      · have : ¬ -1 < x := by omega
        simp [h1, this]
      · by_cases h2 : 1024 ≤ x
        · have : ¬ x ≤ 1023 := by omega
          simp [h1, h2, this]
        · have a1 : -1 < x := by omega
          have a2 : x ≤ 1023 := by omega
          have := ih' (.inr ⟨[], by simp, by omega⟩)
          simp only [List.length_nil, Nat.zero_add] at this
          simp only [h1, h2, a1, a2, decide_false, decide_true, Bool.or_false, Bool.true_and, cond_false, List.length_nil, Nat.zero_add]
          exact this
    · have hk : (0 : Int) < (((q ++ [last]).length : Nat) : Int) := by simp <;> omega
      have hi : idx l (wr ((((q ++ [last]).length : Nat) : Int) - 1)) = some last := by
        rw [wr_id (by omega) (by omega), show ((((q ++ [last]).length : Nat) : Int) - 1) = ((q.length : Nat) : Int) by simp <;> omega, idx_nat, hp]
        simp
      simp only [hk, decide_true, Bool.and_true, bdc, hi, bd, cond_and, Bool.true_and]
      by_cases h1 : x < 0
      · have : ¬ last < x := by omega
        simp [h1, this]
      · by_cases h2 : 1024 ≤ x
        · have : ¬ x ≤ 1023 := by omega
          simp [h1, h2, this]
        · have a2 : x ≤ 1023 := by omega
          by_cases h4 : x ≤ last
          · have : ¬ last < x := by omega
            simp [h1, h2, h4, this]
          · have a1 : last < x := by omega
            have := ih' (.inr ⟨q ++ [last], rfl, by omega⟩)
            simp only [h1, h2, h4, a1, a2, decide_false, decide_true, Bool.or_false, Bool.true_and, cond_false, Bool.not_false, cond_true]
            exact this
theorem ref_lots (l : List Int) (hl : l.length ≤ 1000000) : backflushref40_lots_m l = some (rise 1023 (-1) l && decide (l.length ≤ 1024)) :=
  ref_lots_go (fun _ _ _ _ => rfl) hl l [] (-1) rfl (.inl ⟨rfl, rfl⟩)

/-! #### Results and certificates -/
def resF (fs : List GFact) (lot test day kn : Int) : Int × List GRead × Bool :=
  bif !(decide (0 ≤ day) && decide (day < 1024)) then (0, [], false) else
  bif (!(atF fs ⟨8, lot, test⟩ day kn).2) || decide ((atF fs ⟨8, lot, test⟩ day kn).1 < 0) then (0, [rdF ⟨8, lot, test⟩ day], false) else ((atF fs ⟨8, lot, test⟩ day kn).1, [rdF ⟨8, lot, test⟩ day], true)
theorem day_ok (day : Int) : (bif decide (day < 0) then true else decide (1024 ≤ day)) = !(decide (0 ≤ day) && decide (day < 1024)) := by
  by_cases h1 : day < 0
  · have : ¬ 0 ≤ day := by omega
    simp [h1, this]
  · have a1 : 0 ≤ day := by omega
    by_cases h2 : 1024 ≤ day
    · have : ¬ day < 1024 := by omega
      simp [h1, h2, a1, this]
    · have : day < 1024 := by omega
      simp [h1, h2, a1, this]
theorem quality_Result (w : GWorld) (lot test day kn : Int) : quality_Result_m w lot test day kn = some (resF w.facts lot test day kn) := by
  unfold quality_Result_m resF
  rw [day_ok, facts_At]
  simp only [bd, cond_or]
  cases decide (0 ≤ day) && decide (day < 1024)
  · rfl
  · simp only [Bool.not_true, cond_false]
    cases (!(atF w.facts ⟨8, lot, test⟩ day kn).2) || decide ((atF w.facts ⟨8, lot, test⟩ day kn).1 < 0) <;> rfl
theorem ref_Result (w : GWorld) (lot test day kn : Int) : backflushref40_Result_m w lot test day kn = some (resF w.facts lot test day kn) := by
  rw [← quality_Result]
  unfold backflushref40_Result_m quality_Result_m
  rw [facts_At, ref_At]
theorem resF_len (fs : List GFact) (lot test day kn : Int) : (resF fs lot test day kn).2.1.length ≤ 1 := by
  unfold resF
  cases decide (0 ≤ day) && decide (day < 1024)
  · simp
  · cases (!(atF fs ⟨8, lot, test⟩ day kn).2) || decide ((atF fs ⟨8, lot, test⟩ day kn).1 < 0) <;> simp
theorem LotF_len (fs : List GFact) (no day kn : Int) : (LotF fs no day kn).2.1.length ≤ 6 := by
  unfold LotF
  have := lotF_len fs no day kn
  cases decide (0 ≤ day) && decide (day < 1024)
  · simp
  · cases decide (0 ≤ no) && decide (no < manyF fs day kn)
    · simp
    · simp; omega

abbrev CS := List GRead × Bool × List GPoint
def stepC (fs : List GFact) (lot day kn : Int) (s : CS) (x : GSpec) : CS :=
  (s.1 ++ (resF fs lot x.test day kn).2.1, s.2.1 && (resF fs lot x.test day kn).2.2 && decide (x.lo ≤ (resF fs lot x.test day kn).1) && decide ((resF fs lot x.test day kn).1 ≤ x.hi), bif (resF fs lot x.test day kn).2.2 then s.2.2 ++ [⟨x.test, (resF fs lot x.test day kn).1⟩] else s.2.2)
def runC (fs : List GFact) (lot day kn : Int) (l : List GSpec) : CS := l.foldl (stepC fs lot day kn) ((LotF fs lot day kn).2.1, true, [])
def certF (fs : List GFact) (lot day kn : Int) (l : List GSpec) : GCertificate × List GRead × Int :=
  bif !(specsF l) then (⟨0, [], false⟩, [], 400) else bif !(LotF fs lot day kn).2.2 then (⟨0, [], false⟩, [], 400) else
  (⟨lot, (runC fs lot day kn l).2.2, (runC fs lot day kn l).2.1⟩, (runC fs lot day kn l).1, 0)
def small (k : Nat) (s : CS) : Prop := s.1.length ≤ 6 + k ∧ s.2.2.length ≤ k
theorem stepC_small {fs : List GFact} {lot day kn : Int} {k : Nat} {s : CS} (x : GSpec) (h : small k s) : small (k + 1) (stepC fs lot day kn s x) := by
  have := resF_len fs lot x.test day kn
  refine ⟨by simp [stepC]; have := h.1; omega, ?_⟩
  simp only [stepC]
  cases (resF fs lot x.test day kn).2.2
  · simp only [cond_false]; have := h.2; omega
  · simp only [cond_true, List.length_append, List.length_cons, List.length_nil]; have := h.2; omega
theorem clone_reads (l : List GRead) (h : l.length ≤ 1000000) : slices_Clone_Read_m l = some l := by
  unfold slices_Clone_Read_m
  rw [gd_true (by simp; omega)]
  simp
theorem quality_Certify (w : GWorld) (lot day kn : Int) (l : List GSpec) (hl : l.length ≤ 1000) : quality_Certify_m w lot day kn l = some (certF w.facts lot day kn l) := by
  unfold quality_Certify_m certF
  rw [valid_q]
  simp only [bd, rise, Bool.and_true]
  cases specsF l
  · rfl
  simp only [Bool.not_true, cond_false]
  rw [stock_Lot]
  simp only
  cases (LotF w.facts lot day kn).2.2
  · rfl
  have h6 := LotF_len w.facts lot day kn
  simp only [Bool.not_true, cond_false]
  rw [clone_reads _ (by omega)]
  simp only [forL]
  have h := forLg_inv (xs := l) (fun k (s : Bool × List GRead × List GPoint) => small k (s.2.1, s.1, s.2.2)) (step := fun s x => ((stepC w.facts lot day kn (s.2.1, s.1, s.2.2) x).2.1, (stepC w.facts lot day kn (s.2.1, s.1, s.2.2) x).1, (stepC w.facts lot day kn (s.2.1, s.1, s.2.2) x).2.2))
    (body := fun (k10 : Nat) (x17 : GSpec) (s8 : Bool × (List GRead) × (List GPoint)) loop9 => bd (quality_Result_m w lot x17.test day kn) fun x21 => gd (decide ((s8.2.1.length + x21.2.1.length) * 41 ≤ 140737488355328)) <| jn (fun (p25 : List GPoint) => loop9 (bif bif bif s8.1 then x21.2.2 else false then decide (x17.lo ≤ x21.1) else false then decide (x21.1 ≤ x17.hi) else false, s8.2.1 ++ x21.2.1, p25)) fun j24 => bif x21.2.2 then (gd (decide ((s8.2.2.length + ([(⟨x17.test, x21.1⟩ : GPoint)] : List GPoint).length) * 17 ≤ 140737488355328)) <| j24 (s8.2.2 ++ ([(⟨x17.test, x21.1⟩ : GPoint)] : List GPoint))) else (j24 s8.2.2))
    (kk := fun (s8 : Bool × (List GRead) × (List GPoint)) => some ((⟨lot, s8.2.2, s8.1⟩ : GCertificate), s8.2.1, (0 : Int))) 0 (true, (LotF w.facts lot day kn).2.1, []) (fun j x s c _ _ hj hP => by
      refine ⟨?_, stepC_small x hP⟩
      have h1 := resF_len w.facts lot x.test day kn
      have h2 := hP.1
      have h3 := hP.2
      simp only at h2 h3
      simp only [quality_Result, bd, jn, cond_and]
      rw [gd_true (by simp only [decide_eq_true_eq]; omega)]
      unfold stepC
      cases (resF w.facts lot x.test day kn).2.2
      · rfl
      · simp only [cond_true]
        rw [gd_true (by simp only [decide_eq_true_eq, List.length_cons, List.length_nil]; omega)]) ⟨by simp; omega, by simp⟩
  refine h.1.trans ?_
  have e : ∀ (xs : List GSpec) (s : CS), xs.foldl (fun (s : Bool × List GRead × List GPoint) x => ((stepC w.facts lot day kn (s.2.1, s.1, s.2.2) x).2.1, (stepC w.facts lot day kn (s.2.1, s.1, s.2.2) x).1, (stepC w.facts lot day kn (s.2.1, s.1, s.2.2) x).2.2)) (s.2.1, s.1, s.2.2) = ((xs.foldl (stepC w.facts lot day kn) s).2.1, (xs.foldl (stepC w.facts lot day kn) s).1, (xs.foldl (stepC w.facts lot day kn) s).2.2) := by
    intro xs
    induction xs with
    | nil => intro s; rfl
    | cons x xs ih => intro s; simp only [List.foldl_cons]; exact ih _
  rw [e l ((LotF w.facts lot day kn).2.1, true, [])]
  rfl
theorem ref_Certify (w : GWorld) (lot day kn : Int) (l : List GSpec) (hl : l.length ≤ 1000) : backflushref40_Certify_m w lot day kn l = some (certF w.facts lot day kn l) := by
  unfold backflushref40_Certify_m certF
  rw [ref_specs l (by omega)]
  simp only [bd]
  cases specsF l
  · rfl
  simp only [Bool.not_true, cond_false]
  rw [ref_Lot]
  simp only
  cases (LotF w.facts lot day kn).2.2
  · rfl
  have h6 := LotF_len w.facts lot day kn
  simp only [Bool.not_true, cond_false, forL]
  refine (forLg_inv (xs := l) small (step := stepC w.facts lot day kn) 0 ((LotF w.facts lot day kn).2.1, true, []) (fun j x s c _ _ hj hP => ?_) ⟨by simp; omega, by simp⟩).1
  refine ⟨?_, stepC_small x hP⟩
  have h1 := resF_len w.facts lot x.test day kn
  have h2 := hP.1
  have h3 := hP.2
  simp only [ref_Result, bd, jn, cond_and, List.nil_append]
  rw [gd_true (by simp only [decide_eq_true_eq, List.length_nil]; omega), gd_true (by simp only [decide_eq_true_eq]; omega)]
  unfold stepC
  cases (resF w.facts lot x.test day kn).2.2
  · rfl
  · simp only [cond_true]
    rw [gd_true (by simp only [decide_eq_true_eq, List.length_cons, List.length_nil]; omega)]
end Bf
