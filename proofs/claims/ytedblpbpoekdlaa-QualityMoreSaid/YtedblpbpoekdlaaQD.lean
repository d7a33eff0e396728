/- Plain laws: states of lots and the check of certificates (quality), both as the program and as the reference say them. -/
import Derived.Test.YtedblpbpoekdlaaQC
namespace Bf
open Go Go.RowKit Go.Proofs

theorem certF_ok {fs : List GFact} {lot day kn : Int} {l : List GSpec} (h1 : specsF l = true) (h2 : (LotF fs lot day kn).2.2 = true) : certF fs lot day kn l = (⟨lot, (runC fs lot day kn l).2.2, (runC fs lot day kn l).2.1⟩, (runC fs lot day kn l).1, 0) := by
  unfold certF; rw [h1, h2]; rfl
theorem certF_cases (fs : List GFact) (lot day kn : Int) (l : List GSpec) : certF fs lot day kn l = (⟨0, [], false⟩, [], 400) ∨ (specsF l = true ∧ (LotF fs lot day kn).2.2 = true ∧ certF fs lot day kn l = (⟨lot, (runC fs lot day kn l).2.2, (runC fs lot day kn l).2.1⟩, (runC fs lot day kn l).1, 0)) := by
  cases h1 : specsF l
  · left; unfold certF; rw [h1]; rfl
  · cases h2 : (LotF fs lot day kn).2.2
    · left; unfold certF; rw [h1, h2]; rfl
    · exact .inr ⟨rfl, rfl, certF_ok h1 h2⟩
theorem contains_int (l : List Int) (n : Int) : slices_Contains_int_m l n = some (l.any fun x => n == x) := by
  unfold slices_Contains_int_m slices_Index_int_m
  obtain ⟨m, h1, h2⟩ := forLg_idx (xs := l) (s := ()) (p := fun x => n == x) (body := fun (k3 : Nat) (x5 : Int) (s1 : Unit) loop2 => bif n == x5 then (some ((k3 : Nat) : Int)) else (loop2 ())) (kk := fun (s1 : Unit) => some (-1)) 0 (fun k x c _ => rfl) rfl
  simp only [forL]
  rw [h1]
  simp only [bd]
  congr 1
  rw [Bool.eq_iff_iff, decide_eq_true_eq, h2]
theorem ref_has (l : List Int) (n : Int) : backflushref40_has_m l n = some (l.any fun x => n == x) := by
  unfold backflushref40_has_m
  simp only [forL]
  rw [forLg_any (p := fun x => n == x) (r := some true) 0 (fun k x c _ => by rw [show (x == n) = (n == x) from Bool.beq_comm])]
  cases l.any fun x => n == x <;> rfl

def stateF (fs : List GFact) (lot day kn : Int) (l : List GSpec) (held : List Int) : Int × List GRead × Int :=
  bif !(specsF l && rise 1023 (-1) held) || decide (1024 < held.length) then (0, [], 400) else
  bif !(LotF fs lot day kn).2.2 then (3, (LotF fs lot day kn).2.1, 0) else
  bif (LotF fs lot day kn).1.state == 3 then (3, (runC fs lot day kn l).1, 0) else
  bif (LotF fs lot day kn).1.state == 2 || (held.any fun x => lot == x) then (2, (runC fs lot day kn l).1, 0) else
  bif (LotF fs lot day kn).1.state == 1 || decide ((LotF fs lot day kn).1.expiry ≤ day) || !(runC fs lot day kn l).2.1 then (1, (runC fs lot day kn l).1, 0) else (0, (runC fs lot day kn l).1, 0)
theorem quality_State (w : GWorld) (lot day kn : Int) (l : List GSpec) (held : List Int) (hl : l.length ≤ 1000) : quality_State_m w lot day kn l held = some (stateF w.facts lot day kn l held) := by
  unfold quality_State_m stateF
  rw [valid_q]
  simp only [bd, cond_or]
  rw [show decide (1024 < ((held.length : Nat) : Int)) = decide (1024 < held.length) from decide_eq_decide.2 (by omega)]
  cases h0 : !(specsF l && rise 1023 (-1) held) || decide (1024 < held.length)
  case true => rfl
  have hs : specsF l = true := by
    cases h : specsF l
    · rw [h] at h0; simp at h0
    · rfl
  simp only [cond_false]
  rw [stock_Lot]
  simp only
  cases h2 : (LotF w.facts lot day kn).2.2
  · rfl
  simp only [Bool.not_true, cond_false]
  rw [quality_Certify _ _ _ _ _ hl, certF_ok hs h2]
  simp only [show ((0 : Int) != 0) = false from rfl, cond_false, quality_State_1_m]
  cases (LotF w.facts lot day kn).1.state == 3
  case true => rfl
  simp only [cond_false, quality_State_2_m, contains_int, bdc, bd]
  cases (LotF w.facts lot day kn).1.state == 2
  case true => rfl
  simp only [Bool.not_false, cond_true, cond_false, Bool.false_or]
  cases held.any fun x => lot == x
  case true => rfl
  simp only [cond_false, quality_State_3_m, cond_or]
  cases (LotF w.facts lot day kn).1.state == 1 || decide ((LotF w.facts lot day kn).1.expiry ≤ day) || !(runC w.facts lot day kn l).2.1 <;> rfl
theorem ref_State (w : GWorld) (lot day kn : Int) (l : List GSpec) (held : List Int) (hl : l.length ≤ 1000) (hh : held.length ≤ 1000000) : backflushref40_State_m w lot day kn l held = some (stateF w.facts lot day kn l held) := by
  unfold backflushref40_State_m stateF
  rw [ref_specs l (by omega), ref_lots held hh]
  simp only [bd, cond_or, Bool.not_not]
  cases hs : specsF l
  · simp [bdc]
  simp only [bdc, bd, cond_true, Bool.not_true, Bool.false_or, Bool.true_and]
  rw [show (!(rise 1023 (-1) held && decide (held.length ≤ 1024))) = (!rise 1023 (-1) held || decide (1024 < held.length)) by
    by_cases h : held.length ≤ 1024
    · have : ¬ 1024 < held.length := by omega
      simp [h, this]
    · have : 1024 < held.length := by omega
      simp [h, this]]
  cases h0 : !rise 1023 (-1) held || decide (1024 < held.length)
  case true => rfl
  simp only [cond_false]
  rw [ref_Lot]
  simp only
  cases h2 : (LotF w.facts lot day kn).2.2
  · rfl
  simp only [Bool.not_true, cond_false]
  rw [ref_Certify _ _ _ _ _ hl, certF_ok hs h2]
  simp only
  cases (LotF w.facts lot day kn).1.state == 3
  case true => rfl
  simp only [cond_false, ref_has, bd]
  cases (LotF w.facts lot day kn).1.state == 2
  case true => rfl
  simp only [Bool.not_false, cond_true, Bool.false_or]
  cases held.any fun x => lot == x
  case true => rfl
  simp only [cond_false]
  cases (LotF w.facts lot day kn).1.state == 1 || decide ((LotF w.facts lot day kn).1.expiry ≤ day) || !(runC w.facts lot day kn l).2.1 <;> rfl

def checkF (fs : List GFact) (c : GCertificate) (day kn : Int) (l : List GSpec) : Bool × Int :=
  bif (certF fs c.lot day kn l).2.2 != 0 then (false, (certF fs c.lot day kn l).2.2) else (decide ((certF fs c.lot day kn l).1 = c), 0)
theorem cert_same {fs : List GFact} {c : GCertificate} {day kn : Int} {l : List GSpec} (h : ((certF fs c.lot day kn l).2.2 != 0) = false) : ((certF fs c.lot day kn l).1.good == c.good && decide ((certF fs c.lot day kn l).1.results = c.results)) = decide ((certF fs c.lot day kn l).1 = c) := by
  rcases certF_cases fs c.lot day kn l with e | ⟨_, _, e⟩
  · rw [e] at h; cases h
  · rw [e]
    obtain ⟨a, b, d⟩ := c
    rw [Bool.eq_iff_iff]
    simp only [Bool.and_eq_true, beq_iff_eq, decide_eq_true_eq, GCertificate.mk.injEq, true_and]
    exact And.comm
theorem quality_Check (w : GWorld) (c : GCertificate) (day kn : Int) (l : List GSpec) (hl : l.length ≤ 1000) : quality_Check_m w c day kn l = some (checkF w.facts c day kn l) := by
  unfold quality_Check_m checkF
  rw [quality_Certify _ _ _ _ _ hl]
  simp only [bd, quality_same_Point_m, equal_points]
  cases h : (certF w.facts c.lot day kn l).2.2 != 0
  case true => rfl
  have := cert_same h
  simp only [cond_false, bdc]
  rw [← this]
  cases (certF w.facts c.lot day kn l).1.good == c.good <;> rfl
theorem certF_len' (fs : List GFact) (lot day kn : Int) (l : List GSpec) : (certF fs lot day kn l).1.results.length ≤ l.length := by
  rcases certF_cases fs lot day kn l with e | ⟨_, _, e⟩
  · rw [e]; simp
  · rw [e]
    have key : ∀ (xs : List GSpec) (s : CS), (xs.foldl (stepC fs lot day kn) s).2.2.length ≤ s.2.2.length + xs.length := by
      intro xs
      induction xs with
      | nil => intro s; simp
      | cons x xs ih =>
        intro s
        rw [List.foldl_cons]
        have h1 := ih (stepC fs lot day kn s x)
        have h2 : (stepC fs lot day kn s x).2.2.length ≤ s.2.2.length + 1 := by
          simp only [stepC]
          cases (resF fs lot x.test day kn).2.2 <;> simp
        simp only [List.length_cons]
        omega
    have := key l ((LotF fs lot day kn).2.1, true, [])
    simpa [runC] using this
theorem ref_Check (w : GWorld) (c : GCertificate) (day kn : Int) (l : List GSpec) (hl : l.length ≤ 1000) : backflushref40_Check_m w c day kn l = some (checkF w.facts c day kn l) := by
  unfold backflushref40_Check_m checkF
  rw [ref_Certify _ _ _ _ _ hl]
  simp only [bd]
  rw [same_cert _ _ (Nat.le_trans (certF_len' _ _ _ _ _) (by omega))]
  cases (certF w.facts c.lot day kn l).2.2 != 0 <;> rfl

theorem sane40 : backflushlaw40_sane_m = some true := by decide +kernel
theorem few40 (w : GWorld) (l : List GSpec) (h : List Int) : backflushref40_Few_m w l h = some (decide (w.facts.length ≤ 60) && decide (l.length ≤ 20) && decide (h.length ≤ 20)) := by
  unfold backflushref40_Few_m
  simp only [cond_and]
  rw [show decide (((w.facts.length : Nat) : Int) ≤ 60) = decide (w.facts.length ≤ 60) from decide_eq_decide.2 (by omega), show decide (((l.length : Nat) : Int) ≤ 20) = decide (l.length ≤ 20) from decide_eq_decide.2 (by omega), show decide (((h.length : Nat) : Int) ≤ 20) = decide (h.length ≤ 20) from decide_eq_decide.2 (by omega)]
theorem few_spec {w : GWorld} {l : List GSpec} {h : List Int} (hf : (decide (w.facts.length ≤ 60) && decide (l.length ≤ 20) && decide (h.length ≤ 20)) = true) : w.facts.length ≤ 60 ∧ l.length ≤ 20 ∧ h.length ≤ 20 := by
  simpa [and_assoc] using hf

/-! #### When a certificate is good -/
theorem runC_good (fs : List GFact) (lot day kn : Int) (l : List GSpec) : (runC fs lot day kn l).2.1 = l.all fun x => (resF fs lot x.test day kn).2.2 && decide (x.lo ≤ (resF fs lot x.test day kn).1) && decide ((resF fs lot x.test day kn).1 ≤ x.hi) := by
  have key : ∀ (xs : List GSpec) (s : CS), (xs.foldl (stepC fs lot day kn) s).2.1 = (s.2.1 && xs.all fun x => (resF fs lot x.test day kn).2.2 && decide (x.lo ≤ (resF fs lot x.test day kn).1) && decide ((resF fs lot x.test day kn).1 ≤ x.hi)) := by
    intro xs
    induction xs with
    | nil => intro s; simp
    | cons x xs ih => intro s; rw [List.foldl_cons, ih, List.all_cons]; simp [stepC, Bool.and_assoc]
  exact (key l _).trans (by simp)
theorem LotF_ok {fs : List GFact} {lot day kn : Int} (h : (LotF fs lot day kn).2.2 = true) : 0 ≤ day ∧ day < 1024 ∧ rightF (LotF fs lot day kn).1 = true := by
  unfold LotF at h ⊢
  cases h1 : decide (0 ≤ day) && decide (day < 1024)
  · rw [h1] at h; cases h
  · rw [h1] at h
    simp only [Bool.not_true, cond_false] at h ⊢
    simp only [Bool.and_eq_true, decide_eq_true_eq] at h1
    refine ⟨h1.1, h1.2, ?_⟩
    cases h2 : decide (0 ≤ lot) && decide (lot < manyF fs day kn)
    · rw [h2] at h; cases h
    · rw [h2] at h
      simp only [cond_true] at h ⊢
      unfold lotF lotG at h ⊢
      revert h
      cases (atF fs ⟨1, lot, 0⟩ day kn).2
      · intro h; cases h
      cases (atF fs ⟨1, lot, 1⟩ day kn).2
      · intro h; cases h
      cases (atF fs ⟨1, lot, 2⟩ day kn).2
      · intro h; cases h
      cases (atF fs ⟨1, lot, 3⟩ day kn).2
      · intro h; cases h
      cases (atF fs ⟨1, lot, 4⟩ day kn).2
      · intro h; cases h
      simp only [Bool.not_true, cond_false]
      cases hr : rightF ⟨lot, (atF fs ⟨1, lot, 0⟩ day kn).1, (atF fs ⟨1, lot, 1⟩ day kn).1, (atF fs ⟨1, lot, 2⟩ day kn).1, (atF fs ⟨1, lot, 3⟩ day kn).1, (atF fs ⟨1, lot, 4⟩ day kn).1⟩
      · intro h; cases h
      · intro _; exact hr
theorem resF_at {fs : List GFact} {lot test day kn : Int} (h0 : 0 ≤ day) (h1 : day < 1024) (lo hi : Int) : ((resF fs lot test day kn).2.2 && decide (lo ≤ (resF fs lot test day kn).1) && decide ((resF fs lot test day kn).1 ≤ hi)) = ((atF fs ⟨8, lot, test⟩ day kn).2 && decide (0 ≤ (atF fs ⟨8, lot, test⟩ day kn).1) && decide (lo ≤ (atF fs ⟨8, lot, test⟩ day kn).1) && decide ((atF fs ⟨8, lot, test⟩ day kn).1 ≤ hi)) := by
  unfold resF
  simp only [h0, h1, decide_true, Bool.and_true, Bool.not_true, cond_false]
  cases h2 : (atF fs ⟨8, lot, test⟩ day kn).2
  · simp
  · by_cases h3 : (atF fs ⟨8, lot, test⟩ day kn).1 < 0
    · have : ¬ 0 ≤ (atF fs ⟨8, lot, test⟩ day kn).1 := by omega
      simp [h3, this]
    · have : 0 ≤ (atF fs ⟨8, lot, test⟩ day kn).1 := by omega
      simp [h3, this]
end Bf
