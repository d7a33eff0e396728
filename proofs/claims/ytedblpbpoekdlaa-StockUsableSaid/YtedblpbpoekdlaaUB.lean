/- Plain laws: the lots (stock), both as the program and as the reference say them. -/
import Derived.Test.YtedblpbpoekdlaaUA
namespace Bf
open Go Go.RowKit Go.Proofs

def rdF (k : GKey) (day : Int) : GRead := ⟨k, day, wr (day + 1)⟩
def lot0 : GLot := ⟨0, 0, 0, 0, 0, 0⟩
theorem looker_at (L : GstockLooker) (k : GKey) (h : L.reads.length ≤ 100000000) : stock_looker_at_m L k = some ((atF L.w.facts k L.day L.known).1, (atF L.w.facts k L.day L.known).2, (⟨L.w, L.day, L.known, L.reads ++ [rdF k L.day]⟩ : GstockLooker)) := by
  unfold stock_looker_at_m
  rw [gd_true (by simp; omega), facts_At]
  rfl
def rightF (l : GLot) : Bool := decide (0 ≤ l.item) && decide (l.item ≤ 31) && (decide (0 ≤ l.plant) && decide (l.plant ≤ 7)) && decide (1 ≤ l.amount) && (decide (0 ≤ l.expiry) && decide (l.expiry ≤ 1024)) && (decide (0 ≤ l.state) && decide (l.state ≤ 3))
theorem stock_right (l : GLot) : stock_right_m l = some (rightF l) := by
  unfold stock_right_m stock_right_1_m rightF
  simp only [bd, cond_and, bdc]
  cases decide (0 ≤ l.item) <;> cases decide (l.item ≤ 31) <;> cases decide (0 ≤ l.plant) <;> cases decide (l.plant ≤ 7) <;> cases decide (1 ≤ l.amount) <;> cases decide (0 ≤ l.expiry) <;> cases decide (l.expiry ≤ 1024) <;> rfl
theorem ref_right (l : GLot) : backflushref18_Right_m l = some (rightF l) := by
  unfold backflushref18_Right_m rightF
  simp only [cond_and]
  rw [show decide (l.item < 32) = decide (l.item ≤ 31) from decide_eq_decide.2 (by omega), show decide (l.plant < 8) = decide (l.plant ≤ 7) from decide_eq_decide.2 (by omega)]
  simp only [Bool.and_assoc]

def lotG (no : Int) (v : Int → Int × Bool) (rd : Int → GRead) : GLot × List GRead × Bool :=
  bif !(v 0).2 then (lot0, [rd 0], false) else bif !(v 1).2 then (lot0, [rd 0, rd 1], false) else bif !(v 2).2 then (lot0, [rd 0, rd 1, rd 2], false) else
  bif !(v 3).2 then (lot0, [rd 0, rd 1, rd 2, rd 3], false) else bif !(v 4).2 then (lot0, [rd 0, rd 1, rd 2, rd 3, rd 4], false) else
  bif !(rightF ⟨no, (v 0).1, (v 1).1, (v 2).1, (v 3).1, (v 4).1⟩) then (lot0, [rd 0, rd 1, rd 2, rd 3, rd 4], false) else (⟨no, (v 0).1, (v 1).1, (v 2).1, (v 3).1, (v 4).1⟩, [rd 0, rd 1, rd 2, rd 3, rd 4], true)
/-- A lot's fields, as they are known, and what was read for them. -/
def lotF (fs : List GFact) (no day kn : Int) : GLot × List GRead × Bool := lotG no (fun i => atF fs ⟨1, no, i⟩ day kn) (fun i => rdF ⟨1, no, i⟩ day)

theorem lotF_len (fs : List GFact) (no day kn : Int) : (lotF fs no day kn).2.1.length ≤ 5 := by
  unfold lotF lotG
  generalize rightF _ = b
  cases b <;> cases (atF fs ⟨1, no, 0⟩ day kn).2 <;> cases (atF fs ⟨1, no, 1⟩ day kn).2 <;> cases (atF fs ⟨1, no, 2⟩ day kn).2 <;> cases (atF fs ⟨1, no, 3⟩ day kn).2 <;> cases (atF fs ⟨1, no, 4⟩ day kn).2 <;> simp
theorem looker_lot (L : GstockLooker) (no : Int) (h : L.reads.length ≤ 10000) : stock_looker_lot_m L no = some ((lotF L.w.facts no L.day L.known).1, (lotF L.w.facts no L.day L.known).2.2, (⟨L.w, L.day, L.known, L.reads ++ (lotF L.w.facts no L.day L.known).2.1⟩ : GstockLooker)) := by
  unfold stock_looker_lot_m lotF lotG
  simp only [jn]
  rw [looker_at _ _ (by omega)]
  simp only [bd]
  cases h0 : (atF L.w.facts ⟨1, no, 0⟩ L.day L.known).2
  · rfl
  simp only [Bool.not_true, cond_false]
  rw [looker_at _ _ (by simp; omega)]
  simp only
  cases h1 : (atF L.w.facts ⟨1, no, 1⟩ L.day L.known).2
  · simp; rfl
  simp only [Bool.not_true, cond_false]
  rw [looker_at _ _ (by simp; omega)]
  simp only
  cases h2 : (atF L.w.facts ⟨1, no, 2⟩ L.day L.known).2
  · simp; rfl
  simp only [Bool.not_true, cond_false]
  rw [looker_at _ _ (by simp; omega)]
  simp only
  cases h3 : (atF L.w.facts ⟨1, no, 3⟩ L.day L.known).2
  · simp; rfl
  simp only [Bool.not_true, cond_false]
  rw [looker_at _ _ (by simp; omega)]
  simp only
  cases h4 : (atF L.w.facts ⟨1, no, 4⟩ L.day L.known).2
  · simp; rfl
  simp only [Bool.not_true, cond_false]
  rw [stock_right]
  simp only
  cases h5 : rightF ⟨no, (atF L.w.facts ⟨1, no, 0⟩ L.day L.known).1, (atF L.w.facts ⟨1, no, 1⟩ L.day L.known).1, (atF L.w.facts ⟨1, no, 2⟩ L.day L.known).1, (atF L.w.facts ⟨1, no, 3⟩ L.day L.known).1, (atF L.w.facts ⟨1, no, 4⟩ L.day L.known).1⟩ <;> simp <;> rfl
theorem ref_lot (w : GWorld) (no day kn : Int) : backflushref18_lot_m w no day kn = some (lotF w.facts no day kn) := by
  unfold backflushref18_lot_m lotF lotG
  simp only [forN]
  rw [gd_true (by decide), show (5 - 0 : Int).toNat = 5 from rfl]
  simp only [forNg, Int.zero_add, Int.reduceAdd, ref_At, bd, ref_right, rdF]
  cases h0 : (atF w.facts ⟨1, no, 0⟩ day kn).2
  · rfl
  cases h1 : (atF w.facts ⟨1, no, 1⟩ day kn).2
  · simp [gd, lot0]
  cases h2 : (atF w.facts ⟨1, no, 2⟩ day kn).2
  · simp [gd, lot0]
  cases h3 : (atF w.facts ⟨1, no, 3⟩ day kn).2
  · simp [gd, lot0]
  cases h4 : (atF w.facts ⟨1, no, 4⟩ day kn).2
  · simp [gd, lot0]
  simp only [gd, List.length_append, List.length_cons, List.length_nil, List.nil_append, List.cons_append, Nat.zero_add, Nat.reduceAdd, Nat.reduceMul, Nat.reduceLeDiff, decide_true, cond_true, cond_false, Bool.not_true]
  cases h5 : rightF ⟨no, (atF w.facts ⟨1, no, 0⟩ day kn).1, (atF w.facts ⟨1, no, 1⟩ day kn).1, (atF w.facts ⟨1, no, 2⟩ day kn).1, (atF w.facts ⟨1, no, 3⟩ day kn).1, (atF w.facts ⟨1, no, 4⟩ day kn).1⟩ <;> simp [idx, h5, lot0]

def headK : GKey := ⟨0, 0, 0⟩
def manyF (fs : List GFact) (day kn : Int) : Int := max 0 (min (atF fs headK day kn).1 1024)
/-- A lot, as it is known on a day. -/
def LotF (fs : List GFact) (no day kn : Int) : GLot × List GRead × Bool :=
  bif !(decide (0 ≤ day) && decide (day < 1024)) then (lot0, [], false)
  else bif decide (0 ≤ no) && decide (no < manyF fs day kn) then ((lotF fs no day kn).1, rdF headK day :: (lotF fs no day kn).2.1, (lotF fs no day kn).2.2) else (lot0, [rdF headK day], false)
theorem looker_many (L : GstockLooker) (h : L.reads.length ≤ 10000) : stock_looker_many_m L = some (manyF L.w.facts L.day L.known, (⟨L.w, L.day, L.known, L.reads ++ [rdF headK L.day]⟩ : GstockLooker)) := by
  unfold stock_looker_many_m stock_head_m
  simp only [bd]
  rw [looker_at _ _ (by omega)]
  rfl
theorem stock_Lot (w : GWorld) (no day kn : Int) : stock_Lot_m w no day kn = some (LotF w.facts no day kn) := by
  unfold stock_Lot_m stock_isDay_m LotF
  simp only [bd, jn, cond_and]
  cases hd : decide (0 ≤ day) && decide (day < 1024)
  · rfl
  simp only [Bool.not_true, cond_false]
  rw [looker_many _ (by simp)]
  simp only
  cases hn : decide (0 ≤ no) && decide (no < manyF w.facts day kn)
  · rfl
  simp only [cond_true]
  rw [looker_lot _ _ (by simp)]
  rfl
theorem ref_Lot (w : GWorld) (no day kn : Int) : backflushref18_Lot_m w no day kn = some (LotF w.facts no day kn) := by
  unfold backflushref18_Lot_m backflushref18_Day_m backflushref18_head_m LotF
  simp only [bd, cond_and]
  cases hd : decide (0 ≤ day) && decide (day < 1024)
  · rfl
  simp only [Bool.not_true, cond_false]
  have hm : backflushref18_many_m w day kn = some (manyF w.facts day kn) := by
    unfold backflushref18_many_m backflushref18_Day_m backflushref18_head_m manyF
    simp only [bd, cond_and, hd, Bool.not_true, cond_false, ref_At]
    exact congrArg some (by unfold headK; omega)
  by_cases h0 : no < 0
  · have h1 : ¬ 0 ≤ no := by omega
    simp [h0, h1, bdc, rdF, headK]; rfl
  · have h1 : 0 ≤ no := by omega
    simp only [h0, h1, decide_false, decide_true, Bool.not_false, bdc, cond_true, hm, bd, cond_false, Bool.true_and, cond_or, Bool.false_or]
    by_cases h2 : no < manyF w.facts day kn
    · have h3 : ¬ manyF w.facts day kn ≤ no := by omega
      simp only [h2, h3, decide_true, decide_false, cond_true, cond_false, ref_lot]
      have hl := lotF_len w.facts no day kn
      rw [gd_true (by simp; omega)]
      rfl
    · have h3 : manyF w.facts day kn ≤ no := by omega
      simp [h2, h3, rdF, headK]; rfl
end Bf
