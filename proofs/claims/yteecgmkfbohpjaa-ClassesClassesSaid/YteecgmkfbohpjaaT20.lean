import Derived.Test.YteecgmkfbohpjaaT19
namespace Bf
open Go Go.RowKit Go.Proofs
attribute [local irreducible] Quiet Effect RunS Ev PureC Shift RunQ RunE HasF SameF

abbrev sA : Supply := ⟨0, 0, 0, 2, 10, 4⟩
abbrev sB : Supply := ⟨1, 1, 0, 0, 20, 3⟩
abbrev sR : Request := ⟨0, 1, 3, 6, 4, 5⟩
abbrev sKey : Key := ⟨7, 3, 0⟩
def zeroW : Wld := ⟨fun _ => nilV, [], nilV, nilV, []⟩
theorem s1 : fitsV sampleW sA sR 9 = (true, [⟨sKey, 6, 7⟩]) := by decide +kernel
theorem s2 : fitsV sampleW sA sR 10 = (false, [⟨sKey, 6, 7⟩]) := by decide +kernel
theorem s3 : fitsV sampleW sA ⟨0, 1, 3, 7, 4, 5⟩ 9 = (false, []) := by decide +kernel
theorem s4 : fitsV sampleW sB ⟨0, 0, 3, 6, 4, 5⟩ 9 = (false, []) := by decide +kernel
theorem s5 : tableV sampleW [sA, sB, sA] [sR, ⟨0, 0, 3, 6, 4, 5⟩] 10 = ([[false, false], [true, false], [false, false]], [⟨sKey, 6, 7⟩, ⟨⟨7, 3, 1⟩, 6, 7⟩], 0) := by decide +kernel
theorem s6 : tableV zeroW [] [] 0 = ([], [], 0) := by decide +kernel
theorem s7 : fitsV zeroW ⟨0, 0, 0, 0, 0, 0⟩ ⟨0, 0, 0, 0, 0, 0⟩ 0 = (true, [⟨⟨7, 0, 0⟩, 0, 1⟩]) := by decide +kernel
theorem s8 : mergeV [sA, sB, sA] [[false, false], [true, false], [false, false]] = (([⟨0, 0, 0, 2, 10, 8⟩, sB], [[false, false], [true, false]], [0, 1, 0]), 0) := by decide +kernel
theorem s9 : mergeV [] [[]] = (([], [], []), 290) := by decide +kernel
theorem s10 : tableV sampleW [⟨0, 0, 0, 0, 0, -1⟩] [] 0 = ([], [], 290) := by decide +kernel

set_option maxRecDepth 20000 in
set_option maxHeartbeats 4000000 in
theorem sane_c : PureC Try.prog true 10 [] (.b true) := by
  have c1 := fits_c sampleW sA sR 9
  have c2 := fits_c sampleW sA sR 10
  have c3 := fits_c sampleW sA ⟨0, 1, 3, 7, 4, 5⟩ 9
  have c4 := fits_c sampleW sB ⟨0, 0, 3, 6, 4, 5⟩ 9
  have c5 := table_c sampleW [sA, sB, sA] [sR, ⟨0, 0, 3, 6, 4, 5⟩] 10
  have c6 := table_c zeroW [] [] 0
  have c7 := fits_c zeroW ⟨0, 0, 0, 0, 0, 0⟩ ⟨0, 0, 0, 0, 0, 0⟩ 0
  have c8 := merge_c [sA, sB, sA] [[false, false], [true, false], [false, false]]
  have c9 := merge_c [] [[]]
  have c10 := table_c sampleW [⟨0, 0, 0, 0, 0, -1⟩] [] 0
  rw [s1] at c1
  rw [s2] at c2
  rw [s3] at c3
  rw [s4] at c4
  rw [s5] at c5
  rw [s6] at c6
  rw [s7] at c7
  rw [s8] at c8
  rw [s9] at c9
  rw [s10] at c10
  refine pure_intro (N := 242) Try.func10 rfl rfl rfl rfl fun C hO => ?_
  have g0 : (0 : Int) ≤ 2 := by omega
  have g1 : (2 : Int) ≤ ([[false, false], [true, false], [false, false]].map rowE).length := by decide
  have g2 : (0 : Int) ≤ 0 := by omega
  have g3 : (0 : Int) ≤ 1 := by omega
  have g4 : ([⟨sKey, 6, 7⟩].map Read.enc)[(0 : Int).toNat]? = some (Read.enc ⟨sKey, 6, 7⟩) := rfl
  have g5 : ([⟨sKey, 6, 7⟩, ⟨⟨7, 3, 1⟩, 6, 7⟩].map Read.enc)[(0 : Int).toNat]? = some (Read.enc ⟨sKey, 6, 7⟩) := rfl
  have g6 : ([⟨sKey, 6, 7⟩, ⟨⟨7, 3, 1⟩, 6, 7⟩].map Read.enc)[(1 : Int).toNat]? = some (Read.enc ⟨⟨7, 3, 1⟩, 6, 7⟩) := rfl
  repeat' (first | (refine wbs (h := ?_)) | (refine run_shift (shift_nil 85 (x := .st (List.replicate 11 nilV)) zeroW.enc rfl (.st (.cons (.refl _) (.cons (.refl _) (.cons (.refl _) (.cons (.refl _) (.cons (.refl _) (.cons (.refl _) (.cons (.refl _) (.cons (.nil 4) (.cons (.refl _) (.cons (.refl _) (.cons (.nil 8) .nil))))))))))))) ?_) | (refine run_shift (shift_nil 91 (x := .st (List.replicate 11 nilV)) zeroW.enc rfl (.st (.cons (.refl _) (.cons (.refl _) (.cons (.refl _) (.cons (.refl _) (.cons (.refl _) (.cons (.refl _) (.cons (.refl _) (.cons (.nil 4) (.cons (.refl _) (.cons (.refl _) (.cons (.nil 8) .nil))))))))))))) ?_) | (refine run_shift (shift_nil 109 (x := .l 1 [nilV]) (.l 1 [rowE []]) rfl (.l 1 (.cons (.nil 1) .nil))) ?_) | (show RunS _ _ _ _ _ _ _; first | refine wq (h := ?_) | refine wc (sample_c) (h := ?_) | refine wca (sample_c) (h := ?_) | refine wc (c1) (h := ?_) | refine wca (c1) (h := ?_) | refine wc (c2) (h := ?_) | refine wca (c2) (h := ?_) | refine wc (c3) (h := ?_) | refine wca (c3) (h := ?_) | refine wc (c4) (h := ?_) | refine wca (c4) (h := ?_) | refine wc (c5) (h := ?_) | refine wca (c5) (h := ?_) | refine wc (c6) (h := ?_) | refine wca (c6) (h := ?_) | refine wc (c7) (h := ?_) | refine wca (c7) (h := ?_) | refine wc (c8) (h := ?_) | refine wca (c8) (h := ?_) | refine wc (c9) (h := ?_) | refine wca (c9) (h := ?_) | refine wc (c10) (h := ?_) | refine wca (c10) (h := ?_) | refine wc (sameTable_c [[false, false], [true, false], [false, false]] [[false, false], [true, false], [false, false]]) (h := ?_) | refine wca (sameTable_c [[false, false], [true, false], [false, false]] [[false, false], [true, false], [false, false]]) (h := ?_) | refine wc (sameTable_c [[false, false], [true, false]] [[false, false], [true, false]]) (h := ?_) | refine wca (sameTable_c [[false, false], [true, false]] [[false, false], [true, false]]) (h := ?_) | refine wc (sameSupplies_c [⟨0, 0, 0, 2, 10, 8⟩, sB] [⟨0, 0, 0, 2, 10, 8⟩, sB]) (h := ?_) | refine wca (sameSupplies_c [⟨0, 0, 0, 2, 10, 8⟩, sB] [⟨0, 0, 0, 2, 10, 8⟩, sB]) (h := ?_) | refine wc (sameInts_c [0, 1, 0] [0, 1, 0]) (h := ?_) | refine wca (sameInts_c [0, 1, 0] [0, 1, 0]) (h := ?_) | refine we (h := ?_) | refine ws (h := ?_) | refine rg rfl rfl (fun _ => ?_) (fun _ => ?_)) | (show RunQ _ _ _ _ _ _; first | refine wqb (ht := ?_) (hf := ?_) | refine wqbc (sample_c) (ht := ?_) (hff := ?_) | refine wqbc (c1) (ht := ?_) (hff := ?_) | refine wqbc (c2) (ht := ?_) (hff := ?_) | refine wqbc (c3) (ht := ?_) (hff := ?_) | refine wqbc (c4) (ht := ?_) (hff := ?_) | refine wqbc (c5) (ht := ?_) (hff := ?_) | refine wqbc (c6) (ht := ?_) (hff := ?_) | refine wqbc (c7) (ht := ?_) (hff := ?_) | refine wqbc (c8) (ht := ?_) (hff := ?_) | refine wqbc (c9) (ht := ?_) (hff := ?_) | refine wqbc (c10) (ht := ?_) (hff := ?_) | refine wqbc (sameTable_c [[false, false], [true, false], [false, false]] [[false, false], [true, false], [false, false]]) (ht := ?_) (hff := ?_) | refine wqbc (sameTable_c [[false, false], [true, false]] [[false, false], [true, false]]) (ht := ?_) (hff := ?_) | refine wqbc (sameSupplies_c [⟨0, 0, 0, 2, 10, 8⟩, sB] [⟨0, 0, 0, 2, 10, 8⟩, sB]) (ht := ?_) (hff := ?_) | refine wqbc (sameInts_c [0, 1, 0] [0, 1, 0]) (ht := ?_) (hff := ?_) | refine wqq (h := ?_) | refine wqc (sample_c) (h := ?_) | refine wqca (sample_c) (h := ?_) | refine wqc (c1) (h := ?_) | refine wqca (c1) (h := ?_) | refine wqc (c2) (h := ?_) | refine wqca (c2) (h := ?_) | refine wqc (c3) (h := ?_) | refine wqca (c3) (h := ?_) | refine wqc (c4) (h := ?_) | refine wqca (c4) (h := ?_) | refine wqc (c5) (h := ?_) | refine wqca (c5) (h := ?_) | refine wqc (c6) (h := ?_) | refine wqca (c6) (h := ?_) | refine wqc (c7) (h := ?_) | refine wqca (c7) (h := ?_) | refine wqc (c8) (h := ?_) | refine wqca (c8) (h := ?_) | refine wqc (c9) (h := ?_) | refine wqca (c9) (h := ?_) | refine wqc (c10) (h := ?_) | refine wqca (c10) (h := ?_) | refine wqc (sameTable_c [[false, false], [true, false], [false, false]] [[false, false], [true, false], [false, false]]) (h := ?_) | refine wqca (sameTable_c [[false, false], [true, false], [false, false]] [[false, false], [true, false], [false, false]]) (h := ?_) | refine wqc (sameTable_c [[false, false], [true, false]] [[false, false], [true, false]]) (h := ?_) | refine wqca (sameTable_c [[false, false], [true, false]] [[false, false], [true, false]]) (h := ?_) | refine wqc (sameSupplies_c [⟨0, 0, 0, 2, 10, 8⟩, sB] [⟨0, 0, 0, 2, 10, 8⟩, sB]) (h := ?_) | refine wqca (sameSupplies_c [⟨0, 0, 0, 2, 10, 8⟩, sB] [⟨0, 0, 0, 2, 10, 8⟩, sB]) (h := ?_) | refine wqc (sameInts_c [0, 1, 0] [0, 1, 0]) (h := ?_) | refine wqca (sameInts_c [0, 1, 0] [0, 1, 0]) (h := ?_) | refine wqs (h := ?_)) | refine ev_seq ?_ | refine ev_region ?_ | refine ev_draw (by kernel_rfl) (by kernel_rfl) ?_ | refine qn ?_ | refine run_nil ?_ | refine ev_block ?_ | refine ev_skip ?_ | refine ev_exit ?_ | refine ev_ret ?_ | refine ev_condt rfl ?_ | refine ev_condf rfl ?_ | refine ev_cond rfl (fun _ => ?_) (fun _ => ?_) | (intro h; exfalso; simp at h; done) | (intro _))
  exact ret1b rfl rfl (by decide +kernel)
end Bf
