import Derived.Test.YteecgmkfbohpjaaT24
namespace Bf
open Go Go.RowKit Go.Proofs
attribute [local irreducible] Quiet Effect RunS Ev PureC Shift RunQ RunE HasF SameF

theorem used_more (l : List Swap) (x : Swap) (a b : Int) (h : usedB l a b = true) : usedB (l ++ [x]) a b = true := by
  simp only [usedB, Bool.or_eq_true, List.any_append] at *
  rcases h with h | h
  · exact .inl h
  · exact .inr (.inl h)
def moreS (s : Supply) (early late : Int) : Supply := { s with ready := max 0 (s.ready - early), expiry := min 1024 (s.expiry + late) }
theorem fits_more {w : Wld} {s : Supply} {r : Request} {known : Int} (x : Swap) {early late : Int} (he : 0 ≤ early) (hl : 0 ≤ late) (h : (fitsV w s r known).1 = true) : (fitsV { w with swaps := w.swaps ++ [x] } (moreS s early late) r known).1 = true := by
  have hf : s.fits w r = true := by
    cases hf : s.fits w r with
    | true => rfl
    | false => simp [fitsV, hf] at h
  have hf' : (moreS s early late).fits { w with swaps := w.swaps ++ [x] } r = true := by
    simp only [Supply.fits, Bool.and_eq_true, Bool.not_eq_true', decide_eq_false_iff_not] at hf ⊢
    obtain ⟨h1, h2, h3, h4, h5⟩ := hf
    have h1' := h1
    have h2' := h2
    simp only [Supply.ok, inB, Bool.and_eq_true, decide_eq_true_eq] at h1'
    simp only [Request.ok, inB, Bool.and_eq_true, decide_eq_true_eq] at h2'
    rw [IntWalk.i64_in _ (by omega)] at h5 ⊢
    refine ⟨?_, h2, used_more _ x _ _ h3, ?_, ?_⟩
    · show Supply.ok ⟨s.no, s.item, s.plant, max 0 (s.ready - early), min 1024 (s.expiry + late), s.amount⟩ = true
      simp only [Supply.ok, inB, Bool.and_eq_true, decide_eq_true_eq]
      exact ⟨h1'.1, h1'.2.1, h1'.2.2.1, ⟨by omega, by omega⟩, ⟨by omega, by omega⟩, h1'.2.2.2.2.2⟩
    · simp only [moreS]
      omega
    · simp only [moreS]
      omega
  simp only [fitsV, hf, hf', cond_true] at h ⊢
  exact h
set_option maxRecDepth 20000 in
theorem more_c (w : Wld) (s : Supply) (r : Request) (known : Int) (x : Swap) (early late : Int) (he : 0 ≤ early ∧ early < 256) (hla : 0 ≤ late ∧ late < 256) : PureC Try.prog false 6 [w.enc, s.enc, r.enc, vi known, x.enc, .i .u8 early, .i .u8 late] (.b true) := by
  have cf := few_c w [] []
  have c1 := fits_c w s r known
  have c2 := fits_c { w with swaps := w.swaps ++ [x] } ⟨s.no, s.item, s.plant, max 0 (IntKind.i64.wrap (s.ready - IntKind.i64.wrap early)), min 1024 (IntKind.i64.wrap (s.expiry + IntKind.i64.wrap late)), s.amount⟩ r known
  refine pure_intro (N := 73) Try.func6 rfl rfl rfl rfl fun C hO => ?_
  cases hf : fewB w [] [] with
  | false =>
    rw [hf] at cf
    repeat' (first | (refine run_shift (shift_freeze 7 (hO _) rfl rfl rfl) ?_) | (refine run_shift (shift_freeze 8 (hO _) rfl rfl rfl) ?_) | (refine run_shift (shift_freeze 9 (hO _) rfl rfl rfl) ?_) | (refine run_shift (shift_freeze 11 (hO _) rfl rfl rfl) ?_) | (show RunS _ _ _ _ _ _ _; first | refine wq (h := ?_) | refine wc (sane_c) (h := ?_) | refine wca (sane_c) (h := ?_) | refine wc (cf) (h := ?_) | refine wca (cf) (h := ?_) | refine we (h := ?_) | refine ws (h := ?_) | refine rg rfl rfl (fun _ => ?_) (fun _ => ?_)) | (show RunQ _ _ _ _ _ _; first | refine wqb (ht := ?_) (hf := ?_) | refine wqbc (sane_c) (ht := ?_) (hff := ?_) | refine wqbc (cf) (ht := ?_) (hff := ?_) | refine wqq (h := ?_) | refine wqc (sane_c) (h := ?_) | refine wqca (sane_c) (h := ?_) | refine wqc (cf) (h := ?_) | refine wqca (cf) (h := ?_) | refine wqs (h := ?_)) | refine ev_seq ?_ | refine ev_region ?_ | refine ev_draw (by kernel_rfl) (by kernel_rfl) ?_ | refine qn ?_ | refine run_nil ?_ | refine ev_block ?_ | refine ev_skip ?_ | refine ev_exit ?_ | refine ev_ret ?_ | refine ev_condt rfl ?_ | refine ev_condf rfl ?_ | refine ev_cond rfl (fun _ => ?_) (fun _ => ?_) | (intro h; exfalso; simp at h; done) | (intro _))
    all_goals exact ret1b rfl rfl rfl
  | true =>
    rw [hf] at cf
    have hsw : w.swaps.length ≤ 12 := by simp [fewB] at hf; exact hf.2
    cases hk : (fitsV w s r known).1 with
    | false =>
      rw [hk] at c1
      repeat' (first | (refine run_shift (shift_freeze 7 (hO _) rfl rfl rfl) ?_) | (refine run_shift (shift_freeze 8 (hO _) rfl rfl rfl) ?_) | (refine run_shift (shift_freeze 9 (hO _) rfl rfl rfl) ?_) | (refine run_shift (shift_freeze 11 (hO _) rfl rfl rfl) ?_) | (show RunS _ _ _ _ _ _ _; first | refine wq (h := ?_) | refine wc (sane_c) (h := ?_) | refine wca (sane_c) (h := ?_) | refine wc (cf) (h := ?_) | refine wca (cf) (h := ?_) | refine wc (c1) (h := ?_) | refine wca (c1) (h := ?_) | refine we (h := ?_) | refine ws (h := ?_) | refine rg rfl rfl (fun _ => ?_) (fun _ => ?_)) | (show RunQ _ _ _ _ _ _; first | refine wqb (ht := ?_) (hf := ?_) | refine wqbc (sane_c) (ht := ?_) (hff := ?_) | refine wqbc (cf) (ht := ?_) (hff := ?_) | refine wqbc (c1) (ht := ?_) (hff := ?_) | refine wqq (h := ?_) | refine wqc (sane_c) (h := ?_) | refine wqca (sane_c) (h := ?_) | refine wqc (cf) (h := ?_) | refine wqca (cf) (h := ?_) | refine wqc (c1) (h := ?_) | refine wqca (c1) (h := ?_) | refine wqs (h := ?_)) | refine ev_seq ?_ | refine ev_region ?_ | refine ev_draw (by kernel_rfl) (by kernel_rfl) ?_ | refine qn ?_ | refine run_nil ?_ | refine ev_block ?_ | refine ev_skip ?_ | refine ev_exit ?_ | refine ev_ret ?_ | refine ev_condt rfl ?_ | refine ev_condf rfl ?_ | refine ev_cond rfl (fun _ => ?_) (fun _ => ?_) | (intro h; exfalso; simp at h; done) | (intro _))
      all_goals exact ret1b rfl rfl rfl
    | true =>
      rw [hk] at c1
      have hm : (fitsV { w with swaps := w.swaps ++ [x] } ⟨s.no, s.item, s.plant, max 0 (IntKind.i64.wrap (s.ready - IntKind.i64.wrap early)), min 1024 (IntKind.i64.wrap (s.expiry + IntKind.i64.wrap late)), s.amount⟩ r known).1 = true := by
        have hso : s.ok = true := by
          have h1 : s.fits w r = true := by
            cases h1 : s.fits w r with
            | true => rfl
            | false => simp [fitsV, h1] at hk
          simp [Supply.fits] at h1
          exact h1.1
        simp only [Supply.ok, inB, Bool.and_eq_true, decide_eq_true_eq] at hso
        rw [IntWalk.i64_in early (by omega), IntWalk.i64_in late (by omega), IntWalk.i64_in _ (by omega), IntWalk.i64_in _ (by omega)]
        exact fits_more x he.1 hla.1 hk
      rw [hm] at c2
      repeat' (first | (refine run_shift (shift_freeze 7 (hO _) rfl rfl rfl) ?_) | (refine run_shift (shift_freeze 8 (hO _) rfl rfl rfl) ?_) | (refine run_shift (shift_freeze 9 (hO _) rfl rfl rfl) ?_) | (refine run_shift (shift_freeze 11 (hO _) rfl rfl rfl) ?_) | (refine ev_drawE (id := 11) (hideOf [(13, 18), (15, 18)] [(12, 18), (14, 18)]) (keyOf [(13, 18), (15, 18)]) (by kernel_rfl) (by kernel_rfl) (by kernel_rfl) ?_) | (refine ev_drawEt (id := 9) (hideOf [(0, 37), (5, 37), (8, 37)] []) (keyOf [(0, 37), (5, 37), (8, 37)]) 12 (by kernel_rfl) (by kernel_rfl) (by kernel_rfl) ?_) | (refine weapp (hn := by first | rfl | simp) (hb := by simp; omega) (h := ?_)) | (refine webs (h := ?_)) | (refine west (h := ?_)) | (refine run_shift (shift_freezes 45 (hO _) rfl rfl (by simp)) ?_) | (show RunS _ _ _ _ _ _ _; first | refine wq (h := ?_) | refine wc (sane_c) (h := ?_) | refine wca (sane_c) (h := ?_) | refine wc (cf) (h := ?_) | refine wca (cf) (h := ?_) | refine wc (c1) (h := ?_) | refine wca (c1) (h := ?_) | refine we (h := ?_) | refine ws (h := ?_) | refine rg rfl rfl (fun _ => ?_) (fun _ => ?_)) | (show RunQ _ _ _ _ _ _; first | refine wqb (ht := ?_) (hf := ?_) | refine wqbc (sane_c) (ht := ?_) (hff := ?_) | refine wqbc (cf) (ht := ?_) (hff := ?_) | refine wqbc (c1) (ht := ?_) (hff := ?_) | refine wqq (h := ?_) | refine wqc (sane_c) (h := ?_) | refine wqca (sane_c) (h := ?_) | refine wqc (cf) (h := ?_) | refine wqca (cf) (h := ?_) | refine wqc (c1) (h := ?_) | refine wqca (c1) (h := ?_) | refine wqs (h := ?_)) | (show RunE _ _ _ _ _ _ _ _ _; first | refine weq (h := ?_) | refine wec (sane_c) (h := ?_) | refine wec (cf) (h := ?_) | refine wec (c1) (h := ?_) | refine wes (h := ?_) | refine wen ?_) | refine ev_seq ?_ | refine ev_region ?_ | refine ev_draw (by kernel_rfl) (by kernel_rfl) ?_ | refine qn ?_ | refine run_nil ?_ | refine ev_block ?_ | refine ev_skip ?_ | refine ev_exit ?_ | refine ev_ret ?_ | refine ev_condt rfl ?_ | refine ev_condf rfl ?_ | refine ev_cond rfl (fun _ => ?_) (fun _ => ?_) | (intro h; exfalso; simp at h; done) | (intro _))
      refine run_shift (shift_as (s := 65) (d' := .v false (Wld.enc { w with swaps := w.swaps ++ [x] })) rfl ?_) ?_
      · simp [Wld.enc, normD, V.flatB, V.flatBs]; rfl
      repeat' (first | (show RunS _ _ _ _ _ _ _; first | refine wq (h := ?_) | refine wc (c2) (h := ?_) | refine wca (c2) (h := ?_) | refine we (h := ?_) | refine ws (h := ?_) | refine rg rfl rfl (fun _ => ?_) (fun _ => ?_)) | (show RunQ _ _ _ _ _ _; first | refine wqb (ht := ?_) (hf := ?_) | refine wqbc (c2) (ht := ?_) (hff := ?_) | refine wqq (h := ?_) | refine wqc (c2) (h := ?_) | refine wqca (c2) (h := ?_) | refine wqs (h := ?_)) | refine ev_seq ?_ | refine ev_region ?_ | refine ev_draw (by kernel_rfl) (by kernel_rfl) ?_ | refine qn ?_ | refine run_nil ?_ | refine ev_block ?_ | refine ev_skip ?_ | refine ev_exit ?_ | refine ev_ret ?_ | refine ev_condt rfl ?_ | refine ev_condf rfl ?_ | refine ev_cond rfl (fun _ => ?_) (fun _ => ?_) | (intro h; exfalso; simp at h; done) | (intro _))
      exact ret1b rfl rfl rfl
end Bf
