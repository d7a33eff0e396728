import Derived.Test.YteecgmkfbohpjaaT26
namespace Bf
open Go Go.RowKit Go.Proofs
attribute [local irreducible] Quiet Effect RunS Ev PureC Shift RunQ RunE HasF SameF

def sumsE (m : Nat) (g : Nat → Int) : List V := (List.range m).map fun j => vi (g j)
theorem sumsE_get {m i : Nat} {g : Nat → Int} (h : i < m) : (sumsE m g)[i]? = some (vi (g i)) := rng_get (fun d => vi (g d)) h
theorem sumsE_zero {v : V} {t n : Nat} (h : v = vi 0) : Blk.sl true t 1 (List.replicate n v) = Blk.sl true t 1 (sumsE n fun _ => 0) := by subst h; exact congrArg (Blk.sl true t 1) (rng_const n _)
theorem sumsE_set {m : Nat} {g g' : Nat → Int} {i : Nat} {j : Int} {v : Int} {t : Nat} (hj : j.toNat = i) (hg : ∀ d, d < m → g' d = if d = i then v else g d) : Blk.sl true t 1 ((sumsE m g).set j.toNat (vi v)) = Blk.sl true t 1 (sumsE m g') := by
  refine congrArg (Blk.sl true t 1) ?_
  unfold sumsE
  rw [hj, rng_set]
  refine List.map_congr_left fun d hd => ?_
  rw [hg d (by simpa using hd)]
  split <;> rfl
theorem sumsE_ext {m : Nat} {g g' : Nat → Int} {t : Nat} (h : ∀ d, g d = g' d) : Blk.sl true t 1 (sumsE m g) = Blk.sl true t 1 (sumsE m g') := by rw [show g = g' from funext h]
/-- What the law knows of a merged table. -/
theorem merge_facts {s : List Supply} {fits : List (List Bool)} (h : (decide (s.length ≤ 64) && (decide (fits.length = s.length) && okL (fits.headD []).length s fits)) = true) :
    s.length ≤ 64 ∧ fits.length = s.length ∧ (∀ x ∈ s, 0 ≤ x.amount ∧ x.amount ≤ 1048576) ∧ (∀ r ∈ fits, r.length = (fits.headD []).length ∧ r.length ≤ 64) ∧ formedB s fits = true ∧ mergeV s fits = (mGo s fits ([], [], []), 0) := by
  have hm : mergeV s fits = (mGo s fits ([], [], []), 0) := by simp only [mergeV, h, cond_true]
  have h' := h
  simp only [Bool.and_eq_true, decide_eq_true_eq] at h'
  obtain ⟨h1, h2, h3⟩ := h'
  rw [okL_all _ _ _ h2] at h3
  simp only [Bool.and_eq_true, List.all_eq_true, inB, decide_eq_true_eq] at h3
  refine ⟨h1, h2, h3.1, h3.2, ?_, hm⟩
  simp only [formedB, h2, decide_true, Bool.true_and]
  cases fits with
  | nil => rfl
  | cons r fs =>
    simp only [List.all_eq_true, decide_eq_true_eq]
    exact fun q hq => (h3.2 q hq).1
theorem mergeV_cases (s : List Supply) (fits : List (List Bool)) : mergeV s fits = (([], [], []), 290) ∨ (decide (s.length ≤ 64) && (decide (fits.length = s.length) && okL (fits.headD []).length s fits)) = true := by
  cases h : (decide (s.length ≤ 64) && (decide (fits.length = s.length) && okL (fits.headD []).length s fits)) with
  | false => exact .inl (mergeV_no h).symm
  | true => exact .inr rfl
theorem merge_again {xs : List Supply} {ys : List (List Bool)} {n : Nat} (hl : xs.length = ys.length) (hn : ys.Nodup) (h64 : xs.length ≤ 64) (hx : ∀ x ∈ xs, 0 ≤ x.amount ∧ x.amount ≤ 1048576) (hy : ∀ r ∈ ys, r.length = n ∧ r.length ≤ 64) :
    mergeV xs ys = ((xs, ys, (List.range ys.length).map (fun i : Nat => (i : Int))), 0) := by
  have hh : ∀ r ∈ ys, r.length = (ys.headD []).length := fun r hr => by
    cases ys with
    | nil => cases hr
    | cons q qs => rw [(hy r hr).1]; exact (hy q (List.mem_cons_self ..)).1.symm
  have hok : okL (ys.headD []).length xs ys = true := by
    rw [okL_all _ _ _ hl.symm]
    simp only [Bool.and_eq_true, List.all_eq_true, inB, decide_eq_true_eq]
    exact ⟨hx, fun r hr => ⟨hh r hr, (hy r hr).2⟩⟩
  have := mGo_same xs ys [] [] hl (by simpa using hn)
  simp only [mergeV, h64, hl.symm, hok, decide_true, Bool.and_self, cond_true]
  simpa [hl] using this

set_option maxRecDepth 20000 in
set_option maxHeartbeats 2000000 in
theorem classes_c (s : List Supply) (fits : List (List Bool)) : PureC Try.prog false 7 [.l 6 (s.map Supply.enc), .l 1 (fits.map rowE)] (.b true) := by
  have cm := merge_c s fits
  have cf := formed_c s fits
  refine pure_len fun hL => pure_intro (N := 193) Try.func7 rfl rfl rfl rfl fun C hO => ?_
  have hls := len0 hL
  rcases mergeV_cases s fits with e | hc
  · rw [e] at cm
    repeat' (first | (show RunS _ _ _ _ _ _ _; first | refine wq (h := ?_) | refine wc (sane_c) (h := ?_) | refine wca (sane_c) (h := ?_) | refine wc (fewTable_c _) (h := ?_) | refine wca (fewTable_c _) (h := ?_) | refine wc (cm) (h := ?_) | refine wca (cm) (h := ?_) | refine we (h := ?_) | refine ws (h := ?_) | refine rg rfl rfl (fun _ => ?_) (fun _ => ?_)) | (show RunQ _ _ _ _ _ _; first | refine wqb (ht := ?_) (hf := ?_) | refine wqbc (sane_c) (ht := ?_) (hff := ?_) | refine wqbc (fewTable_c _) (ht := ?_) (hff := ?_) | refine wqbc (cm) (ht := ?_) (hff := ?_) | refine wqq (h := ?_) | refine wqc (sane_c) (h := ?_) | refine wqca (sane_c) (h := ?_) | refine wqc (fewTable_c _) (h := ?_) | refine wqca (fewTable_c _) (h := ?_) | refine wqc (cm) (h := ?_) | refine wqca (cm) (h := ?_) | refine wqs (h := ?_)) | refine ev_seq ?_ | refine ev_region ?_ | refine ev_draw (by kernel_rfl) (by kernel_rfl) ?_ | refine qn ?_ | refine run_nil ?_ | refine ev_block ?_ | refine ev_skip ?_ | refine ev_exit ?_ | refine ev_ret ?_ | refine ev_condt rfl ?_ | refine ev_condf rfl ?_ | refine ev_cond rfl (fun _ => ?_) (fun _ => ?_) | (intro h; exfalso; simp at h; done) | (intro _))
    all_goals first | (exfalso; rename_i q; simp at q; done) | exact ret1b rfl rfl rfl
  obtain ⟨hs64, hfl, hsa, hfa, hfo, hm⟩ := merge_facts hc
  rw [hm] at cm
  rw [hfo] at cf
  have hI := MInv.all (fits := fits) hsa hs64
  generalize mGo s fits ([], [], []) = A at cm hI
  obtain ⟨xs, ys, of⟩ := A
  have hlen := hI.len
  have hofs := hI.ofs
  have hfew := hI.few
  dsimp only at hlen hofs hfew cm
  have hzl : (s.zip fits).length = s.length := by simp [hfl]
  have hol : of.length = s.length := hofs.trans hzl
  have hof64 : of.length ≤ maxLen := by unfold maxLen; omega
  have hxs64 : xs.length ≤ maxLen := by unfold maxLen; omega
  repeat' (first | (refine wmks (hb := by simp; omega) (h := ?_)) | (show RunS _ _ _ _ _ _ _; first | refine wq (h := ?_) | refine wc (sane_c) (h := ?_) | refine wca (sane_c) (h := ?_) | refine wc (fewTable_c _) (h := ?_) | refine wca (fewTable_c _) (h := ?_) | refine wc (cm) (h := ?_) | refine wca (cm) (h := ?_) | refine wc (cf) (h := ?_) | refine wca (cf) (h := ?_) | refine we (h := ?_) | refine ws (h := ?_) | refine rg rfl rfl (fun _ => ?_) (fun _ => ?_)) | (show RunQ _ _ _ _ _ _; first | refine wqb (ht := ?_) (hf := ?_) | refine wqbc (sane_c) (ht := ?_) (hff := ?_) | refine wqbc (fewTable_c _) (ht := ?_) (hff := ?_) | refine wqbc (cm) (ht := ?_) (hff := ?_) | refine wqbc (cf) (ht := ?_) (hff := ?_) | refine wqq (h := ?_) | refine wqc (sane_c) (h := ?_) | refine wqca (sane_c) (h := ?_) | refine wqc (fewTable_c _) (h := ?_) | refine wqca (fewTable_c _) (h := ?_) | refine wqc (cm) (h := ?_) | refine wqca (cm) (h := ?_) | refine wqc (cf) (h := ?_) | refine wqca (cf) (h := ?_) | refine wqs (h := ?_)) | refine ev_seq ?_ | refine ev_region ?_ | refine ev_draw (by kernel_rfl) (by kernel_rfl) ?_ | refine qn ?_ | refine run_nil ?_ | refine ev_block ?_ | refine ev_skip ?_ | refine ev_exit ?_ | refine ev_ret ?_ | refine ev_condt rfl ?_ | refine ev_condf rfl ?_ | refine ev_cond rfl (fun _ => ?_) (fun _ => ?_) | (intro h; exfalso; simp at h; done) | (intro _))
  all_goals first | (exfalso; rename_i q; simp [hlen, hol] at q; done) | exact ret1b rfl rfl rfl | skip
  refine ev_forP of.length (fun _ => True) [0, 1, 5, 6, 9, 76, 77] (fun k => [(78, .v true (.i .i64 (cN k)))]) [] (fun k => [(75, .sl true 3 1 (sumsE (xs.map Supply.enc).length fun j => amt ((s.zip fits).take k) (of.take k) j))]) trivial ?_ fun k hk _ => ?_
  · (refine at_shift ?_ ?_ ?_ ?_ rfl rfl <;> repeat (first | refine same1 rfl ?_ | refine has1 rfl rfl ?_ | refine has1 rfl (by exact sumsE_zero rfl) ?_ | exact has0 | exact same0))
  refine ev_seq ?_
  repeat (first | (show RunS _ _ _ _ _ _ _; first | refine wq (h := ?_) | refine we (h := ?_) | refine ws (h := ?_)) | (show RunQ _ _ _ _ _ _; first | refine wqb (ht := ?_) (hf := ?_) | refine wqq (h := ?_) | refine wqs (h := ?_)) | refine ev_seq ?_ | refine ev_region ?_ | refine ev_draw (by kernel_rfl) (by kernel_rfl) ?_ | refine qn ?_ | refine run_nil ?_ | refine ev_block ?_ | refine ev_skip ?_ | refine ev_exit ?_ | refine ev_ret ?_)
  refine ev_cond rfl (fun hc => ?_) (fun hc => ?_)
  · obtain ⟨o, h1, h2, h3, h4, h5, h6⟩ := round_in hof64 hk hc
    obtain ⟨x, r1, r2, r3, r4, r5⟩ := idx_at (enc := Supply.enc) (ys := s) (k := k) (by omega) (by omega)
    obtain ⟨row, p1, p2, p3, p4, p5⟩ := idx_at (enc := rowE) (ys := fits) (k := k) (by omega) (by omega)
    have hz : (s.zip fits)[k]? = some (x, row) := by rw [List.getElem?_zip_eq_some]; exact ⟨r3, p3⟩
    obtain ⟨j, q1, q2⟩ := hI.cls k _ hz
    dsimp only at q1 q2
    rw [h4] at q1
    cases q1
    have hjy : j < ys.length := (List.getElem?_eq_some_iff.1 q2).1
    have g0 : (0 : Int) ≤ ((j : Nat) : Int) := by omega
    have g1 : ((j : Nat) : Int) < ((xs.map Supply.enc).length : Nat) := by simp; omega
    have g2 : (ys.map rowE)[((j : Nat) : Int).toNat]? = some (rowE row) := by rw [Int.toNat_natCast]; simp [q2]
    have g3 : (sumsE (xs.map Supply.enc).length fun j => amt ((s.zip fits).take k) (of.take k) j)[((j : Nat) : Int).toNat]? = some (vi (amt ((s.zip fits).take k) (of.take k) j)) := by rw [Int.toNat_natCast]; exact sumsE_get (by simp; omega)
    have hst : ∀ d, d < (xs.map Supply.enc).length → amt ((s.zip fits).take (k + 1)) (of.take (k + 1)) d = if d = j then IntKind.i64.wrap (amt ((s.zip fits).take k) (of.take k) j + x.amount) else amt ((s.zip fits).take k) (of.take k) d := fun d _ => by
      rw [List.take_succ_eq_append_getElem (by omega : k < (s.zip fits).length), List.take_succ_eq_append_getElem (by omega : k < of.length), (List.getElem?_eq_some_iff.1 hz).2, (List.getElem?_eq_some_iff.1 h4).2]
      rw [amt_snoc (by simp; omega)]
      by_cases e : d = j
      · subst e; simp
      · rw [if_neg e, if_neg (by omega)]
    repeat' (first | (refine ev_drawt (id := 16) 11 (by kernel_rfl) (by kernel_rfl) ?_) | (show RunS _ _ _ _ _ _ _; first | refine wq (h := ?_) | refine wc (sameRow_c row row) (h := ?_) | refine wca (sameRow_c row row) (h := ?_) | refine we (h := ?_) | refine ws (h := ?_) | refine rg rfl rfl (fun _ => ?_) (fun _ => ?_)) | (show RunQ _ _ _ _ _ _; first | refine wqb (ht := ?_) (hf := ?_) | refine wqbc (sameRow_c row row) (ht := ?_) (hff := ?_) | refine wqq (h := ?_) | refine wqc (sameRow_c row row) (h := ?_) | refine wqca (sameRow_c row row) (h := ?_) | refine wqs (h := ?_)) | refine ev_seq ?_ | refine ev_region ?_ | refine ev_draw (by kernel_rfl) (by kernel_rfl) ?_ | refine qn ?_ | refine run_nil ?_ | refine ev_block ?_ | refine ev_skip ?_ | refine ev_exit ?_ | refine ev_ret ?_ | refine ev_condt rfl ?_ | refine ev_condf rfl ?_ | refine ev_cond rfl (fun _ => ?_) (fun _ => ?_) | (intro h; exfalso; simp at h; done) | (intro _))
    all_goals first | (exfalso; rename_i q; simp at q; done) | (exfalso; rename_i q; simp at q; omega) | (exfalso; rename_i q _; simp at q; omega) | (exfalso; rename_i q _; simp at q; done) | (exfalso; rename_i q _ _; simp at q; omega) | (exfalso; rename_i q _ _; simp at q; done) | exact ⟨h1, trivial, by (refine at_shift ?_ ?_ ?_ ?_ rfl rfl <;> repeat (first | refine same1 rfl ?_ | refine has1 rfl rfl ?_ | refine has1 rfl (by exact sumsE_set (Int.toNat_natCast _) hst) ?_ | exact has0 | exact same0))⟩
  obtain ⟨hk', -⟩ := round_out hof64 hk hc
  subst hk'
  have hfin : ∀ j, amt ((s.zip fits).take of.length) (of.take of.length) j = amt (s.zip fits) of j := fun j => by rw [List.take_of_length_le (by omega), List.take_of_length_le (Nat.le_refl _)]
  repeat' (first | (show RunS _ _ _ _ _ _ _; first | refine wq (h := ?_) | refine we (h := ?_) | refine ws (h := ?_) | refine rg rfl rfl (fun _ => ?_) (fun _ => ?_)) | (show RunQ _ _ _ _ _ _; first | refine wqb (ht := ?_) (hf := ?_) | refine wqq (h := ?_) | refine wqs (h := ?_)) | refine ev_seq ?_ | refine ev_region ?_ | refine ev_draw (by kernel_rfl) (by kernel_rfl) ?_ | refine qn ?_ | refine run_nil ?_ | refine ev_block ?_ | refine ev_skip ?_ | refine ev_exit ?_ | refine ev_ret ?_ | refine ev_condt rfl ?_ | refine ev_condf rfl ?_ | refine ev_cond rfl (fun _ => ?_) (fun _ => ?_) | (intro h; exfalso; simp at h; done) | (intro _))
  have hys64 : ys.length ≤ maxLen := by unfold maxLen; omega
  refine ev_forP xs.length (fun _ => True) [5, 6, 9, 116] (fun k => [(117, .v true (.i .i64 (cN k)))]) [75] (fun k => []) trivial ?_ fun k hk _ => ?_
  · (refine at_shift ?_ ?_ ?_ ?_ rfl rfl <;> repeat (first | refine same1 rfl ?_ | refine has1 rfl rfl ?_ | refine has1 rfl (by simp [normD, *]) ?_ | exact has0 | exact same0))
  refine ev_seq ?_
  repeat (first | (show RunS _ _ _ _ _ _ _; first | refine wq (h := ?_) | refine we (h := ?_) | refine ws (h := ?_)) | (show RunQ _ _ _ _ _ _; first | refine wqb (ht := ?_) (hf := ?_) | refine wqq (h := ?_) | refine wqs (h := ?_)) | refine ev_seq ?_ | refine ev_region ?_ | refine ev_draw (by kernel_rfl) (by kernel_rfl) ?_ | refine qn ?_ | refine run_nil ?_ | refine ev_block ?_ | refine ev_skip ?_ | refine ev_exit ?_ | refine ev_ret ?_)
  refine ev_cond rfl (fun hc => ?_) (fun hc => ?_)
  · obtain ⟨x, h1, h2, h3, h4, h5, h6⟩ := round_in hxs64 hk hc
    obtain ⟨row, p1, p2, p3, p4, p5⟩ := idx_at (enc := rowE) (ys := ys) (k := k) (by omega) (by omega)
    have hck := cN_eq (k := k) (by omega)
    have g0 : (0 : Int) ≤ cN k := by omega
    have g1 : cN k < ((xs.map Supply.enc).length : Nat) := by simp; omega
    have g2 : cN k ≤ ((ys.map rowE).length : Nat) := by simp; omega
    have g3 : (sumsE (xs.map Supply.enc).length fun j => amt ((s.zip fits).take of.length) (of.take of.length) j)[(cN k).toNat]? = some (vi x.amount) := by
      rw [hck, Int.toNat_natCast, sumsE_get (by simp; omega), hfin, (hI.am k x h4).1]
    repeat' (first | (refine run_shift (shift_as (s := 132) (d := .v true (.l 1 ((ys.map rowE).take (cN k).toNat))) (d' := .v true (.l 1 ((ys.take k).map rowE))) rfl (by rw [hck]; simp [List.map_take])) ?_) | (refine run_shift (shift_as (s := 132) (d := .v false (.l 1 ((ys.map rowE).take (cN k).toNat))) (d' := .v false (.l 1 ((ys.take k).map rowE))) rfl (by rw [hck]; simp [List.map_take])) ?_) | (show RunS _ _ _ _ _ _ _; first | refine wq (h := ?_) | refine we (h := ?_) | refine ws (h := ?_) | refine rg rfl rfl (fun _ => ?_) (fun _ => ?_)) | (show RunQ _ _ _ _ _ _; first | refine wqb (ht := ?_) (hf := ?_) | refine wqq (h := ?_) | refine wqs (h := ?_)) | refine ev_seq ?_ | refine ev_region ?_ | refine ev_draw (by kernel_rfl) (by kernel_rfl) ?_ | refine qn ?_ | refine run_nil ?_ | refine ev_block ?_ | refine ev_skip ?_ | refine ev_exit ?_ | refine ev_ret ?_ | refine ev_condt rfl ?_ | refine ev_condf rfl ?_ | refine ev_cond rfl (fun _ => ?_) (fun _ => ?_) | (intro h; exfalso; simp at h; done) | (intro _))
    all_goals first | (exfalso; rename_i q; simp at q; done) | skip
    refine ev_forP (ys.take k).length (fun _ => True) [5, 6, 9, 12, 116, 117, 132, 133] (fun i => [(134, .v true (.i .i64 (cN i)))]) [75] (fun _ => []) trivial ?_ fun i hi _ => ?_
    · (refine at_shift ?_ ?_ ?_ ?_ rfl rfl <;> repeat (first | refine same1 rfl ?_ | refine has1 rfl rfl ?_ | refine has1 rfl (by simp [normD, *]) ?_ | exact has0 | exact same0))
    refine ev_seq ?_
    repeat (first | (show RunS _ _ _ _ _ _ _; first | refine wq (h := ?_) | refine we (h := ?_) | refine ws (h := ?_)) | (show RunQ _ _ _ _ _ _; first | refine wqb (ht := ?_) (hf := ?_) | refine wqq (h := ?_) | refine wqs (h := ?_)) | refine ev_seq ?_ | refine ev_region ?_ | refine ev_draw (by kernel_rfl) (by kernel_rfl) ?_ | refine qn ?_ | refine run_nil ?_ | refine ev_block ?_ | refine ev_skip ?_ | refine ev_exit ?_ | refine ev_ret ?_)
    have hyk : (ys.take k).length ≤ maxLen := by simp; omega
    refine ev_cond rfl (fun hc2 => ?_) (fun hc2 => ?_)
    · obtain ⟨z, y1, y2, y3, y4, y5, y6⟩ := round_in hyk hi hc2
      have hne : (z == row) = false := by
        rw [beq_eq_false_iff_ne]
        intro e
        subst e
        have hik : i < k := by simp at y1; omega
        rw [List.getElem?_take, if_pos hik] at y4
        obtain ⟨q1, q2⟩ := List.getElem?_eq_some_iff.1 y4
        obtain ⟨q3, q4⟩ := List.getElem?_eq_some_iff.1 p3
        exact (List.pairwise_iff_getElem.1 hI.nodup i k q1 q3 hik) (q2.trans q4.symm)
      have csr := sameRow_c z row
      rw [hne] at csr
      repeat' (first | (show RunS _ _ _ _ _ _ _; first | refine wq (h := ?_) | refine wc (csr) (h := ?_) | refine wca (csr) (h := ?_) | refine we (h := ?_) | refine ws (h := ?_) | refine rg rfl rfl (fun _ => ?_) (fun _ => ?_)) | (show RunQ _ _ _ _ _ _; first | refine wqb (ht := ?_) (hf := ?_) | refine wqbc (csr) (ht := ?_) (hff := ?_) | refine wqq (h := ?_) | refine wqc (csr) (h := ?_) | refine wqca (csr) (h := ?_) | refine wqs (h := ?_)) | refine ev_seq ?_ | refine ev_region ?_ | refine ev_draw (by kernel_rfl) (by kernel_rfl) ?_ | refine qn ?_ | refine run_nil ?_ | refine ev_block ?_ | refine ev_skip ?_ | refine ev_exit ?_ | refine ev_ret ?_ | refine ev_condt rfl ?_ | refine ev_condf rfl ?_ | refine ev_cond rfl (fun _ => ?_) (fun _ => ?_) | (intro h; exfalso; simp at h; done) | (intro _))
      all_goals first | (exfalso; rename_i q; simp at q; done) | exact ⟨y1, trivial, by (refine at_shift ?_ ?_ ?_ ?_ rfl rfl <;> repeat (first | refine same1 rfl ?_ | refine has1 rfl rfl ?_ | refine has1 rfl (by simp [normD, *]) ?_ | exact has0 | exact same0))⟩
    · repeat' (first | (show RunS _ _ _ _ _ _ _; first | refine wq (h := ?_) | refine we (h := ?_) | refine ws (h := ?_) | refine rg rfl rfl (fun _ => ?_) (fun _ => ?_)) | (show RunQ _ _ _ _ _ _; first | refine wqb (ht := ?_) (hf := ?_) | refine wqq (h := ?_) | refine wqs (h := ?_)) | refine ev_seq ?_ | refine ev_region ?_ | refine ev_draw (by kernel_rfl) (by kernel_rfl) ?_ | refine qn ?_ | refine run_nil ?_ | refine ev_block ?_ | refine ev_skip ?_ | refine ev_exit ?_ | refine ev_ret ?_ | refine ev_condt rfl ?_ | refine ev_condf rfl ?_ | refine ev_cond rfl (fun _ => ?_) (fun _ => ?_) | (intro h; exfalso; simp at h; done) | (intro _))
      exact ⟨h1, trivial, by (refine at_shift ?_ ?_ ?_ ?_ rfl rfl <;> repeat (first | refine same1 rfl ?_ | refine has1 rfl rfl ?_ | refine has1 rfl (by simp [normD, *]) ?_ | exact has0 | exact same0))⟩
  obtain ⟨hk', -⟩ := round_out hxs64 hk hc
  repeat' (first | (show RunS _ _ _ _ _ _ _; first | refine wq (h := ?_) | refine we (h := ?_) | refine ws (h := ?_) | refine rg rfl rfl (fun _ => ?_) (fun _ => ?_)) | (show RunQ _ _ _ _ _ _; first | refine wqb (ht := ?_) (hf := ?_) | refine wqq (h := ?_) | refine wqs (h := ?_)) | refine ev_seq ?_ | refine ev_region ?_ | refine ev_draw (by kernel_rfl) (by kernel_rfl) ?_ | refine qn ?_ | refine run_nil ?_ | refine ev_block ?_ | refine ev_skip ?_ | refine ev_exit ?_ | refine ev_ret ?_ | refine ev_condt rfl ?_ | refine ev_condf rfl ?_ | refine ev_cond rfl (fun _ => ?_) (fun _ => ?_) | (intro h; exfalso; simp at h; done) | (intro _))
  refine ev_forP xs.length (fun k => ∀ (i : Nat) x, i < k → xs[i]? = some x → x.amount ≤ 1048576) [5, 6, 146, 147] (fun k => [(148, .v true (.i .i64 (cN k)))]) [] (fun k => []) (fun i x h => by omega) ?_ fun k hk hJ => ?_
  · (refine at_shift ?_ ?_ ?_ ?_ rfl rfl <;> repeat (first | refine same1 rfl ?_ | refine has1 rfl rfl ?_ | refine has1 rfl (by simp [normD, *]) ?_ | exact has0 | exact same0))
  refine ev_seq ?_
  repeat (first | (show RunS _ _ _ _ _ _ _; first | refine wq (h := ?_) | refine we (h := ?_) | refine ws (h := ?_)) | (show RunQ _ _ _ _ _ _; first | refine wqb (ht := ?_) (hf := ?_) | refine wqq (h := ?_) | refine wqs (h := ?_)) | refine ev_seq ?_ | refine ev_region ?_ | refine ev_draw (by kernel_rfl) (by kernel_rfl) ?_ | refine qn ?_ | refine run_nil ?_ | refine ev_block ?_ | refine ev_skip ?_ | refine ev_exit ?_ | refine ev_ret ?_)
  refine ev_cond rfl (fun hc => ?_) (fun hc => ?_)
  · obtain ⟨x, h1, h2, h3, h4, h5, h6⟩ := round_in hxs64 hk hc
    repeat' (first | (show RunS _ _ _ _ _ _ _; first | refine wq (h := ?_) | refine we (h := ?_) | refine ws (h := ?_) | refine rg rfl rfl (fun _ => ?_) (fun _ => ?_)) | (show RunQ _ _ _ _ _ _; first | refine wqb (ht := ?_) (hf := ?_) | refine wqq (h := ?_) | refine wqs (h := ?_)) | refine ev_seq ?_ | refine ev_region ?_ | refine ev_draw (by kernel_rfl) (by kernel_rfl) ?_ | refine qn ?_ | refine run_nil ?_ | refine ev_block ?_ | refine ev_skip ?_ | refine ev_exit ?_ | refine ev_ret ?_ | refine ev_condt rfl ?_ | refine ev_condf rfl ?_ | refine ev_cond rfl (fun _ => ?_) (fun _ => ?_) | (intro h; exfalso; simp at h; done) | (intro _))
    · exact ret1b rfl rfl rfl
    · rename_i q
      refine ⟨h1, fun i y hi hy => ?_, by (refine at_shift ?_ ?_ ?_ ?_ rfl rfl <;> repeat (first | refine same1 rfl ?_ | refine has1 rfl rfl ?_ | refine has1 rfl (by simp [normD, *]) ?_ | exact has0 | exact same0))⟩
      by_cases e : i = k
      · subst e; rw [h4] at hy; cases hy; simp at q; omega
      · exact hJ i y (by omega) hy
  obtain ⟨hk3, -⟩ := round_out hxs64 hk hc
  have hall : ∀ x ∈ xs, 0 ≤ x.amount ∧ x.amount ≤ 1048576 := fun x hx => by
    obtain ⟨i, hi⟩ := List.getElem?_of_mem hx
    exact ⟨(hI.am i x hi).2.1, hJ i x (by have := (List.getElem?_eq_some_iff.1 hi).1; omega) hi⟩
  have hrows : ∀ r ∈ ys, r.length = (fits.headD []).length ∧ r.length ≤ 64 := fun r hr => by
    obtain ⟨p, hp, e⟩ := hI.src r hr
    subst e
    exact hfa _ (List.of_mem_zip hp).2
  have cm2 := merge_c xs ys
  rw [merge_again hlen hI.nodup (by omega) hall hrows] at cm2
  have hrl : ((List.range ys.length).map (fun i : Nat => (i : Int))).length = ys.length := by simp
  repeat' (first | (show RunS _ _ _ _ _ _ _; first | refine wq (h := ?_) | refine wc (cm2) (h := ?_) | refine wca (cm2) (h := ?_) | refine we (h := ?_) | refine ws (h := ?_) | refine rg rfl rfl (fun _ => ?_) (fun _ => ?_)) | (show RunQ _ _ _ _ _ _; first | refine wqb (ht := ?_) (hf := ?_) | refine wqbc (cm2) (ht := ?_) (hff := ?_) | refine wqq (h := ?_) | refine wqc (cm2) (h := ?_) | refine wqca (cm2) (h := ?_) | refine wqs (h := ?_)) | refine ev_seq ?_ | refine ev_region ?_ | refine ev_draw (by kernel_rfl) (by kernel_rfl) ?_ | refine qn ?_ | refine run_nil ?_ | refine ev_block ?_ | refine ev_skip ?_ | refine ev_exit ?_ | refine ev_ret ?_ | refine ev_condt rfl ?_ | refine ev_condf rfl ?_ | refine ev_cond rfl (fun _ => ?_) (fun _ => ?_) | (intro h; exfalso; simp at h; done) | (intro _))
  all_goals first | (exfalso; rename_i q; simp [hlen] at q; done) | skip
  have hr64 : ((List.range ys.length).map (fun i : Nat => (i : Int))).length ≤ maxLen := by rw [hrl]; exact hys64
  refine ev_forP ((List.range ys.length).map (fun i : Nat => (i : Int))).length (fun _ => True) [5, 6, 17, 18, 19, 174] (fun k => [(175, .v true (.i .i64 (cN k)))]) [] (fun k => []) trivial ?_ fun k hk _ => ?_
  · (refine at_shift ?_ ?_ ?_ ?_ rfl rfl <;> repeat (first | refine same1 rfl ?_ | refine has1 rfl rfl ?_ | refine has1 rfl (by simp [normD, *]) ?_ | exact has0 | exact same0))
  refine ev_seq ?_
  repeat (first | (show RunS _ _ _ _ _ _ _; first | refine wq (h := ?_) | refine we (h := ?_) | refine ws (h := ?_)) | (show RunQ _ _ _ _ _ _; first | refine wqb (ht := ?_) (hf := ?_) | refine wqq (h := ?_) | refine wqs (h := ?_)) | refine ev_seq ?_ | refine ev_region ?_ | refine ev_draw (by kernel_rfl) (by kernel_rfl) ?_ | refine qn ?_ | refine run_nil ?_ | refine ev_block ?_ | refine ev_skip ?_ | refine ev_exit ?_ | refine ev_ret ?_)
  refine ev_cond rfl (fun hc => ?_) (fun hc => ?_)
  · obtain ⟨o, h1, h2, h3, h4, h5, h6⟩ := round_in hr64 hk hc
    have ho : o = cN k := by
      rw [cN_eq (by omega)]
      rw [List.getElem?_map, List.getElem?_range (by simpa using h1)] at h4
      simpa using h4.symm
    repeat' (first | (show RunS _ _ _ _ _ _ _; first | refine wq (h := ?_) | refine we (h := ?_) | refine ws (h := ?_) | refine rg rfl rfl (fun _ => ?_) (fun _ => ?_)) | (show RunQ _ _ _ _ _ _; first | refine wqb (ht := ?_) (hf := ?_) | refine wqq (h := ?_) | refine wqs (h := ?_)) | refine ev_seq ?_ | refine ev_region ?_ | refine ev_draw (by kernel_rfl) (by kernel_rfl) ?_ | refine qn ?_ | refine run_nil ?_ | refine ev_block ?_ | refine ev_skip ?_ | refine ev_exit ?_ | refine ev_ret ?_ | refine ev_condt rfl ?_ | refine ev_condf rfl ?_ | refine ev_cond rfl (fun _ => ?_) (fun _ => ?_) | (intro h; exfalso; simp at h; done) | (intro _))
    all_goals first | (exfalso; rename_i q; simp [ho] at q; done) | exact ⟨h1, trivial, by (refine at_shift ?_ ?_ ?_ ?_ rfl rfl <;> repeat (first | refine same1 rfl ?_ | refine has1 rfl rfl ?_ | refine has1 rfl (by simp [normD, *]) ?_ | exact has0 | exact same0))⟩
  · repeat' (first | (show RunS _ _ _ _ _ _ _; first | refine wq (h := ?_) | refine wc (sameSupplies_c xs xs) (h := ?_) | refine wca (sameSupplies_c xs xs) (h := ?_) | refine wc (sameTable_c ys ys) (h := ?_) | refine wca (sameTable_c ys ys) (h := ?_) | refine we (h := ?_) | refine ws (h := ?_) | refine rg rfl rfl (fun _ => ?_) (fun _ => ?_)) | (show RunQ _ _ _ _ _ _; first | refine wqb (ht := ?_) (hf := ?_) | refine wqbc (sameSupplies_c xs xs) (ht := ?_) (hff := ?_) | refine wqbc (sameTable_c ys ys) (ht := ?_) (hff := ?_) | refine wqq (h := ?_) | refine wqc (sameSupplies_c xs xs) (h := ?_) | refine wqca (sameSupplies_c xs xs) (h := ?_) | refine wqc (sameTable_c ys ys) (h := ?_) | refine wqca (sameTable_c ys ys) (h := ?_) | refine wqs (h := ?_)) | refine ev_seq ?_ | refine ev_region ?_ | refine ev_draw (by kernel_rfl) (by kernel_rfl) ?_ | refine qn ?_ | refine run_nil ?_ | refine ev_block ?_ | refine ev_skip ?_ | refine ev_exit ?_ | refine ev_ret ?_ | refine ev_condt rfl ?_ | refine ev_condf rfl ?_ | refine ev_cond rfl (fun _ => ?_) (fun _ => ?_) | (intro h; exfalso; simp at h; done) | (intro _))
    all_goals first | (exfalso; rename_i q; simp at q; done) | exact ret1b rfl rfl (by simp)
end Bf
