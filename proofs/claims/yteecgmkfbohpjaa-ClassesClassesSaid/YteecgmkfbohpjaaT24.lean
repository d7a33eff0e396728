import Derived.Test.YteecgmkfbohpjaaT23
namespace Bf
open Go Go.RowKit Go.Proofs
attribute [local irreducible] Quiet Effect RunS Ev PureC Shift RunQ RunE HasF SameF

theorem set_put (z : Read) (M : List Read) : mapPut (setE M) z.enc (vb true) (M.findIdx? (fun x => z == x)) = setE (bif M.any (· == z) then M else M ++ [z]) := by
  cases hc : M.any (· == z) with
  | false => rw [set_none hc]; simp [mapPut, setE]
  | true =>
    cases h : M.findIdx? (fun x => z == x) with
    | none =>
      rw [List.findIdx?_eq_none_iff] at h
      obtain ⟨u, hu, e⟩ := List.any_eq_true.1 hc
      have := h u hu
      simp at e this
      exact absurd e.symm this
    | some j =>
      rw [List.findIdx?_eq_some_iff_getElem] at h
      obtain ⟨hj, he, _⟩ := h
      simp at he
      simp only [mapPut, cond_true]
      apply List.ext_getElem?
      intro i
      rw [List.getElem?_set]
      by_cases e : j = i
      · subst e
        simp [hj, ← he]
      · simp [e]
theorem set_head (z : Read) (M : List Read) : (z :: M).findIdx? (fun x => z == x) = some 0 := by simp [List.findIdx?_cons]

theorem rdR_len (w : Wld) (x : Supply) (known : Int) : ∀ (ys : List Request) (acc : List Read), (rdR w x known ys acc).length ≤ acc.length + ys.length
  | [], acc => by simp [rdR]
  | y :: ys, acc => by
    rw [rdR]
    have h1 := rdR_len w x known ys (rdAdd acc (fitsV w x y known).2)
    have h2 := rdAdd_len (fitsV w x y known).2 acc
    have h3 := fitsV_len w x y known
    simp only [List.length_cons]
    omega
theorem rdT_len (w : Wld) (r : List Request) (known : Int) : ∀ (xs : List Supply) (acc : List Read), (rdT w r known xs acc).length ≤ acc.length + xs.length * r.length
  | [], acc => by simp [rdT]
  | x :: xs, acc => by
    rw [rdT]
    have h1 := rdT_len w r known xs (rdR w x known r acc)
    have h2 := rdR_len w x known r acc
    simp only [List.length_cons, Nat.add_mul, Nat.one_mul]
    omega
theorem tableV_sz {w : Wld} {s : List Supply} {r : List Request} {known : Int} (h : (tableV w s r known).2.2 = 0) : s.length ≤ 64 ∧ r.length ≤ 64 := by
  unfold tableV at h
  cases hc : (decide (s.length ≤ 64) && (decide (r.length ≤ 64) && (s.all Supply.ok && r.all Request.ok))) with
  | false => rw [hc] at h; cases h
  | true => simp at hc; exact ⟨hc.1, hc.2.1⟩

set_option maxRecDepth 20000 in
set_option maxHeartbeats 1000000 in
theorem tableL_c (w : Wld) (s : List Supply) (r : List Request) (known : Int) : PureC Try.prog false 5 [w.enc, .l 6 (s.map Supply.enc), .l 6 (r.map Request.enc), vi known] (.b true) := by
  have ct := table_c w s r known
  refine pure_len fun hL => pure_intro (N := 155) Try.func5 rfl rfl rfl rfl fun C hO => ?_
  have hls := len1 hL
  have hlr := len2 hL
  rcases tableV_ok w s r known with e | e
  · rw [e] at ct
    repeat' (first | (refine run_shift (shift_freeze 4 (hO _) rfl rfl rfl) ?_) | (show RunS _ _ _ _ _ _ _; first | refine wq (h := ?_) | refine wc (sane_c) (h := ?_) | refine wca (sane_c) (h := ?_) | refine wc (few_c w s r) (h := ?_) | refine wca (few_c w s r) (h := ?_) | refine wc (ct) (h := ?_) | refine wca (ct) (h := ?_) | refine we (h := ?_) | refine ws (h := ?_) | refine rg rfl rfl (fun _ => ?_) (fun _ => ?_)) | (show RunQ _ _ _ _ _ _; first | refine wqb (ht := ?_) (hf := ?_) | refine wqbc (sane_c) (ht := ?_) (hff := ?_) | refine wqbc (few_c w s r) (ht := ?_) (hff := ?_) | refine wqbc (ct) (ht := ?_) (hff := ?_) | refine wqq (h := ?_) | refine wqc (sane_c) (h := ?_) | refine wqca (sane_c) (h := ?_) | refine wqc (few_c w s r) (h := ?_) | refine wqca (few_c w s r) (h := ?_) | refine wqc (ct) (h := ?_) | refine wqca (ct) (h := ?_) | refine wqs (h := ?_)) | refine ev_seq ?_ | refine ev_region ?_ | refine ev_draw (by kernel_rfl) (by kernel_rfl) ?_ | refine qn ?_ | refine run_nil ?_ | refine ev_block ?_ | refine ev_skip ?_ | refine ev_exit ?_ | refine ev_ret ?_ | refine ev_condt rfl ?_ | refine ev_condf rfl ?_ | refine ev_cond rfl (fun _ => ?_) (fun _ => ?_) | (intro h; exfalso; simp at h; done) | (intro _))
    all_goals first | (exfalso; rename_i q; simp at q; done) | exact ret1b rfl rfl rfl
  rw [e] at ct
  repeat' (first | (refine run_shift (shift_freeze 4 (hO _) rfl rfl rfl) ?_) | (refine wmake (h := ?_)) | (show RunS _ _ _ _ _ _ _; first | refine wq (h := ?_) | refine wc (sane_c) (h := ?_) | refine wca (sane_c) (h := ?_) | refine wc (few_c w s r) (h := ?_) | refine wca (few_c w s r) (h := ?_) | refine wc (ct) (h := ?_) | refine wca (ct) (h := ?_) | refine we (h := ?_) | refine ws (h := ?_) | refine rg rfl rfl (fun _ => ?_) (fun _ => ?_)) | (show RunQ _ _ _ _ _ _; first | refine wqb (ht := ?_) (hf := ?_) | refine wqbc (sane_c) (ht := ?_) (hff := ?_) | refine wqbc (few_c w s r) (ht := ?_) (hff := ?_) | refine wqbc (ct) (ht := ?_) (hff := ?_) | refine wqq (h := ?_) | refine wqc (sane_c) (h := ?_) | refine wqca (sane_c) (h := ?_) | refine wqc (few_c w s r) (h := ?_) | refine wqca (few_c w s r) (h := ?_) | refine wqc (ct) (h := ?_) | refine wqca (ct) (h := ?_) | refine wqs (h := ?_)) | refine ev_seq ?_ | refine ev_region ?_ | refine ev_draw (by kernel_rfl) (by kernel_rfl) ?_ | refine qn ?_ | refine run_nil ?_ | refine ev_block ?_ | refine ev_skip ?_ | refine ev_exit ?_ | refine ev_ret ?_ | refine ev_condt rfl ?_ | refine ev_condf rfl ?_ | refine ev_cond rfl (fun _ => ?_) (fun _ => ?_) | (intro h; exfalso; simp at h; done) | (intro _))
  all_goals first | (exfalso; rename_i q; simp at q; done) | exact ret1b rfl rfl rfl | skip
  refine ev_forA (α := List Read) s.length (fun k M => rdT w r known s [] = rdT w r known (s.drop k) M) [2, 3, 4, 9, 10, 12, 57, 58] (fun k _ => [(59, .v true (.i .i64 (cN k)))]) [] (fun _ M => [(56, .mp true true (setE M))]) [] rfl ?_ fun k M hk hI => ?_
  · (refine at_shift ?_ ?_ ?_ ?_ rfl rfl <;> repeat (first | refine same1 rfl ?_ | refine has1 rfl rfl ?_ | refine has1 rfl (by simp [normD, *]) ?_ | exact has0 | exact same0))
  refine ev_seq ?_
  repeat (first | (show RunS _ _ _ _ _ _ _; first | refine wq (h := ?_) | refine we (h := ?_) | refine ws (h := ?_)) | (show RunQ _ _ _ _ _ _; first | refine wqb (ht := ?_) (hf := ?_) | refine wqq (h := ?_) | refine wqs (h := ?_)) | refine ev_seq ?_ | refine ev_region ?_ | refine ev_draw (by kernel_rfl) (by kernel_rfl) ?_ | refine qn ?_ | refine run_nil ?_ | refine ev_block ?_ | refine ev_skip ?_ | refine ev_exit ?_ | refine ev_ret ?_)
  refine ev_cond rfl (fun hc => ?_) (fun hc => ?_)
  · obtain ⟨x, h1, h2, h3, h4, h5, h6⟩ := round_in hls hk hc
    rw [h5, rdT] at hI
    have hcn := cN_eq (k := k) (by omega)
    have g1 : ((s.map fun x => r.map fun y => (fitsV w x y known).1).map rowE)[(cN k).toNat]? = some (rowE (r.map fun y => (fitsV w x y known).1)) := by rw [hcn]; simp [h4]
    repeat' (first | (show RunS _ _ _ _ _ _ _; first | refine wq (h := ?_) | refine we (h := ?_) | refine ws (h := ?_) | refine rg rfl rfl (fun _ => ?_) (fun _ => ?_)) | (show RunQ _ _ _ _ _ _; first | refine wqb (ht := ?_) (hf := ?_) | refine wqq (h := ?_) | refine wqs (h := ?_)) | refine ev_seq ?_ | refine ev_region ?_ | refine ev_draw (by kernel_rfl) (by kernel_rfl) ?_ | refine qn ?_ | refine run_nil ?_ | refine ev_block ?_ | refine ev_skip ?_ | refine ev_exit ?_ | refine ev_ret ?_ | refine ev_condt rfl ?_ | refine ev_condf rfl ?_ | refine ev_cond rfl (fun _ => ?_) (fun _ => ?_) | (intro h; exfalso; simp at h; done) | (intro _))
    all_goals first | (exfalso; rename_i q; simp at q; done) | skip
    refine ev_forA (α := List Read) r.length (fun j M1 => rdR w x known r M = rdR w x known (r.drop j) M1) [2, 3, 4, 9, 10, 12, 13, 14, 57, 58, 59, 72, 73] (fun j _ => [(74, .v true (.i .i64 (cN j)))]) [14] (fun _ M1 => [(56, .mp true true (setE M1))]) M rfl ?_ fun j M1 hj hJ => ?_
    · (refine at_shift ?_ ?_ ?_ ?_ rfl rfl <;> repeat (first | refine same1 rfl ?_ | refine has1 rfl rfl ?_ | refine has1 rfl (by simp [normD, *]) ?_ | exact has0 | exact same0))
    refine ev_seq ?_
    repeat (first | (show RunS _ _ _ _ _ _ _; first | refine wq (h := ?_) | refine we (h := ?_) | refine ws (h := ?_)) | (show RunQ _ _ _ _ _ _; first | refine wqb (ht := ?_) (hf := ?_) | refine wqq (h := ?_) | refine wqs (h := ?_)) | refine ev_seq ?_ | refine ev_region ?_ | refine ev_draw (by kernel_rfl) (by kernel_rfl) ?_ | refine qn ?_ | refine run_nil ?_ | refine ev_block ?_ | refine ev_skip ?_ | refine ev_exit ?_ | refine ev_ret ?_)
    refine ev_cond rfl (fun hc2 => ?_) (fun hc2 => ?_)
    · obtain ⟨y, y1, y2, y3, y4, y5, y6⟩ := round_in hlr hj hc2
      rw [y5, rdR] at hJ
      have hcj := cN_eq (k := j) (by omega)
      have g2 : ((r.map fun y => (fitsV w x y known).1).map vb)[(cN j).toNat]? = some (vb (fitsV w x y known).1) := by rw [hcj]; simp [y4]
      have cf := fits_c w x y known
      have hmem := fun z h => fitsV_mem (w := w) (x := x) (y := y) (known := known) (z := z) h
      have hl1 := fitsV_len1 (w := w) (x := x) (y := y) (known := known)
      have hle := fitsV_len w x y known
      generalize (fitsV w x y known).1 = ok at *
      generalize (fitsV w x y known).2 = l at *
      have hll : l.length ≤ maxLen := by unfold maxLen; omega
      repeat' (first | (show RunS _ _ _ _ _ _ _; first | refine wq (h := ?_) | refine wc (cf) (h := ?_) | refine wca (cf) (h := ?_) | refine we (h := ?_) | refine ws (h := ?_) | refine rg rfl rfl (fun _ => ?_) (fun _ => ?_)) | (show RunQ _ _ _ _ _ _; first | refine wqb (ht := ?_) (hf := ?_) | refine wqbc (cf) (ht := ?_) (hff := ?_) | refine wqq (h := ?_) | refine wqc (cf) (h := ?_) | refine wqca (cf) (h := ?_) | refine wqs (h := ?_)) | refine ev_seq ?_ | refine ev_region ?_ | refine ev_draw (by kernel_rfl) (by kernel_rfl) ?_ | refine qn ?_ | refine run_nil ?_ | refine ev_block ?_ | refine ev_skip ?_ | refine ev_exit ?_ | refine ev_ret ?_ | refine ev_condt rfl ?_ | refine ev_condf rfl ?_ | refine ev_cond rfl (fun _ => ?_) (fun _ => ?_) | (intro h; exfalso; simp at h; done) | (intro _))
      all_goals first | (exfalso; rename_i q; simp at q; done) | (exfalso; rename_i q; simp at q; omega) | (exfalso; rename_i q1 q; have := hl1 q1; simp [this] at q; done) | skip
      all_goals
        refine ev_forA (α := List Read) l.length (fun n M2 => rdAdd M1 l = rdAdd M2 (l.drop n)) [2, 3, 4, 9, 10, 12, 13, 14, 16, 17, 57, 58, 59, 72, 73, 74, 109, 110] (fun n _ => [(111, .v true (.i .i64 (cN n)))]) [14, 16] (fun _ M2 => [(56, .mp true true (setE M2))]) M1 rfl ?_ fun n M2 hn hK => ?_
        · (refine at_shift ?_ ?_ ?_ ?_ rfl rfl <;> repeat (first | refine same1 rfl ?_ | refine has1 rfl rfl ?_ | refine has1 rfl (by simp [normD, *]) ?_ | exact has0 | exact same0))
        refine ev_seq ?_
        repeat (first | (show RunS _ _ _ _ _ _ _; first | refine wq (h := ?_) | refine we (h := ?_) | refine ws (h := ?_)) | (show RunQ _ _ _ _ _ _; first | refine wqb (ht := ?_) (hf := ?_) | refine wqq (h := ?_) | refine wqs (h := ?_)) | refine ev_seq ?_ | refine ev_region ?_ | refine ev_draw (by kernel_rfl) (by kernel_rfl) ?_ | refine qn ?_ | refine run_nil ?_ | refine ev_block ?_ | refine ev_skip ?_ | refine ev_exit ?_ | refine ev_ret ?_)
        refine ev_cond rfl (fun hc3 => ?_) (fun hc3 => ?_)
        · obtain ⟨z, z1, z2, z3, z4, z5, z6⟩ := round_in hll hn hc3
          rw [z5, rdAdd] at hK
          have ha := at_c w.facts z.key y.due known
          have hok := (hmem z z6).2.2
          have hlk := set_look z M2
          have hpt := set_put z M2
          generalize atV w.facts z.key y.due known = A at ha hok
          obtain ⟨nn, th⟩ := A
          dsimp only at ha hok
          repeat' (first | (refine wput hlk (h := ?_)) | (show RunS _ _ _ _ _ _ _; first | refine wq (h := ?_) | refine wc (ha) (h := ?_) | refine wca (ha) (h := ?_) | refine we (h := ?_) | refine ws (h := ?_) | refine rg rfl rfl (fun _ => ?_) (fun _ => ?_)) | (show RunQ _ _ _ _ _ _; first | refine wqb (ht := ?_) (hf := ?_) | refine wqbc (ha) (ht := ?_) (hff := ?_) | refine wqq (h := ?_) | refine wqc (ha) (h := ?_) | refine wqca (ha) (h := ?_) | refine wqs (h := ?_)) | refine ev_seq ?_ | refine ev_region ?_ | refine ev_draw (by kernel_rfl) (by kernel_rfl) ?_ | refine qn ?_ | refine run_nil ?_ | refine ev_block ?_ | refine ev_skip ?_ | refine ev_exit ?_ | refine ev_ret ?_ | refine ev_condt rfl ?_ | refine ev_condf rfl ?_ | refine ev_cond rfl (fun _ => ?_) (fun _ => ?_) | (intro h; exfalso; simp at h; done) | (intro _))
          all_goals first | (exfalso; clear hK hI hJ hlk hpt hmem hl1 ct cf ha; cases th <;> simp_all; done) | (exact ⟨_, z1, hK, by (refine at_shift ?_ ?_ ?_ ?_ rfl rfl <;> repeat (first | refine same1 rfl ?_ | refine has1 rfl rfl ?_ | refine has1 rfl (by first | (simp [normD, *]; done) | (exact congrArg (Blk.mp true true) hpt)) ?_ | exact has0 | exact same0))⟩)
        · obtain ⟨z1, z2⟩ := round_out hll hn hc3
          rw [z2] at hK
          repeat' (first | (show RunS _ _ _ _ _ _ _; first | refine wq (h := ?_) | refine we (h := ?_) | refine ws (h := ?_) | refine rg rfl rfl (fun _ => ?_) (fun _ => ?_)) | (show RunQ _ _ _ _ _ _; first | refine wqb (ht := ?_) (hf := ?_) | refine wqq (h := ?_) | refine wqs (h := ?_)) | refine ev_seq ?_ | refine ev_region ?_ | refine ev_draw (by kernel_rfl) (by kernel_rfl) ?_ | refine qn ?_ | refine run_nil ?_ | refine ev_block ?_ | refine ev_skip ?_ | refine ev_exit ?_ | refine ev_ret ?_ | refine ev_condt rfl ?_ | refine ev_condf rfl ?_ | refine ev_cond rfl (fun _ => ?_) (fun _ => ?_) | (intro h; exfalso; simp at h; done) | (intro _))
          exact ⟨M2, y1, by rw [hJ, hK]; rfl, by (refine at_shift ?_ ?_ ?_ ?_ rfl rfl <;> repeat (first | refine same1 rfl ?_ | refine has1 rfl rfl ?_ | refine has1 rfl (by simp [normD, *]) ?_ | exact has0 | exact same0))⟩
    · obtain ⟨z1, z2⟩ := round_out hlr hj hc2
      rw [z2] at hJ
      repeat' (first | (show RunS _ _ _ _ _ _ _; first | refine wq (h := ?_) | refine we (h := ?_) | refine ws (h := ?_) | refine rg rfl rfl (fun _ => ?_) (fun _ => ?_)) | (show RunQ _ _ _ _ _ _; first | refine wqb (ht := ?_) (hf := ?_) | refine wqq (h := ?_) | refine wqs (h := ?_)) | refine ev_seq ?_ | refine ev_region ?_ | refine ev_draw (by kernel_rfl) (by kernel_rfl) ?_ | refine qn ?_ | refine run_nil ?_ | refine ev_block ?_ | refine ev_skip ?_ | refine ev_exit ?_ | refine ev_ret ?_ | refine ev_condt rfl ?_ | refine ev_condf rfl ?_ | refine ev_cond rfl (fun _ => ?_) (fun _ => ?_) | (intro h; exfalso; simp at h; done) | (intro _))
      exact ⟨M1, h1, by rw [hI, hJ]; rfl, by (refine at_shift ?_ ?_ ?_ ?_ rfl rfl <;> repeat (first | refine same1 rfl ?_ | refine has1 rfl rfl ?_ | refine has1 rfl (by simp [normD, *]) ?_ | exact has0 | exact same0))⟩
  · obtain ⟨z1, z2⟩ := round_out hls hk hc
    rw [z2] at hI
    have hR : rdT w r known s [] = M := hI
    have hM : M.length ≤ maxLen := by
      have h1 := rdT_len w r known s []
      obtain ⟨h2, h3⟩ := tableV_sz (w := w) (s := s) (r := r) (known := known) (by rw [e])
      have h4 : s.length * r.length ≤ 64 * 64 := Nat.mul_le_mul h2 h3
      rw [hR] at h1
      simp only [List.length_nil] at h1
      unfold maxLen; omega
    rw [hR] at ct
    rw [hR] at *
    repeat' (first | (show RunS _ _ _ _ _ _ _; first | refine wq (h := ?_) | refine we (h := ?_) | refine ws (h := ?_) | refine rg rfl rfl (fun _ => ?_) (fun _ => ?_)) | (show RunQ _ _ _ _ _ _; first | refine wqb (ht := ?_) (hf := ?_) | refine wqq (h := ?_) | refine wqs (h := ?_)) | refine ev_seq ?_ | refine ev_region ?_ | refine ev_draw (by kernel_rfl) (by kernel_rfl) ?_ | refine qn ?_ | refine run_nil ?_ | refine ev_block ?_ | refine ev_skip ?_ | refine ev_exit ?_ | refine ev_ret ?_ | refine ev_condt rfl ?_ | refine ev_condf rfl ?_ | refine ev_cond rfl (fun _ => ?_) (fun _ => ?_) | (intro h; exfalso; simp at h; done) | (intro _))
    refine ev_forP M.length (fun _ => True) [12, 139, 140] (fun n => [(141, .v true (.i .i64 (cN n)))]) [] (fun n => [(56, .mp true true (setE (M.drop n)))]) trivial ?_ fun n hn _ => ?_
    · (refine at_shift ?_ ?_ ?_ ?_ rfl rfl <;> repeat (first | refine same1 rfl ?_ | refine has1 rfl rfl ?_ | refine has1 rfl (by simp [normD, *]) ?_ | exact has0 | exact same0))
    refine ev_seq ?_
    repeat (first | (show RunS _ _ _ _ _ _ _; first | refine wq (h := ?_) | refine we (h := ?_) | refine ws (h := ?_)) | (show RunQ _ _ _ _ _ _; first | refine wqb (ht := ?_) (hf := ?_) | refine wqq (h := ?_) | refine wqs (h := ?_)) | refine ev_seq ?_ | refine ev_region ?_ | refine ev_draw (by kernel_rfl) (by kernel_rfl) ?_ | refine qn ?_ | refine run_nil ?_ | refine ev_block ?_ | refine ev_skip ?_ | refine ev_exit ?_ | refine ev_ret ?_)
    refine ev_cond rfl (fun hc3 => ?_) (fun hc3 => ?_)
    · obtain ⟨z, y1, y2, y3, y4, y5, y6⟩ := round_in hM hn hc3
      have e0 : (M.drop n).findIdx? (fun x => z == x) = some 0 := by rw [y5, set_head]
      have hlk := set_look z (M.drop n)
      have hgt := set_get z (M.drop n)
      rw [e0] at hlk hgt
      have ha : (M.drop n).any (· == z) = true := by rw [y5]; simp
      rw [ha] at hgt
      have hdl : mapDel (setE (M.drop n)) (some 0) = setE (M.drop (n + 1)) := by rw [y5]; rfl
      repeat' (first | (refine wlook hlk hgt (h := ?_)) | (refine wdel hlk (h := ?_)) | (show RunS _ _ _ _ _ _ _; first | refine wq (h := ?_) | refine we (h := ?_) | refine ws (h := ?_) | refine rg rfl rfl (fun _ => ?_) (fun _ => ?_)) | (show RunQ _ _ _ _ _ _; first | refine wqb (ht := ?_) (hf := ?_) | refine wqq (h := ?_) | refine wqs (h := ?_)) | refine ev_seq ?_ | refine ev_region ?_ | refine ev_draw (by kernel_rfl) (by kernel_rfl) ?_ | refine qn ?_ | refine run_nil ?_ | refine ev_block ?_ | refine ev_skip ?_ | refine ev_exit ?_ | refine ev_ret ?_ | refine ev_condt rfl ?_ | refine ev_condf rfl ?_ | refine ev_cond rfl (fun _ => ?_) (fun _ => ?_) | (intro h; exfalso; simp at h; done) | (intro _))
      all_goals first | (exfalso; rename_i q; simp at q; done) | exact ⟨y1, trivial, by (refine at_shift ?_ ?_ ?_ ?_ rfl rfl <;> repeat (first | refine same1 rfl ?_ | refine has1 rfl rfl ?_ | refine has1 rfl (by first | (exact congrArg (Blk.mp true true) hdl)) ?_ | exact has0 | exact same0))⟩
    · obtain ⟨-, y2⟩ := round_out hM hn hc3
      repeat' (first | (show RunS _ _ _ _ _ _ _; first | refine wq (h := ?_) | refine we (h := ?_) | refine ws (h := ?_) | refine rg rfl rfl (fun _ => ?_) (fun _ => ?_)) | (show RunQ _ _ _ _ _ _; first | refine wqb (ht := ?_) (hf := ?_) | refine wqq (h := ?_) | refine wqs (h := ?_)) | refine ev_seq ?_ | refine ev_region ?_ | refine ev_draw (by kernel_rfl) (by kernel_rfl) ?_ | refine qn ?_ | refine run_nil ?_ | refine ev_block ?_ | refine ev_skip ?_ | refine ev_exit ?_ | refine ev_ret ?_ | refine ev_condt rfl ?_ | refine ev_condf rfl ?_ | refine ev_cond rfl (fun _ => ?_) (fun _ => ?_) | (intro h; exfalso; simp at h; done) | (intro _))
      exact ret1b rfl rfl (by rw [y2]; rfl)
end Bf
