import Derived.Test.YteecgmkfbohpjaaT18
namespace Bf
open Go Go.RowKit Go.Proofs
attribute [local irreducible] Quiet Effect RunS Ev PureC Shift RunQ RunE HasF SameF

theorem okL_all (h : Nat) : ∀ (s : List Supply) (fits : List (List Bool)), fits.length = s.length → okL h s fits = (s.all (fun x => inB x.amount 0 1048576) && fits.all (fun r => decide (r.length = h) && decide (r.length ≤ 64)))
  | [], [], _ => rfl
  | x :: s, r :: fits, hl => by
    rw [okL, okL_all h s fits (by simpa using hl), List.all_cons, List.all_cons]
    cases inB x.amount 0 1048576 <;> cases (decide (r.length = h) && decide (r.length ≤ 64)) <;> simp
theorem idx_findRow (row : List Bool) : ∀ (ys : List (List Bool)) (k : Nat), (idxOf (fun z => z == row) ys k = -1 ∧ findRow row ys k = k + ys.length) ∨ (idxOf (fun z => z == row) ys k = (findRow row ys k : Int) ∧ k ≤ findRow row ys k ∧ findRow row ys k < k + ys.length)
  | [], k => .inl ⟨rfl, rfl⟩
  | z :: ys, k => by
    unfold idxOf findRow
    cases h : z == row with
    | true => right; simp
    | false =>
      rcases idx_findRow row ys (k + 1) with ⟨a, b⟩ | ⟨a, b, c⟩
      · left; simp [a, b]; omega
      · right; simp [a]; omega

theorem merge2_d (fits : List (List Bool)) : ∀ row ∈ fits, PureC Try.prog true 42 [rowE row, .q [.l 1 (fits.map rowE)]] (.b (decide ((row.length : Int) = (fits.headD []).length) && decide ((row.length : Int) ≤ 64))) := fun row hr => by
  cases fits with
  | nil => cases hr
  | cons h t => exact merge2_c row h (h :: t) rfl
theorem mergeV_eq {s : List Supply} {fits : List (List Bool)} (h1 : s.length ≤ 64) (h2 : fits.length = s.length) : (decide (s.length ≤ 64) && (decide (fits.length = s.length) && okL (fits.headD []).length s fits)) = (s.all (fun x => inB x.amount 0 1048576) && fits.all (fun row => decide ((row.length : Int) = (fits.headD []).length) && decide ((row.length : Int) ≤ 64))) := by
  rw [okL_all _ _ _ h2]
  simp only [h1, h2, decide_true, Bool.true_and]
  congr 2
  funext r
  rw [Bool.eq_iff_iff]
  simp
  omega

theorem merge_c (s : List Supply) (fits : List (List Bool)) : PureC Try.prog false 19 [.l 6 (s.map Supply.enc), .l 1 (fits.map rowE)]
    (.t [.l 6 ((mergeV s fits).1.1.map Supply.enc), .l 1 ((mergeV s fits).1.2.1.map rowE), .l 1 ((mergeV s fits).1.2.2.map vi), vi (mergeV s fits).2]) := by
  refine pure_len fun hL => pure_intro (N := 76) Try.func19 rfl rfl rfl rfl fun C hO => ?_
  have hls := len0 hL
  have hlf := len1 hL
  have hm2 := merge2_d fits
  repeat' (first | (refine run_shift (shift_freeze 3 (hO _) rfl rfl rfl) ?_) | (show RunS _ _ _ _ _ _ _; first | refine wq (h := ?_) | refine wc (allSupply_c s (fun x => inB x.amount 0 1048576) 39 [] (fun x _ => merge1_c x)) (h := ?_) | refine wca (allSupply_c s (fun x => inB x.amount 0 1048576) 39 [] (fun x _ => merge1_c x)) (h := ?_) | refine wc (allRow_c fits _ 42 [.q [.l 1 (fits.map rowE)]] hm2) (h := ?_) | refine wca (allRow_c fits _ 42 [.q [.l 1 (fits.map rowE)]] hm2) (h := ?_) | refine we (h := ?_) | refine ws (h := ?_) | refine rg rfl rfl (fun _ => ?_) (fun _ => ?_)) | (show RunQ _ _ _ _ _ _; first | refine wqb (ht := ?_) (hf := ?_) | refine wqbc (allSupply_c s (fun x => inB x.amount 0 1048576) 39 [] (fun x _ => merge1_c x)) (ht := ?_) (hff := ?_) | refine wqbc (allRow_c fits _ 42 [.q [.l 1 (fits.map rowE)]] hm2) (ht := ?_) (hff := ?_) | refine wqq (h := ?_) | refine wqc (allSupply_c s (fun x => inB x.amount 0 1048576) 39 [] (fun x _ => merge1_c x)) (h := ?_) | refine wqca (allSupply_c s (fun x => inB x.amount 0 1048576) 39 [] (fun x _ => merge1_c x)) (h := ?_) | refine wqc (allRow_c fits _ 42 [.q [.l 1 (fits.map rowE)]] hm2) (h := ?_) | refine wqca (allRow_c fits _ 42 [.q [.l 1 (fits.map rowE)]] hm2) (h := ?_) | refine wqs (h := ?_)) | refine ev_seq ?_ | refine ev_region ?_ | refine ev_draw (by kernel_rfl) (by kernel_rfl) ?_ | refine qn ?_ | refine run_nil ?_ | refine ev_block ?_ | refine ev_skip ?_ | refine ev_exit ?_ | refine ev_ret ?_ | refine ev_condt rfl ?_ | refine ev_condf rfl ?_ | refine ev_cond rfl (fun _ => ?_) (fun _ => ?_) | (intro h; exfalso; simp at h; done) | (intro _))
  · rename_i h
    exact ret4_n rfl rfl rfl rfl rfl (mergeV_no (by simp at h; simp; omega))
  · rename_i h
    exact ret4_n rfl rfl rfl rfl rfl (mergeV_no (by simp at h; simp; omega))
  · rename_i h2 h1 h
    have hs64 : s.length ≤ 64 := by simp at h2; omega
    have hfl : fits.length = s.length := by simp at h1; omega
    exact ret4_n rfl rfl rfl rfl rfl (mergeV_no (by rw [mergeV_eq hs64 hfl]; simp only [Bool.not_eq_true'] at h; rw [h, Bool.false_and]))
  · rename_i h2 h1 h0 h
    have hs64 : s.length ≤ 64 := by simp at h2; omega
    have hfl : fits.length = s.length := by simp at h1; omega
    exact ret4_n rfl rfl rfl rfl rfl (mergeV_no (by rw [mergeV_eq hs64 hfl]; simp only [Bool.not_eq_true'] at h; rw [h, Bool.and_false]))
  rename_i q2 q1 q4 q3
  have hs64 : s.length ≤ 64 := by simp at q2; omega
  have hfl : fits.length = s.length := by simp at q1; omega
  have hV : mergeV s fits = (mGo s fits ([], [], []), 0) := by
    simp only [mergeV, mergeV_eq hs64 hfl]
    simp only [Bool.not_eq_false'] at q3 q4
    rw [q3, q4]; rfl
  clear q1 q2 q3 q4 hm2
  refine ev_shift (shift_own 4 400 51 6 rfl) (ev_shift (shift_own 5 500 64 1 rfl) (ev_shift (shift_own 6 600 3 1 rfl) ?_))
  refine ev_forA (α := MA × Bool) fits.length (fun k a => mGo s fits ([], [], []) = mGo (s.drop k) (fits.drop k) a.1 ∧ a.1.1.length = a.1.2.1.length ∧ a.1.2.1.length ≤ k ∧ a.1.2.2.length ≤ k) [0, 7, 30, 31]
    (fun k a => [(32, .v true (.i .i64 (cN k))), (4, .o 400 (a.1.1.map Supply.enc).length), (5, .o 500 (a.1.2.1.map rowE).length), (6, .o 600 (a.1.2.2.map vi).length)]) [3]
    (fun _ a => [(400, .sl true 51 6 (a.1.1.map Supply.enc)), (500, .sl a.2 64 1 (a.1.2.1.map rowE)), (600, .sl true 3 1 (a.1.2.2.map vi))]) (([], [], []), true) ⟨rfl, rfl, Nat.le_refl _, Nat.le_refl _⟩ ?_ fun k a hk hI => ?_
  · (refine at_shift ?_ ?_ ?_ ?_ rfl rfl <;> repeat (first | refine same1 rfl ?_ | refine has1 rfl rfl ?_ | refine has1 rfl (by simp [normD, *]) ?_ | exact has0 | exact same0))
  obtain ⟨⟨xs, ys, of⟩, fl⟩ := a
  obtain ⟨hI1, hI2, hI3, hI4⟩ := hI
  dsimp only at hI1 hI2 hI3 hI4
  refine ev_seq ?_
  repeat (first | (show RunS _ _ _ _ _ _ _; first | refine wq (h := ?_) | refine we (h := ?_) | refine ws (h := ?_)) | (show RunQ _ _ _ _ _ _; first | refine wqb (ht := ?_) (hf := ?_) | refine wqq (h := ?_) | refine wqs (h := ?_)) | refine ev_seq ?_ | refine ev_region ?_ | refine ev_draw (by kernel_rfl) (by kernel_rfl) ?_ | refine qn ?_ | refine run_nil ?_ | refine ev_block ?_ | refine ev_skip ?_ | refine ev_exit ?_ | refine ev_ret ?_)
  refine ev_cond rfl (fun hc => ?_) (fun hc => ?_)
  · obtain ⟨row, h1, h2, h3, h4, h5, h6⟩ := round_in hlf hk hc
    obtain ⟨x, r1, r2, r3, r4, r5⟩ := idx_at (enc := Supply.enc) (ys := s) (k := k) (by omega) (by omega)
    rw [h5, r4, mGo] at hI1
    have hix := idxRow_c ys (fun z => z == row) 44 [.q [rowE row]] (fun z _ => merge3_c z row)
    rcases idx_findRow row ys 0 with ⟨e1, e2⟩ | ⟨e1, _, e2⟩
    · rw [e1] at hix
      have hm : mStep x row (xs, ys, of) = (xs ++ [x], ys ++ [row], of ++ [(ys.length : Int)]) := by simp [mStep, e2]
      repeat' (first | (refine run_shift (shift_freeze 9 (cs := [.v false (rowE row)]) (hO _) rfl rfl rfl) ?_) | (refine ev_drawE (id := 11) (hideOf [(6, 400), (10, 500)] [(0, 400), (7, 500), (11, 400), (12, 500)]) (keyOf [(6, 400), (10, 500)]) (by kernel_rfl) (by kernel_rfl) (by kernel_rfl) ?_) | (refine weapp (hb := by simp; omega) (h := ?_)) | (refine wapp (hb := by simp; omega) (h := ?_)) | (show RunS _ _ _ _ _ _ _; first | refine wq (h := ?_) | refine wc (hix) (h := ?_) | refine wca (hix) (h := ?_) | refine we (h := ?_) | refine ws (h := ?_) | refine rg rfl rfl (fun _ => ?_) (fun _ => ?_)) | (show RunQ _ _ _ _ _ _; first | refine wqb (ht := ?_) (hf := ?_) | refine wqbc (hix) (ht := ?_) (hff := ?_) | refine wqq (h := ?_) | refine wqc (hix) (h := ?_) | refine wqca (hix) (h := ?_) | refine wqs (h := ?_)) | (show RunE _ _ _ _ _ _ _ _ _; first | refine weq (h := ?_) | refine wec (hix) (h := ?_) | refine wes (h := ?_) | refine wen ?_) | refine ev_seq ?_ | refine ev_region ?_ | refine ev_draw (by kernel_rfl) (by kernel_rfl) ?_ | refine qn ?_ | refine run_nil ?_ | refine ev_block ?_ | refine ev_skip ?_ | refine ev_exit ?_ | refine ev_ret ?_ | refine ev_condt rfl ?_ | refine ev_condf rfl ?_ | refine ev_cond rfl (fun _ => ?_) (fun _ => ?_) | (intro h; exfalso; simp at h; done) | (intro _))
      all_goals first | (exfalso; rename_i q; simp at q; done) | skip
      exact ⟨((xs ++ [x], ys ++ [row], of ++ [(ys.length : Int)]), false), h1, ⟨by rw [hI1, hm], by simp [hI2], by simp; omega, by simp; omega⟩, by (refine at_shift ?_ ?_ ?_ ?_ rfl rfl <;> repeat (first | refine same1 rfl ?_ | refine has1 rfl rfl ?_ | refine has1 rfl (by first | (simp [normD, *]; done) | (simp [normD, V.flatB, V.flatBs, Supply.enc, rowE]; done)) ?_ | exact has0 | exact same0))⟩
    · rw [e1] at hix
      generalize hj : findRow row ys 0 = j at *
      simp only [Nat.zero_add] at e2
      have hjx : j < xs.length := by omega
      have y1 : (0 : Int) ≤ ((j : Nat) : Int) := by omega
      have y4 : ((j : Nat) : Int) < ((xs.map Supply.enc).length : Nat) := by simp; omega
      have y5 : (xs.map Supply.enc)[((j : Nat) : Int).toNat]? = some (Supply.enc xs[j]) := by simp [hjx]
      have hm : mStep x row (xs, ys, of) = (xs.modify j (fun t => { t with amount := IntKind.i64.wrap (t.amount + x.amount) }), ys, of ++ [(j : Int)]) := by simp [mStep, hj, Nat.ne_of_lt e2]
      have hset : (xs.map Supply.enc).set ((j : Nat) : Int).toNat ((Supply.enc xs[j]).putAt 5 (vi (IntKind.i64.wrap (xs[j].amount + x.amount)))) = (xs.modify j (fun t => { t with amount := IntKind.i64.wrap (t.amount + x.amount) })).map Supply.enc := by
        rw [Int.toNat_natCast]
        exact set_modify xs j hjx _ _ rfl
      repeat' (first | (refine run_shift (shift_freeze 9 (cs := [.v false (rowE row)]) (hO _) rfl rfl rfl) ?_) | (refine ev_drawt (id := 12) 13 (by kernel_rfl) (by kernel_rfl) ?_) | (refine wapp (hb := by simp; omega) (h := ?_)) | (show RunS _ _ _ _ _ _ _; first | refine wq (h := ?_) | refine wc (hix) (h := ?_) | refine wca (hix) (h := ?_) | refine we (h := ?_) | refine ws (h := ?_) | refine rg rfl rfl (fun _ => ?_) (fun _ => ?_)) | (show RunQ _ _ _ _ _ _; first | refine wqb (ht := ?_) (hf := ?_) | refine wqbc (hix) (ht := ?_) (hff := ?_) | refine wqq (h := ?_) | refine wqc (hix) (h := ?_) | refine wqca (hix) (h := ?_) | refine wqs (h := ?_)) | refine ev_seq ?_ | refine ev_region ?_ | refine ev_draw (by kernel_rfl) (by kernel_rfl) ?_ | refine qn ?_ | refine run_nil ?_ | refine ev_block ?_ | refine ev_skip ?_ | refine ev_exit ?_ | refine ev_ret ?_ | refine ev_condt rfl ?_ | refine ev_condf rfl ?_ | refine ev_cond rfl (fun _ => ?_) (fun _ => ?_) | (intro h; exfalso; simp at h; done) | (intro _))
      all_goals first | (exfalso; rename_i q; simp at q; omega) | skip
      exact ⟨((xs.modify j (fun t => { t with amount := IntKind.i64.wrap (t.amount + x.amount) }), ys, of ++ [(j : Int)]), fl), h1, ⟨by rw [hI1, hm], by simp [hI2], by dsimp only; omega, by simp; omega⟩, by (refine at_shift ?_ ?_ ?_ ?_ rfl rfl <;> repeat (first | refine same1 rfl ?_ | refine has1 rfl rfl ?_ | refine has1 rfl (by first | (simp [normD, *]; done) | (exact congrArg (Blk.sl true _ 6) hset)) ?_ | exact has0 | exact same0))⟩
  · obtain ⟨z1, z2⟩ := round_out hlf hk hc
    rw [z2] at hI1
    have hnil : s.drop k = [] := by rw [List.drop_eq_nil_iff]; omega
    rw [hnil] at hI1
    repeat' (first | (refine run_shift (shift_freezes 4 (hO _) rfl rfl rfl) ?_) | (refine run_shift (shift_freezes 5 (hO _) rfl rfl rfl) ?_) | (refine run_shift (shift_freezes 6 (hO _) rfl rfl rfl) ?_) | (show RunS _ _ _ _ _ _ _; first | refine wq (h := ?_) | refine we (h := ?_) | refine ws (h := ?_) | refine rg rfl rfl (fun _ => ?_) (fun _ => ?_)) | (show RunQ _ _ _ _ _ _; first | refine wqb (ht := ?_) (hf := ?_) | refine wqq (h := ?_) | refine wqs (h := ?_)) | refine ev_seq ?_ | refine ev_region ?_ | refine ev_draw (by kernel_rfl) (by kernel_rfl) ?_ | refine qn ?_ | refine run_nil ?_ | refine ev_block ?_ | refine ev_skip ?_ | refine ev_exit ?_ | refine ev_ret ?_ | refine ev_condt rfl ?_ | refine ev_condf rfl ?_ | refine ev_cond rfl (fun _ => ?_) (fun _ => ?_) | (intro h; exfalso; simp at h; done) | (intro _))
    exact ret4_l (a := xs) (b := ys) (c := of) rfl rfl rfl rfl rfl (fun h => by cases h) (fun h => by cases h) (fun h => by cases h) (by rw [hV, hI1]; simp [mGo])
end Bf
