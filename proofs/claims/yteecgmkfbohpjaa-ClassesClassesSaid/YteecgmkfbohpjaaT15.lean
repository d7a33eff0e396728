import Derived.Test.YteecgmkfbohpjaaT14
namespace Bf
open Go Go.RowKit Go.Proofs
attribute [local irreducible] Quiet Effect RunS Ev PureC Shift RunQ HasF SameF

def okL (h : Nat) : List Supply → List (List Bool) → Bool
  | x :: xs, r :: rs => (inB x.amount 0 1048576 && (decide (r.length = h) && decide (r.length ≤ 64))) && okL h xs rs
  | _, _ => true
def findRow (row : List Bool) : List (List Bool) → Nat → Nat
  | [], k => k
  | z :: zs, k => bif z == row then k else findRow row zs (k + 1)
abbrev MA := List Supply × List (List Bool) × List Int
def mStep (s : Supply) (row : List Bool) (a : MA) : MA :=
  bif decide (findRow row a.2.1 0 = a.2.1.length) then (a.1 ++ [s], a.2.1 ++ [row], a.2.2 ++ [((findRow row a.2.1 0 : Nat) : Int)])
  else (a.1.modify (findRow row a.2.1 0) (fun t => { t with amount := IntKind.i64.wrap (t.amount + s.amount) }), a.2.1, a.2.2 ++ [((findRow row a.2.1 0 : Nat) : Int)])
def mGo : List Supply → List (List Bool) → MA → MA
  | x :: xs, r :: rs, a => mGo xs rs (mStep x r a)
  | _, _, a => a
def mergeV (s : List Supply) (fits : List (List Bool)) : MA × Int :=
  bif decide (s.length ≤ 64) && (decide (fits.length = s.length) && okL (fits.headD []).length s fits) then (mGo s fits ([], [], []), 0) else (([], [], []), 290)
theorem mergeV_no {s : List Supply} {fits : List (List Bool)} (h : (decide (s.length ≤ 64) && (decide (fits.length = s.length) && okL (fits.headD []).length s fits)) = false) : (([], [], []), 290) = mergeV s fits := by simp only [mergeV, h, cond_false]

theorem ret4_n {P : Program} {fr f1 f2 f3 f4 : Bool} {t1 t2 t3 t4 z1 z2 z3 : Nat} {σ : St} {α β γ : Type} {e1 : α → V} {e2 : β → V} {e3 : γ → V} {e : Int} {r : (List α × List β × List γ) × Int} (hd : σ.df = []) (h1 : σ.fr t1 = some (.v f1 (.raw (.slice none 0 0)))) (h2 : σ.fr t2 = some (.v f2 (.raw (.slice none 0 0)))) (h3 : σ.fr t3 = some (.v f3 (.raw (.slice none 0 0)))) (h4 : σ.fr t4 = some (.v f4 (vi e))) (hx : (([], [], []), e) = r) :
    RetQ P [.tmp t1, .tmp t2, .tmp t3, .tmp t4] fr (.t [.l z1 (r.1.1.map e1), .l z2 (r.1.2.1.map e2), .l z3 (r.1.2.2.map e3), vi r.2]) .ret σ := by
  subst hx
  exact ret_ok [_, _, _, _] rfl hd (.cons (.nil h1) (.cons (.nil h2) (.cons (.nil h3) (.cons (.flat h4 (Flat.i _ _)) .nil))))
theorem ret4_l {P : Program} {fr f1 f2 f3 f4 : Bool} {t1 t2 t3 t4 z1 z2 z3 : Nat} {σ : St} {α β γ : Type} {e1 : α → V} {e2 : β → V} {e3 : γ → V} {e : Int} {a : List α} {b : List β} {c : List γ} {r : (List α × List β × List γ) × Int} (hd : σ.df = []) (h1 : σ.fr t1 = some (.v f1 (.l z1 (a.map e1)))) (h2 : σ.fr t2 = some (.v f2 (.l z2 (b.map e2)))) (h3 : σ.fr t3 = some (.v f3 (.l z3 (c.map e3)))) (h4 : σ.fr t4 = some (.v f4 (vi e)))
    (g1 : fr = true → f1 = true) (g2 : fr = true → f2 = true) (g3 : fr = true → f3 = true) (hx : ((a, b, c), e) = r) :
    RetQ P [.tmp t1, .tmp t2, .tmp t3, .tmp t4] fr (.t [.l z1 (r.1.1.map e1), .l z2 (r.1.2.1.map e2), .l z3 (r.1.2.2.map e3), vi r.2]) .ret σ := by
  subst hx
  exact ret_ok [_, _, _, _] rfl hd (.cons (.tmp h1 g1) (.cons (.tmp h2 g2) (.cons (.tmp h3 g3) (.cons (.flat h4 (Flat.i _ _)) .nil))))

theorem set_modify (xs : List Supply) (j : Nat) (hj : j < xs.length) (f : Supply → Supply) (v : V) (hv : v = (f xs[j]).enc) : (xs.map Supply.enc).set j v = (xs.modify j f).map Supply.enc := by
  subst hv
  apply List.ext_getElem?
  intro i
  rw [List.getElem?_set, List.getElem?_map, List.getElem?_map, List.getElem?_modify]
  by_cases e : j = i
  · subst e
    simp [hj]
  · simp [e]
theorem rmerge_c (s : List Supply) (fits : List (List Bool)) : PureC Try.prog false 20 [.l 6 (s.map Supply.enc), .l 1 (fits.map rowE)]
    (.t [.l 6 ((mergeV s fits).1.1.map Supply.enc), .l 1 ((mergeV s fits).1.2.1.map rowE), .l 1 ((mergeV s fits).1.2.2.map vi), vi (mergeV s fits).2]) := by
  refine pure_len fun hL => pure_intro (N := 124) Try.func20 rfl rfl rfl rfl fun C hO => ?_
  have hls := len0 hL
  have hlf := len1 hL
  repeat' (first | (show RunS _ _ _ _ _ _ _; first | refine wq (h := ?_) | refine we (h := ?_) | refine ws (h := ?_) | refine rg rfl rfl (fun _ => ?_) (fun _ => ?_)) | (show RunQ _ _ _ _ _ _; first | refine wqb (ht := ?_) (hf := ?_) | refine wqq (h := ?_) | refine wqs (h := ?_)) | refine ev_seq ?_ | refine ev_region ?_ | refine ev_draw (by kernel_rfl) (by kernel_rfl) ?_ | refine qn ?_ | refine run_nil ?_ | refine ev_block ?_ | refine ev_skip ?_ | refine ev_exit ?_ | refine ev_ret ?_ | refine ev_condt rfl ?_ | refine ev_condf rfl ?_ | refine ev_cond rfl (fun _ => ?_) (fun _ => ?_) | (intro h; exfalso; simp at h; done) | (intro _))
  · rename_i h
    exact ret4_n rfl rfl rfl rfl rfl (mergeV_no (by simp at h; simp; omega))
  · rename_i h
    exact ret4_n rfl rfl rfl rfl rfl (mergeV_no (by simp at h; simp; omega))
  rename_i q1 q2
  have hs64 : s.length ≤ 64 := by simp at q1; omega
  have hfl : fits.length = s.length := by simp at q2; omega
  clear q1 q2
  refine ev_forP s.length (fun k => okL (fits.headD []).length s fits = okL (fits.headD []).length (s.drop k) (fits.drop k)) [0, 1] (fun k => [(8, .v true (.i .i64 (cN k)))]) [] (fun _ => []) rfl ?_ fun k hk hI => ?_
  · (refine at_shift ?_ ?_ ?_ ?_ rfl rfl <;> repeat (first | refine same1 rfl ?_ | refine has1 rfl rfl ?_ | refine has1 rfl (by simp [normD, *]) ?_ | exact has0 | exact same0))
  refine ev_seq ?_
  refine ev_seq ?_
  repeat (first | (show RunS _ _ _ _ _ _ _; first | refine wq (h := ?_) | refine we (h := ?_) | refine ws (h := ?_)) | (show RunQ _ _ _ _ _ _; first | refine wqb (ht := ?_) (hf := ?_) | refine wqq (h := ?_) | refine wqs (h := ?_)) | refine ev_seq ?_ | refine ev_region ?_ | refine ev_draw (by kernel_rfl) (by kernel_rfl) ?_ | refine qn ?_ | refine run_nil ?_ | refine ev_block ?_ | refine ev_skip ?_ | refine ev_exit ?_ | refine ev_ret ?_)
  refine ev_cond rfl (fun hc => ?_) (fun hc => ?_)
  · obtain ⟨x, h1, h2, h3, h4, h5, h6⟩ := round_in hls hk hc
    obtain ⟨row, r1, r2, r3, r4, r5⟩ := idx_at (enc := rowE) (ys := fits) (k := k) (by omega) (by omega)
    obtain ⟨hd, tl, hfe⟩ : ∃ hd tl, fits = hd :: tl := by cases fits with | nil => simp at r5 | cons a b => exact ⟨a, b, rfl⟩
    have g1 : (0 : Int) ≤ 0 := by omega
    have g2 : (fits.map rowE)[(0 : Int).toNat]? = some (rowE hd) := by simp [hfe]
    have hh : (fits.headD []).length = hd.length := by simp [hfe]
    rw [h5, r4, okL] at hI
    repeat' (first | (show RunS _ _ _ _ _ _ _; first | refine wq (h := ?_) | refine wc (rin_c _ _ _) (h := ?_) | refine wca (rin_c _ _ _) (h := ?_) | refine we (h := ?_) | refine ws (h := ?_) | refine rg rfl rfl (fun _ => ?_) (fun _ => ?_)) | (show RunQ _ _ _ _ _ _; first | refine wqb (ht := ?_) (hf := ?_) | refine wqbc (rin_c _ _ _) (ht := ?_) (hff := ?_) | refine wqq (h := ?_) | refine wqc (rin_c _ _ _) (h := ?_) | refine wqca (rin_c _ _ _) (h := ?_) | refine wqs (h := ?_)) | refine ev_seq ?_ | refine ev_region ?_ | refine ev_draw (by kernel_rfl) (by kernel_rfl) ?_ | refine qn ?_ | refine run_nil ?_ | refine ev_block ?_ | refine ev_skip ?_ | refine ev_exit ?_ | refine ev_ret ?_ | refine ev_condt rfl ?_ | refine ev_condf rfl ?_ | refine ev_cond rfl (fun _ => ?_) (fun _ => ?_) | (intro h; exfalso; simp at h; done) | (intro _))
    · rename_i q _
      have q' : inB x.amount 0 1048576 = false := by simpa using q
      exact ret4_n rfl rfl rfl rfl rfl (mergeV_no (by rw [hI, hh, q']; simp))
    · rename_i _ q
      have q' : ¬ row.length = hd.length := by simp at q; omega
      exact ret4_n rfl rfl rfl rfl rfl (mergeV_no (by rw [hI, hh]; simp [q']))
    · rename_i _ _ q
      have q' : ¬ row.length ≤ 64 := by simp at q; omega
      exact ret4_n rfl rfl rfl rfl rfl (mergeV_no (by rw [hI, hh]; simp [q']))
    · rename_i q3 q2 q
      have e1 : inB x.amount 0 1048576 = true := by simpa using q3
      have e2 : row.length = hd.length := by simp at q2; omega
      have e3 : row.length ≤ 64 := by simp at q; omega
      exact ⟨h1, by rw [hI, hh, e1]; simp [e2]; intro; omega, by (refine at_shift ?_ ?_ ?_ ?_ rfl rfl <;> repeat (first | refine same1 rfl ?_ | refine has1 rfl rfl ?_ | refine has1 rfl (by simp [normD, *]) ?_ | exact has0 | exact same0))⟩
  obtain ⟨-, h2⟩ := round_out hls hk hc
  have hok : okL (fits.headD []).length s fits = true := by rw [hI, h2]; simp [okL]
  clear hI h2 hc
  have hV : mergeV s fits = (mGo s fits ([], [], []), 0) := by simp only [mergeV, hs64, hfl, hok, decide_true, Bool.and_true, cond_true]
  repeat' (first | (show RunS _ _ _ _ _ _ _; first | refine wq (h := ?_) | refine we (h := ?_) | refine ws (h := ?_) | refine rg rfl rfl (fun _ => ?_) (fun _ => ?_)) | (show RunQ _ _ _ _ _ _; first | refine wqb (ht := ?_) (hf := ?_) | refine wqq (h := ?_) | refine wqs (h := ?_)) | refine ev_seq ?_ | refine ev_region ?_ | refine ev_draw (by kernel_rfl) (by kernel_rfl) ?_ | refine qn ?_ | refine run_nil ?_ | refine ev_block ?_ | refine ev_skip ?_ | refine ev_exit ?_ | refine ev_ret ?_ | refine ev_condt rfl ?_ | refine ev_condf rfl ?_ | refine ev_cond rfl (fun _ => ?_) (fun _ => ?_) | (intro h; exfalso; simp at h; done) | (intro _))
  refine ev_forA (α := MA × Bool) s.length (fun k a => mGo s fits ([], [], []) = mGo (s.drop k) (fits.drop k) a.1 ∧ a.1.1.length = a.1.2.1.length ∧ a.1.2.1.length ≤ k ∧ a.1.2.2.length ≤ k) [0, 1]
    (fun k a => [(12, .v true (.i .i64 (cN k))), (9, .o 57 (a.1.1.map Supply.enc).length), (10, .o 58 (a.1.2.1.map rowE).length), (11, .o 59 (a.1.2.2.map vi).length)]) []
    (fun _ a => [(57, .sl true 51 6 (a.1.1.map Supply.enc)), (58, .sl a.2 64 1 (a.1.2.1.map rowE)), (59, .sl true 3 1 (a.1.2.2.map vi))]) (([], [], []), true) ⟨rfl, rfl, Nat.le_refl _, Nat.le_refl _⟩ ?_ fun k a hk hI => ?_
  · (refine at_shift ?_ ?_ ?_ ?_ rfl rfl <;> repeat (first | refine same1 rfl ?_ | refine has1 rfl rfl ?_ | refine has1 rfl (by simp [normD, *]) ?_ | exact has0 | exact same0))
  obtain ⟨⟨xs, ys, of⟩, fl⟩ := a
  obtain ⟨hI1, hI2, hI3, hI4⟩ := hI
  dsimp only at hI1 hI2 hI3 hI4
  refine ev_seq ?_
  refine ev_seq ?_
  repeat (first | (show RunS _ _ _ _ _ _ _; first | refine wq (h := ?_) | refine we (h := ?_) | refine ws (h := ?_)) | (show RunQ _ _ _ _ _ _; first | refine wqb (ht := ?_) (hf := ?_) | refine wqq (h := ?_) | refine wqs (h := ?_)) | refine ev_seq ?_ | refine ev_region ?_ | refine ev_draw (by kernel_rfl) (by kernel_rfl) ?_ | refine qn ?_ | refine run_nil ?_ | refine ev_block ?_ | refine ev_skip ?_ | refine ev_exit ?_ | refine ev_ret ?_)
  refine ev_cond rfl (fun hc => ?_) (fun hc => ?_)
  · obtain ⟨x, h1, h2, h3, h4, h5, h6⟩ := round_in hls hk hc
    obtain ⟨row, r1, r2, r3, r4, r5⟩ := idx_at (enc := rowE) (ys := fits) (k := k) (by omega) (by omega)
    rw [h5, r4, mGo] at hI1
    repeat' (first | (show RunS _ _ _ _ _ _ _; first | refine wq (h := ?_) | refine we (h := ?_) | refine ws (h := ?_) | refine rg rfl rfl (fun _ => ?_) (fun _ => ?_)) | (show RunQ _ _ _ _ _ _; first | refine wqb (ht := ?_) (hf := ?_) | refine wqq (h := ?_) | refine wqs (h := ?_)) | refine ev_seq ?_ | refine ev_region ?_ | refine ev_draw (by kernel_rfl) (by kernel_rfl) ?_ | refine qn ?_ | refine run_nil ?_ | refine ev_block ?_ | refine ev_skip ?_ | refine ev_exit ?_ | refine ev_ret ?_ | refine ev_condt rfl ?_ | refine ev_condf rfl ?_ | refine ev_cond rfl (fun _ => ?_) (fun _ => ?_) | (intro h; exfalso; simp at h; done) | (intro _))
    refine ev_forP ys.length (fun j => findRow row ys 0 = findRow row (ys.drop j) j) [0, 1, 9, 10, 11, 12] (fun j => [(13, .v true (.i .i64 (cN j)))]) [57, 58, 59] (fun _ => []) rfl ?_ fun j hj hJ => ?_
    · (refine at_shift ?_ ?_ ?_ ?_ rfl rfl <;> repeat (first | refine same1 rfl ?_ | refine has1 rfl rfl ?_ | refine has1 rfl (by simp [normD, *]) ?_ | exact has0 | exact same0))
    have hcj := cN_eq (k := j) (by unfold maxLen; omega)
    rcases Nat.lt_or_ge j ys.length with hjl | hjl
    · have y1 : (0 : Int) ≤ cN j := by omega
      have y2 : cN j < ((ys.map rowE).length : Nat) := by simp; omega
      have y3 : (ys.map rowE)[(cN j).toNat]? = some (rowE ys[j]) := by simp [hcj, hjl]
      rw [List.drop_eq_getElem_cons hjl, findRow] at hJ
      have hjx : j < xs.length := by omega
      have y4 : cN j < ((xs.map Supply.enc).length : Nat) := by simp; omega
      have y5 : (xs.map Supply.enc)[(cN j).toNat]? = some (Supply.enc xs[j]) := by simp [hcj, hjx]
      repeat' (first | ((apply re; (focus exact rfl); (focus apply e_append; (focus exact rfl); (focus exact rfl); (focus exact rfl); (focus exact rfl); (focus apply Src.o; (focus exact rfl); (focus exact rfl)); (focus exact rfl); (focus exact rfl); (focus (simp; omega)); (focus exact rfl)))) | (refine ev_drawt (id := 20) 15 (by kernel_rfl) (by kernel_rfl) ?_) | (show RunS _ _ _ _ _ _ _; first | refine wq (h := ?_) | refine wc (sameRow_c _ _) (h := ?_) | refine wca (sameRow_c _ _) (h := ?_) | refine we (h := ?_) | refine ws (h := ?_) | refine rg rfl rfl (fun _ => ?_) (fun _ => ?_)) | (show RunQ _ _ _ _ _ _; first | refine wqb (ht := ?_) (hf := ?_) | refine wqbc (sameRow_c _ _) (ht := ?_) (hff := ?_) | refine wqq (h := ?_) | refine wqc (sameRow_c _ _) (h := ?_) | refine wqca (sameRow_c _ _) (h := ?_) | refine wqs (h := ?_)) | refine ev_seq ?_ | refine ev_region ?_ | refine ev_draw (by kernel_rfl) (by kernel_rfl) ?_ | refine qn ?_ | refine run_nil ?_ | refine ev_block ?_ | refine ev_skip ?_ | refine ev_exit ?_ | refine ev_ret ?_ | refine ev_condt rfl ?_ | refine ev_condf rfl ?_ | refine ev_cond rfl (fun _ => ?_) (fun _ => ?_) | (intro h; exfalso; simp at h; done) | (intro _))
      all_goals first | (exfalso; rename_i q; simp at q; omega) | skip
      · rename_i q
        have e : (ys[j] == row) = false := by simpa using q
        exact ⟨hjl, by rw [hJ, e]; rfl, by (refine at_shift ?_ ?_ ?_ ?_ rfl rfl <;> repeat (first | refine same1 rfl ?_ | refine has1 rfl rfl ?_ | refine has1 rfl (by first | (simp [normD, hcj, *]; done) | (simp [normD, V.flatB, V.flatBs, Supply.enc, rowE, hcj]; done)) ?_ | exact has0 | exact same0))⟩
      · rename_i q _
        have e : (ys[j] == row) = true := by simpa using q
        have hr : findRow row ys 0 = j := by rw [hJ, e]; rfl
        have hm : mStep x row (xs, ys, of) = (xs.modify j (fun t => { t with amount := IntKind.i64.wrap (t.amount + x.amount) }), ys, of ++ [(j : Int)]) := by simp [mStep, hr, Nat.ne_of_lt hjl]
        have hset : (xs.map Supply.enc).set (cN j).toNat ((Supply.enc xs[j]).putAt 5 (vi (IntKind.i64.wrap (xs[j].amount + x.amount)))) = (xs.modify j (fun t => { t with amount := IntKind.i64.wrap (t.amount + x.amount) })).map Supply.enc := by
          rw [hcj]
          exact set_modify xs j hjx _ _ rfl
        exact ⟨((xs.modify j (fun t => { t with amount := IntKind.i64.wrap (t.amount + x.amount) }), ys, of ++ [(j : Int)]), fl), h1, ⟨by rw [hI1, hm], by simp [hI2], by dsimp only; omega, by simp; omega⟩, by (refine at_shift ?_ ?_ ?_ ?_ rfl rfl <;> repeat (first | refine same1 rfl ?_ | refine has1 rfl rfl ?_ | refine has1 rfl (by first | (simp [normD, hcj, *]; done) | (simp [normD, V.flatB, V.flatBs, Supply.enc, rowE, hcj]; done) | (exact congrArg (Blk.sl true _ 6) hset)) ?_ | exact has0 | exact same0))⟩
      · exfalso; rename_i q _; simp at q; omega
    · have hje : j = ys.length := by omega
      rw [List.drop_eq_nil_of_le hjl, findRow] at hJ
      have hm : mStep x row (xs, ys, of) = (xs ++ [x], ys ++ [row], of ++ [(j : Int)]) := by simp [mStep, hJ, hje]
      repeat' (first | ((apply re; (focus exact rfl); (focus apply e_append; (focus exact rfl); (focus exact rfl); (focus exact rfl); (focus exact rfl); (focus apply Src.o; (focus exact rfl); (focus exact rfl)); (focus exact rfl); (focus exact rfl); (focus (simp; omega)); (focus exact rfl)))) | (show RunS _ _ _ _ _ _ _; first | refine wq (h := ?_) | refine wc (sameRow_c _ _) (h := ?_) | refine wca (sameRow_c _ _) (h := ?_) | refine we (h := ?_) | refine ws (h := ?_) | refine rg rfl rfl (fun _ => ?_) (fun _ => ?_)) | (show RunQ _ _ _ _ _ _; first | refine wqb (ht := ?_) (hf := ?_) | refine wqbc (sameRow_c _ _) (ht := ?_) (hff := ?_) | refine wqq (h := ?_) | refine wqc (sameRow_c _ _) (h := ?_) | refine wqca (sameRow_c _ _) (h := ?_) | refine wqs (h := ?_)) | refine ev_seq ?_ | refine ev_region ?_ | refine ev_draw (by kernel_rfl) (by kernel_rfl) ?_ | refine qn ?_ | refine run_nil ?_ | refine ev_block ?_ | refine ev_skip ?_ | refine ev_exit ?_ | refine ev_ret ?_ | refine ev_condt rfl ?_ | refine ev_condf rfl ?_ | refine ev_cond rfl (fun _ => ?_) (fun _ => ?_) | (intro h; exfalso; simp at h; done) | (intro _))
      all_goals first | (exfalso; rename_i q; simp at q; omega) | skip
      exact ⟨((xs ++ [x], ys ++ [row], of ++ [(j : Int)]), false), h1, ⟨by rw [hI1, hm], by simp [hI2], by simp; omega, by simp; omega⟩, by (refine at_shift ?_ ?_ ?_ ?_ rfl rfl <;> repeat (first | refine same1 rfl ?_ | refine has1 rfl rfl ?_ | refine has1 rfl (by first | (simp [normD, hcj, *]; done) | (simp [normD, V.flatB, V.flatBs, Supply.enc, rowE, hcj]; done)) ?_ | exact has0 | exact same0))⟩
  · obtain ⟨-, h2⟩ := round_out hls hk hc
    rw [h2] at hI1
    repeat' (first | (refine run_shift (shift_freezes 9 (hO _) rfl rfl rfl) ?_) | (refine run_shift (shift_freezes 10 (hO _) rfl rfl rfl) ?_) | (refine run_shift (shift_freezes 11 (hO _) rfl rfl rfl) ?_) | (show RunS _ _ _ _ _ _ _; first | refine wq (h := ?_) | refine we (h := ?_) | refine ws (h := ?_) | refine rg rfl rfl (fun _ => ?_) (fun _ => ?_)) | (show RunQ _ _ _ _ _ _; first | refine wqb (ht := ?_) (hf := ?_) | refine wqq (h := ?_) | refine wqs (h := ?_)) | refine ev_seq ?_ | refine ev_region ?_ | refine ev_draw (by kernel_rfl) (by kernel_rfl) ?_ | refine qn ?_ | refine run_nil ?_ | refine ev_block ?_ | refine ev_skip ?_ | refine ev_exit ?_ | refine ev_ret ?_ | refine ev_condt rfl ?_ | refine ev_condf rfl ?_ | refine ev_cond rfl (fun _ => ?_) (fun _ => ?_) | (intro h; exfalso; simp at h; done) | (intro _))
    exact ret4_l (a := xs) (b := ys) (c := of) rfl rfl rfl rfl rfl (fun h => by cases h) (fun h => by cases h) (fun h => by cases h) (by rw [hV, hI1]; simp [mGo])
end Bf
