import Derived.Test.YteecgmkfbohpjaaT11
namespace Bf
open Go Go.RowKit Go.Proofs
attribute [local irreducible] Quiet Effect RunS Ev PureC Shift RunQ HasF SameF

def rdAdd : List Read → List Read → List Read
  | acc, [] => acc
  | acc, z :: l => rdAdd (bif acc.any (· == z) then acc else acc ++ [z]) l
def rowV (w : Wld) (x : Supply) (known : Int) : List Request → List Bool → List Read → List Bool × List Read
  | [], row, acc => (row, acc)
  | y :: ys, row, acc => rowV w x known ys (row ++ [(fitsV w x y known).1]) (rdAdd acc (fitsV w x y known).2)
def tabV (w : Wld) (r : List Request) (known : Int) : List Supply → List (List Bool) → List Read → List (List Bool) × List Read
  | [], t, acc => (t, acc)
  | x :: xs, t, acc => tabV w r known xs (t ++ [(rowV w x known r [] acc).1]) (rowV w x known r [] acc).2
def tableV (w : Wld) (s : List Supply) (r : List Request) (known : Int) : List (List Bool) × List Read × Int :=
  bif decide (s.length ≤ 64) && (decide (r.length ≤ 64) && (s.all Supply.ok && r.all Request.ok)) then
    ((tabV w r known s [] []).1, (tabV w r known s [] []).2, 0)
  else ([], [], 290)

theorem ret3_n {P : Program} {fr f1 f2 f3 : Bool} {t1 t2 t3 z1 z2 : Nat} {σ : St} {α β : Type} {e1 : α → V} {e2 : β → V} {e : Int} {r : List α × List β × Int} (hd : σ.df = []) (h1 : σ.fr t1 = some (.v f1 (.raw (.slice none 0 0)))) (h2 : σ.fr t2 = some (.v f2 (.raw (.slice none 0 0)))) (h3 : σ.fr t3 = some (.v f3 (vi e))) (hx : ([], [], e) = r) :
    RetQ P [.tmp t1, .tmp t2, .tmp t3] fr (.t [.l z1 (r.1.map e1), .l z2 (r.2.1.map e2), vi r.2.2]) .ret σ := by
  subst hx
  exact ret_ok [_, _, _] rfl hd (.cons (.nil h1) (.cons (.nil h2) (.cons (.flat h3 (Flat.i _ _)) .nil)))
theorem ret3_l {P : Program} {fr f1 f2 f3 : Bool} {t1 t2 t3 z1 z2 : Nat} {σ : St} {α β : Type} {e1 : α → V} {e2 : β → V} {e : Int} {a : List α} {b : List β} {r : List α × List β × Int} (hd : σ.df = []) (h1 : σ.fr t1 = some (.v f1 (.l z1 (a.map e1)))) (h2 : σ.fr t2 = some (.v f2 (.l z2 (b.map e2)))) (h3 : σ.fr t3 = some (.v f3 (vi e))) (g1 : fr = true → f1 = true) (g2 : fr = true → f2 = true) (hx : (a, b, e) = r) :
    RetQ P [.tmp t1, .tmp t2, .tmp t3] fr (.t [.l z1 (r.1.map e1), .l z2 (r.2.1.map e2), vi r.2.2]) .ret σ := by
  subst hx
  exact ret_ok [_, _, _] rfl hd (.cons (.tmp h1 g1) (.cons (.tmp h2 g2) (.cons (.flat h3 (Flat.i _ _)) .nil)))

theorem tableV_no {w : Wld} {s : List Supply} {r : List Request} {known : Int} (h : (decide (s.length ≤ 64) && (decide (r.length ≤ 64) && (s.all Supply.ok && r.all Request.ok))) = false) : ([], [], 290) = tableV w s r known := by simp only [tableV, h, cond_false]
theorem rdAdd_len : ∀ (l acc : List Read), (rdAdd acc l).length ≤ acc.length + l.length
  | [], acc => by simp [rdAdd]
  | z :: l, acc => by
    rw [rdAdd]
    refine Nat.le_trans (rdAdd_len l _) ?_
    cases acc.any (· == z) <;> simp <;> omega
theorem fitsV_len (w : Wld) (s : Supply) (r : Request) (known : Int) : (fitsV w s r known).2.length ≤ 1 := by unfold fitsV; cases s.fits w r <;> simp
theorem rtable_c (w : Wld) (s : List Supply) (r : List Request) (known : Int) : PureC Try.prog true 13 [w.enc, .l 6 (s.map Supply.enc), .l 6 (r.map Request.enc), vi known]
    (.t [.l 1 ((tableV w s r known).1.map rowE), .l 5 ((tableV w s r known).2.1.map Read.enc), vi (tableV w s r known).2.2]) := by
  refine pure_len fun hL => pure_intro (N := 112) Try.func13 rfl rfl rfl rfl fun C hO => ?_
  have hls := len1 hL
  have hlr := len2 hL
  repeat' (first | (refine run_shift (shift_freeze 4 (hO _) rfl rfl rfl) ?_) | (show RunS _ _ _ _ _ _ _; first | refine wq (h := ?_) | refine we (h := ?_) | refine ws (h := ?_) | refine rg rfl rfl (fun _ => ?_) (fun _ => ?_)) | (show RunQ _ _ _ _ _ _; first | refine wqb (ht := ?_) (hf := ?_) | refine wqq (h := ?_) | refine wqs (h := ?_)) | refine ev_seq ?_ | refine ev_region ?_ | refine ev_draw (by kernel_rfl) (by kernel_rfl) ?_ | refine qn ?_ | refine run_nil ?_ | refine ev_block ?_ | refine ev_skip ?_ | refine ev_exit ?_ | refine ev_ret ?_ | refine ev_condt rfl ?_ | refine ev_condf rfl ?_ | refine ev_cond rfl (fun _ => ?_) (fun _ => ?_) | (intro h; exfalso; simp at h; done) | (intro _))
  · rename_i h
    exact ret3_n rfl rfl rfl rfl (tableV_no (by simp at h; simp; omega))
  · rename_i h
    exact ret3_n rfl rfl rfl rfl (tableV_no (by simp at h; simp; omega))
  rename_i q1 q2
  have hs64 : s.length ≤ 64 := by simp at q1; omega
  have hr64 : r.length ≤ 64 := by simp at q2; omega
  clear q1 q2
  refine ev_forP s.length (fun k => s.all Supply.ok = (s.drop k).all Supply.ok) [1, 2, 3, 4] (fun k => [(11, .v true (.i .i64 (cN k)))]) [] (fun _ => []) rfl ?_ fun k hk hI => ?_
  · (refine at_shift ?_ ?_ ?_ ?_ rfl rfl <;> repeat (first | refine same1 rfl ?_ | refine has1 rfl rfl ?_ | refine has1 rfl (by simp [normD, *]) ?_ | exact has0 | exact same0))
  refine ev_seq ?_
  refine ev_seq ?_
  repeat (first | (show RunS _ _ _ _ _ _ _; first | refine wq (h := ?_) | refine we (h := ?_) | refine ws (h := ?_)) | (show RunQ _ _ _ _ _ _; first | refine wqb (ht := ?_) (hf := ?_) | refine wqq (h := ?_) | refine wqs (h := ?_)) | refine ev_seq ?_ | refine ev_region ?_ | refine ev_draw (by kernel_rfl) (by kernel_rfl) ?_ | refine qn ?_ | refine run_nil ?_ | refine ev_block ?_ | refine ev_skip ?_ | refine ev_exit ?_ | refine ev_ret ?_)
  refine ev_cond rfl (fun hc => ?_) (fun hc => ?_)
  · obtain ⟨x, h1, h2, h3, h4, h5, h6⟩ := round_in hls hk hc
    rw [h5, List.all_cons] at hI
    repeat' (first | (show RunS _ _ _ _ _ _ _; first | refine wq (h := ?_) | refine wc (rsupply_c _) (h := ?_) | refine wca (rsupply_c _) (h := ?_) | refine we (h := ?_) | refine ws (h := ?_) | refine rg rfl rfl (fun _ => ?_) (fun _ => ?_)) | (show RunQ _ _ _ _ _ _; first | refine wqb (ht := ?_) (hf := ?_) | refine wqbc (rsupply_c _) (ht := ?_) (hff := ?_) | refine wqq (h := ?_) | refine wqc (rsupply_c _) (h := ?_) | refine wqca (rsupply_c _) (h := ?_) | refine wqs (h := ?_)) | refine ev_seq ?_ | refine ev_region ?_ | refine ev_draw (by kernel_rfl) (by kernel_rfl) ?_ | refine qn ?_ | refine run_nil ?_ | refine ev_block ?_ | refine ev_skip ?_ | refine ev_exit ?_ | refine ev_ret ?_ | refine ev_condt rfl ?_ | refine ev_condf rfl ?_ | refine ev_cond rfl (fun _ => ?_) (fun _ => ?_) | (intro h; exfalso; simp at h; done) | (intro _))
    · rename_i h
      exact ret3_n rfl rfl rfl rfl (tableV_no (by simp at h; simp [hI, h]))
    · rename_i h
      exact ⟨h1, by simp at h; simp [hI, h], by (refine at_shift ?_ ?_ ?_ ?_ rfl rfl <;> repeat (first | refine same1 rfl ?_ | refine has1 rfl rfl ?_ | refine has1 rfl (by simp [normD, *]) ?_ | exact has0 | exact same0))⟩
  obtain ⟨-, h2⟩ := round_out hls hk hc
  have hsok : s.all Supply.ok = true := by rw [hI, h2]; rfl
  clear hI h2 hc
  repeat' (first | (show RunS _ _ _ _ _ _ _; first | refine wq (h := ?_) | refine we (h := ?_) | refine ws (h := ?_) | refine rg rfl rfl (fun _ => ?_) (fun _ => ?_)) | (show RunQ _ _ _ _ _ _; first | refine wqb (ht := ?_) (hf := ?_) | refine wqq (h := ?_) | refine wqs (h := ?_)) | refine ev_seq ?_ | refine ev_region ?_ | refine ev_draw (by kernel_rfl) (by kernel_rfl) ?_ | refine qn ?_ | refine run_nil ?_ | refine ev_block ?_ | refine ev_skip ?_ | refine ev_exit ?_ | refine ev_ret ?_ | refine ev_condt rfl ?_ | refine ev_condf rfl ?_ | refine ev_cond rfl (fun _ => ?_) (fun _ => ?_) | (intro h; exfalso; simp at h; done) | (intro _))
  refine ev_forP r.length (fun k => r.all Request.ok = (r.drop k).all Request.ok) [1, 2, 3, 4] (fun k => [(12, .v true (.i .i64 (cN k)))]) [] (fun _ => []) rfl ?_ fun k hk hI => ?_
  · (refine at_shift ?_ ?_ ?_ ?_ rfl rfl <;> repeat (first | refine same1 rfl ?_ | refine has1 rfl rfl ?_ | refine has1 rfl (by simp [normD, *]) ?_ | exact has0 | exact same0))
  refine ev_seq ?_
  refine ev_seq ?_
  repeat (first | (show RunS _ _ _ _ _ _ _; first | refine wq (h := ?_) | refine we (h := ?_) | refine ws (h := ?_)) | (show RunQ _ _ _ _ _ _; first | refine wqb (ht := ?_) (hf := ?_) | refine wqq (h := ?_) | refine wqs (h := ?_)) | refine ev_seq ?_ | refine ev_region ?_ | refine ev_draw (by kernel_rfl) (by kernel_rfl) ?_ | refine qn ?_ | refine run_nil ?_ | refine ev_block ?_ | refine ev_skip ?_ | refine ev_exit ?_ | refine ev_ret ?_)
  refine ev_cond rfl (fun hc => ?_) (fun hc => ?_)
  · obtain ⟨x, h1, h2, h3, h4, h5, h6⟩ := round_in hlr hk hc
    rw [h5, List.all_cons] at hI
    repeat' (first | (show RunS _ _ _ _ _ _ _; first | refine wq (h := ?_) | refine wc (rrequest_c _) (h := ?_) | refine wca (rrequest_c _) (h := ?_) | refine we (h := ?_) | refine ws (h := ?_) | refine rg rfl rfl (fun _ => ?_) (fun _ => ?_)) | (show RunQ _ _ _ _ _ _; first | refine wqb (ht := ?_) (hf := ?_) | refine wqbc (rrequest_c _) (ht := ?_) (hff := ?_) | refine wqq (h := ?_) | refine wqc (rrequest_c _) (h := ?_) | refine wqca (rrequest_c _) (h := ?_) | refine wqs (h := ?_)) | refine ev_seq ?_ | refine ev_region ?_ | refine ev_draw (by kernel_rfl) (by kernel_rfl) ?_ | refine qn ?_ | refine run_nil ?_ | refine ev_block ?_ | refine ev_skip ?_ | refine ev_exit ?_ | refine ev_ret ?_ | refine ev_condt rfl ?_ | refine ev_condf rfl ?_ | refine ev_cond rfl (fun _ => ?_) (fun _ => ?_) | (intro h; exfalso; simp at h; done) | (intro _))
    · rename_i h
      exact ret3_n rfl rfl rfl rfl (tableV_no (by simp at h; simp [hI, h]))
    · rename_i h
      exact ⟨h1, by simp at h; simp [hI, h], by (refine at_shift ?_ ?_ ?_ ?_ rfl rfl <;> repeat (first | refine same1 rfl ?_ | refine has1 rfl rfl ?_ | refine has1 rfl (by simp [normD, *]) ?_ | exact has0 | exact same0))⟩
  obtain ⟨-, h2⟩ := round_out hlr hk hc
  have hrok : r.all Request.ok = true := by rw [hI, h2]; rfl
  clear hI h2 hc
  have hV : tableV w s r known = ((tabV w r known s [] []).1, (tabV w r known s [] []).2, 0) := by simp [tableV, hs64, hr64, hsok, hrok]
  repeat' (first | (show RunS _ _ _ _ _ _ _; first | refine wq (h := ?_) | refine we (h := ?_) | refine ws (h := ?_) | refine rg rfl rfl (fun _ => ?_) (fun _ => ?_)) | (show RunQ _ _ _ _ _ _; first | refine wqb (ht := ?_) (hf := ?_) | refine wqq (h := ?_) | refine wqs (h := ?_)) | refine ev_seq ?_ | refine ev_region ?_ | refine ev_draw (by kernel_rfl) (by kernel_rfl) ?_ | refine qn ?_ | refine run_nil ?_ | refine ev_block ?_ | refine ev_skip ?_ | refine ev_exit ?_ | refine ev_ret ?_ | refine ev_condt rfl ?_ | refine ev_condf rfl ?_ | refine ev_cond rfl (fun _ => ?_) (fun _ => ?_) | (intro h; exfalso; simp at h; done) | (intro _))
  refine ev_forA (α := List (List Bool) × List Read) s.length (fun k a => tabV w r known s [] [] = tabV w r known (s.drop k) a.1 a.2 ∧ a.1.length ≤ k ∧ a.2.length ≤ k * 64) [1, 2, 3, 4]
    (fun k a => [(15, .v true (.i .i64 (cN k))), (13, .o 53 (a.1.map rowE).length), (14, .o 54 (a.2.map Read.enc).length)]) []
    (fun _ a => [(53, .sl true 64 1 (a.1.map rowE)), (54, .sl true 68 5 (a.2.map Read.enc))]) ([], []) ⟨rfl, Nat.le_refl _, Nat.le_refl _⟩ ?_ fun k a hk hI => ?_
  · (refine at_shift ?_ ?_ ?_ ?_ rfl rfl <;> repeat (first | refine same1 rfl ?_ | refine has1 rfl rfl ?_ | refine has1 rfl (by simp [normD, *]) ?_ | exact has0 | exact same0))
  obtain ⟨t, acc⟩ := a
  refine ev_seq ?_
  refine ev_seq ?_
  repeat (first | (show RunS _ _ _ _ _ _ _; first | refine wq (h := ?_) | refine we (h := ?_) | refine ws (h := ?_)) | (show RunQ _ _ _ _ _ _; first | refine wqb (ht := ?_) (hf := ?_) | refine wqq (h := ?_) | refine wqs (h := ?_)) | refine ev_seq ?_ | refine ev_region ?_ | refine ev_draw (by kernel_rfl) (by kernel_rfl) ?_ | refine qn ?_ | refine run_nil ?_ | refine ev_block ?_ | refine ev_skip ?_ | refine ev_exit ?_ | refine ev_ret ?_)
  refine ev_cond rfl (fun hc => ?_) (fun hc => ?_)
  · obtain ⟨x, h1, h2, h3, h4, h5, h6⟩ := round_in hls hk hc
    rw [h5] at hI
    repeat' (first | (show RunS _ _ _ _ _ _ _; first | refine wq (h := ?_) | refine we (h := ?_) | refine ws (h := ?_) | refine rg rfl rfl (fun _ => ?_) (fun _ => ?_)) | (show RunQ _ _ _ _ _ _; first | refine wqb (ht := ?_) (hf := ?_) | refine wqq (h := ?_) | refine wqs (h := ?_)) | refine ev_seq ?_ | refine ev_region ?_ | refine ev_draw (by kernel_rfl) (by kernel_rfl) ?_ | refine qn ?_ | refine run_nil ?_ | refine ev_block ?_ | refine ev_skip ?_ | refine ev_exit ?_ | refine ev_ret ?_ | refine ev_condt rfl ?_ | refine ev_condf rfl ?_ | refine ev_cond rfl (fun _ => ?_) (fun _ => ?_) | (intro h; exfalso; simp at h; done) | (intro _))
    refine ev_forA (α := List Bool × List Read) r.length (fun j b => rowV w x known r [] acc = rowV w x known (r.drop j) b.1 b.2 ∧ b.1.length ≤ j ∧ b.2.length ≤ k * 64 + j) [1, 2, 3, 4, 13, 15]
      (fun j b => [(17, .v true (.i .i64 (cN j))), (16, .o 61 (b.1.map vb).length), (14, .o 54 (b.2.map Read.enc).length)]) [53]
      (fun _ b => [(61, .sl true 4 1 (b.1.map vb)), (54, .sl true 68 5 (b.2.map Read.enc))]) ([], acc) ⟨rfl, Nat.le_refl _, hI.2.2⟩ ?_ fun j b hj hJ => ?_
    · (refine at_shift ?_ ?_ ?_ ?_ rfl rfl <;> repeat (first | refine same1 rfl ?_ | refine has1 rfl rfl ?_ | refine has1 rfl (by simp [normD, *]) ?_ | exact has0 | exact same0))
    obtain ⟨row, acc2⟩ := b
    refine ev_seq ?_
    refine ev_seq ?_
    repeat (first | (show RunS _ _ _ _ _ _ _; first | refine wq (h := ?_) | refine we (h := ?_) | refine ws (h := ?_)) | (show RunQ _ _ _ _ _ _; first | refine wqb (ht := ?_) (hf := ?_) | refine wqq (h := ?_) | refine wqs (h := ?_)) | refine ev_seq ?_ | refine ev_region ?_ | refine ev_draw (by kernel_rfl) (by kernel_rfl) ?_ | refine qn ?_ | refine run_nil ?_ | refine ev_block ?_ | refine ev_skip ?_ | refine ev_exit ?_ | refine ev_ret ?_)
    refine ev_cond rfl (fun hc2 => ?_) (fun hc2 => ?_)
    · obtain ⟨y, y1, y2, y3, y4, y5, y6⟩ := round_in hlr hj hc2
      rw [y5] at hJ
      have hf := fitsV_len w x y known
      obtain ⟨hJ1, hJ2, hJ3⟩ := hJ
      obtain ⟨hI1, hI2, hI3⟩ := hI
      dsimp only at hJ1 hJ2 hJ3 hI1 hI2 hI3
      repeat' (first | ((apply re; (focus exact rfl); (focus apply e_append; (focus exact rfl); (focus exact rfl); (focus exact rfl); (focus exact rfl); (focus apply Src.o; (focus exact rfl); (focus exact rfl)); (focus exact rfl); (focus exact rfl); (focus (simp; omega)); (focus exact rfl)))) | (show RunS _ _ _ _ _ _ _; first | refine wq (h := ?_) | refine wc (rfits_c w x y known) (h := ?_) | refine wca (rfits_c w x y known) (h := ?_) | refine we (h := ?_) | refine ws (h := ?_) | refine rg rfl rfl (fun _ => ?_) (fun _ => ?_)) | (show RunQ _ _ _ _ _ _; first | refine wqb (ht := ?_) (hf := ?_) | refine wqbc (rfits_c w x y known) (ht := ?_) (hff := ?_) | refine wqq (h := ?_) | refine wqc (rfits_c w x y known) (h := ?_) | refine wqca (rfits_c w x y known) (h := ?_) | refine wqs (h := ?_)) | refine ev_seq ?_ | refine ev_region ?_ | refine ev_draw (by kernel_rfl) (by kernel_rfl) ?_ | refine qn ?_ | refine run_nil ?_ | refine ev_block ?_ | refine ev_skip ?_ | refine ev_exit ?_ | refine ev_ret ?_ | refine ev_condt rfl ?_ | refine ev_condf rfl ?_ | refine ev_cond rfl (fun _ => ?_) (fun _ => ?_) | (intro h; exfalso; simp at h; done) | (intro _))
      generalize hl : (fitsV w x y known).2 = l at *
      have hll : l.length ≤ maxLen := by unfold maxLen; omega
      refine ev_forA (α := List Read) l.length (fun n c => rdAdd acc2 l = rdAdd c (l.drop n) ∧ c.length ≤ k * 64 + j + n) [1, 2, 3, 4, 13, 15, 16, 17, 19]
        (fun n c => [(20, .v true (.i .i64 (cN n))), (14, .o 54 (c.map Read.enc).length)]) [53, 61] (fun _ c => [(54, .sl true 68 5 (c.map Read.enc))]) acc2 ⟨rfl, hJ3⟩ ?_ fun n c hn hK => ?_
      · (refine at_shift ?_ ?_ ?_ ?_ rfl rfl <;> repeat (first | refine same1 rfl ?_ | refine has1 rfl rfl ?_ | refine has1 rfl (by simp [normD, *]) ?_ | exact has0 | exact same0))
      obtain ⟨hK1, hK2⟩ := hK
      refine ev_seq ?_
      refine ev_seq ?_
      repeat (first | (show RunS _ _ _ _ _ _ _; first | refine wq (h := ?_) | refine we (h := ?_) | refine ws (h := ?_)) | (show RunQ _ _ _ _ _ _; first | refine wqb (ht := ?_) (hf := ?_) | refine wqq (h := ?_) | refine wqs (h := ?_)) | refine ev_seq ?_ | refine ev_region ?_ | refine ev_draw (by kernel_rfl) (by kernel_rfl) ?_ | refine qn ?_ | refine run_nil ?_ | refine ev_block ?_ | refine ev_skip ?_ | refine ev_exit ?_ | refine ev_ret ?_)
      refine ev_cond rfl (fun hc3 => ?_) (fun hc3 => ?_)
      · obtain ⟨z, z1, z2, z3, z4, z5, z6⟩ := round_in hll hn hc3
        rw [z5, rdAdd] at hK1
        repeat' (first | ((apply re; (focus exact rfl); (focus apply e_append; (focus exact rfl); (focus exact rfl); (focus exact rfl); (focus exact rfl); (focus apply Src.o; (focus exact rfl); (focus exact rfl)); (focus exact rfl); (focus exact rfl); (focus (simp; omega)); (focus exact rfl)))) | (show RunS _ _ _ _ _ _ _; first | refine wq (h := ?_) | refine wc (has_c c z) (h := ?_) | refine wca (has_c c z) (h := ?_) | refine we (h := ?_) | refine ws (h := ?_) | refine rg rfl rfl (fun _ => ?_) (fun _ => ?_)) | (show RunQ _ _ _ _ _ _; first | refine wqb (ht := ?_) (hf := ?_) | refine wqbc (has_c c z) (ht := ?_) (hff := ?_) | refine wqq (h := ?_) | refine wqc (has_c c z) (h := ?_) | refine wqca (has_c c z) (h := ?_) | refine wqs (h := ?_)) | refine ev_seq ?_ | refine ev_region ?_ | refine ev_draw (by kernel_rfl) (by kernel_rfl) ?_ | refine qn ?_ | refine run_nil ?_ | refine ev_block ?_ | refine ev_skip ?_ | refine ev_exit ?_ | refine ev_ret ?_ | refine ev_condt rfl ?_ | refine ev_condf rfl ?_ | refine ev_cond rfl (fun _ => ?_) (fun _ => ?_) | (intro h; exfalso; simp at h; done) | (intro _))
        · rename_i h
          have e : (c.any (· == z)) = false := by simpa using h
          exact ⟨c ++ [z], z1, ⟨by rw [hK1, e]; rfl, by simp; omega⟩, by (refine at_shift ?_ ?_ ?_ ?_ rfl rfl <;> repeat (first | refine same1 rfl ?_ | refine has1 rfl rfl ?_ | refine has1 rfl (by first | (simp [normD, *]; done) | (simp [normD, V.flatB, V.flatBs, Read.enc, rowE]; done)) ?_ | exact has0 | exact same0))⟩
        · rename_i h
          have e : (c.any (· == z)) = true := by simpa using h
          exact ⟨c, z1, ⟨by rw [hK1, e]; rfl, by omega⟩, by (refine at_shift ?_ ?_ ?_ ?_ rfl rfl <;> repeat (first | refine same1 rfl ?_ | refine has1 rfl rfl ?_ | refine has1 rfl (by first | (simp [normD, *]; done) | (simp [normD, V.flatB, V.flatBs, Read.enc, rowE]; done)) ?_ | exact has0 | exact same0))⟩
      · obtain ⟨z1, z2⟩ := round_out hll hn hc3
        rw [z2] at hK1
        repeat' (first | (show RunS _ _ _ _ _ _ _; first | refine wq (h := ?_) | refine we (h := ?_) | refine ws (h := ?_) | refine rg rfl rfl (fun _ => ?_) (fun _ => ?_)) | (show RunQ _ _ _ _ _ _; first | refine wqb (ht := ?_) (hf := ?_) | refine wqq (h := ?_) | refine wqs (h := ?_)) | refine ev_seq ?_ | refine ev_region ?_ | refine ev_draw (by kernel_rfl) (by kernel_rfl) ?_ | refine qn ?_ | refine run_nil ?_ | refine ev_block ?_ | refine ev_skip ?_ | refine ev_exit ?_ | refine ev_ret ?_ | refine ev_condt rfl ?_ | refine ev_condf rfl ?_ | refine ev_cond rfl (fun _ => ?_) (fun _ => ?_) | (intro h; exfalso; simp at h; done) | (intro _))
        exact ⟨(row ++ [(fitsV w x y known).1], c), y1, ⟨by rw [hJ1, rowV, hl, hK1]; rfl, by simp; omega, by dsimp only; omega⟩, by (refine at_shift ?_ ?_ ?_ ?_ rfl rfl <;> repeat (first | refine same1 rfl ?_ | refine has1 rfl rfl ?_ | refine has1 rfl (by first | (simp [normD, *]; done) | (simp [normD, V.flatB, V.flatBs, Read.enc, rowE]; done)) ?_ | exact has0 | exact same0))⟩
    · obtain ⟨zj, z2⟩ := round_out hlr hj hc2
      rw [z2] at hJ
      obtain ⟨hJ1, hJ2, hJ3⟩ := hJ
      obtain ⟨hI1, hI2, hI3⟩ := hI
      dsimp only at hJ1 hJ2 hJ3 hI1 hI2 hI3
      repeat' (first | (refine run_shift (shift_freezes 107 (hO _) rfl rfl rfl) ?_) | ((apply re; (focus exact rfl); (focus apply e_append; (focus exact rfl); (focus exact rfl); (focus exact rfl); (focus exact rfl); (focus apply Src.o; (focus exact rfl); (focus exact rfl)); (focus exact rfl); (focus exact rfl); (focus (simp; omega)); (focus exact rfl)))) | (show RunS _ _ _ _ _ _ _; first | refine wq (h := ?_) | refine we (h := ?_) | refine ws (h := ?_) | refine rg rfl rfl (fun _ => ?_) (fun _ => ?_)) | (show RunQ _ _ _ _ _ _; first | refine wqb (ht := ?_) (hf := ?_) | refine wqq (h := ?_) | refine wqs (h := ?_)) | refine ev_seq ?_ | refine ev_region ?_ | refine ev_draw (by kernel_rfl) (by kernel_rfl) ?_ | refine qn ?_ | refine run_nil ?_ | refine ev_block ?_ | refine ev_skip ?_ | refine ev_exit ?_ | refine ev_ret ?_ | refine ev_condt rfl ?_ | refine ev_condf rfl ?_ | refine ev_cond rfl (fun _ => ?_) (fun _ => ?_) | (intro h; exfalso; simp at h; done) | (intro _))
      exact ⟨(t ++ [row], acc2), h1, ⟨by rw [hI1, tabV, hJ1]; rfl, by simp; omega, by dsimp only; omega⟩, by (refine at_shift ?_ ?_ ?_ ?_ rfl rfl <;> repeat (first | refine same1 rfl ?_ | refine has1 rfl rfl ?_ | refine has1 rfl (by first | (simp [normD, *]; done) | (simp [normD, V.flatB, V.flatBs, Read.enc, rowE]; done)) ?_ | exact has0 | exact same0))⟩
  · obtain ⟨-, h2⟩ := round_out hls hk hc
    rw [h2] at hI
    repeat' (first | (refine run_shift (shift_freezes 13 (hO _) rfl rfl rfl) ?_) | (refine run_shift (shift_freezes 14 (hO _) rfl rfl rfl) ?_) | (show RunS _ _ _ _ _ _ _; first | refine wq (h := ?_) | refine we (h := ?_) | refine ws (h := ?_) | refine rg rfl rfl (fun _ => ?_) (fun _ => ?_)) | (show RunQ _ _ _ _ _ _; first | refine wqb (ht := ?_) (hf := ?_) | refine wqq (h := ?_) | refine wqs (h := ?_)) | refine ev_seq ?_ | refine ev_region ?_ | refine ev_draw (by kernel_rfl) (by kernel_rfl) ?_ | refine qn ?_ | refine run_nil ?_ | refine ev_block ?_ | refine ev_skip ?_ | refine ev_exit ?_ | refine ev_ret ?_ | refine ev_condt rfl ?_ | refine ev_condf rfl ?_ | refine ev_cond rfl (fun _ => ?_) (fun _ => ?_) | (intro h; exfalso; simp at h; done) | (intro _))
    exact ret3_l (a := t) (b := acc) rfl rfl rfl rfl (fun _ => rfl) (fun _ => rfl) (by rw [hV, hI.1]; rfl)
end Bf
