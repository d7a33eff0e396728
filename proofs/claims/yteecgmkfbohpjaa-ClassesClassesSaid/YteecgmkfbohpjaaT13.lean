import Derived.Test.YteecgmkfbohpjaaT12
namespace Bf
open Go Go.RowKit Go.Proofs
attribute [local irreducible] Quiet Effect RunS Ev PureC Shift RunQ HasF SameF

theorem equalRow_c (a b : List (Bool)) : PureC Try.prog true 45 [.l 1 (a.map vb), .l 1 (b.map vb)] (.b (a == b)) := by
  refine pure_len fun hL => pure_intro (N := 26) Try.func45 rfl rfl rfl rfl fun C hO => ?_
  have hla := len0 hL
  have hlb := len1 hL
  repeat' (first | (show RunS _ _ _ _ _ _ _; first | refine wq (h := ?_) | refine we (h := ?_) | refine ws (h := ?_) | refine rg rfl rfl (fun _ => ?_) (fun _ => ?_)) | (show RunQ _ _ _ _ _ _; first | refine wqb (ht := ?_) (hf := ?_) | refine wqq (h := ?_) | refine wqs (h := ?_)) | refine ev_seq ?_ | refine ev_region ?_ | refine ev_draw (by kernel_rfl) (by kernel_rfl) ?_ | refine qn ?_ | refine run_nil ?_ | refine ev_block ?_ | refine ev_skip ?_ | refine ev_exit ?_ | refine ev_ret ?_ | refine ev_condt rfl ?_ | refine ev_condf rfl ?_ | refine ev_cond rfl (fun _ => ?_) (fun _ => ?_) | (intro h; exfalso; simp at h; done) | (intro _))
  · exact ret1b rfl rfl (by rename_i h; simp at h; symm; simpa using fun e => h (by rw [e]))
  rename_i hlen
  have hlen : a.length = b.length := by simp at hlen; omega
  refine ev_forP a.length (fun k => (a == b) = (a.drop k == b.drop k)) [0, 1, 12] (fun k => [(13, .v true (.i .i64 (cN k)))]) [] (fun _ => []) rfl ?_ fun k hk hI => ?_
  · (refine at_shift ?_ ?_ ?_ ?_ rfl rfl <;> repeat (first | refine same1 rfl ?_ | refine has1 rfl rfl ?_ | refine has1 rfl (by simp [normD, *]) ?_ | exact has0 | exact same0))
  refine ev_seq ?_
  repeat (first | (show RunS _ _ _ _ _ _ _; first | refine wq (h := ?_) | refine we (h := ?_) | refine ws (h := ?_)) | (show RunQ _ _ _ _ _ _; first | refine wqb (ht := ?_) (hf := ?_) | refine wqq (h := ?_) | refine wqs (h := ?_)) | refine ev_seq ?_ | refine ev_region ?_ | refine ev_draw (by kernel_rfl) (by kernel_rfl) ?_ | refine qn ?_ | refine run_nil ?_ | refine ev_block ?_ | refine ev_skip ?_ | refine ev_exit ?_ | refine ev_ret ?_)
  refine ev_cond rfl (fun hc => ?_) (fun hc => ?_)
  · obtain ⟨x, h1, h2, h3, h4, h5, h6⟩ := round_in hla hk hc
    obtain ⟨y, g1, g2, g3, g4, g5⟩ := idx_at (enc := vb) (ys := b) (k := k) (by omega) (by omega)
    rw [h5, g4] at hI
    repeat' (first | (show RunS _ _ _ _ _ _ _; first | refine wq (h := ?_) | refine we (h := ?_) | refine ws (h := ?_) | refine rg rfl rfl (fun _ => ?_) (fun _ => ?_)) | (show RunQ _ _ _ _ _ _; first | refine wqb (ht := ?_) (hf := ?_) | refine wqq (h := ?_) | refine wqs (h := ?_)) | refine ev_seq ?_ | refine ev_region ?_ | refine ev_draw (by kernel_rfl) (by kernel_rfl) ?_ | refine qn ?_ | refine run_nil ?_ | refine ev_block ?_ | refine ev_skip ?_ | refine ev_exit ?_ | refine ev_ret ?_ | refine ev_condt rfl ?_ | refine ev_condf rfl ?_ | refine ev_cond rfl (fun _ => ?_) (fun _ => ?_) | (intro h; exfalso; simp at h; done) | (intro _))
    · have e : (x == y) = false := by
        rename_i h
        clear hI h2 h3 h4 h5 g1 g2 g3 g4
        rw [beq_eq_false_iff_ne]
        rintro rfl
        simp at h
      exact ret1b rfl rfl (by rw [hI]; simp [e])
    · have e : x = y := by
        rename_i h
        clear hI h2 h3 h4 h5 g1 g2 g3 g4
        first | (simp at h; exact h) | (rcases x with _; rcases y with _; simp at h ⊢; simp [h]; done)
      exact ⟨h1, by rw [hI, e]; simp, by (refine at_shift ?_ ?_ ?_ ?_ rfl rfl <;> repeat (first | refine same1 rfl ?_ | refine has1 rfl rfl ?_ | refine has1 rfl (by simp [normD, *]) ?_ | exact has0 | exact same0))⟩
  · obtain ⟨h1, h2⟩ := round_out hla hk hc
    repeat' (first | (show RunS _ _ _ _ _ _ _; first | refine wq (h := ?_) | refine we (h := ?_) | refine ws (h := ?_) | refine rg rfl rfl (fun _ => ?_) (fun _ => ?_)) | (show RunQ _ _ _ _ _ _; first | refine wqb (ht := ?_) (hf := ?_) | refine wqq (h := ?_) | refine wqs (h := ?_)) | refine ev_seq ?_ | refine ev_region ?_ | refine ev_draw (by kernel_rfl) (by kernel_rfl) ?_ | refine qn ?_ | refine run_nil ?_ | refine ev_block ?_ | refine ev_skip ?_ | refine ev_exit ?_ | refine ev_ret ?_ | refine ev_condt rfl ?_ | refine ev_condf rfl ?_ | refine ev_cond rfl (fun _ => ?_) (fun _ => ?_) | (intro h; exfalso; simp at h; done) | (intro _))
    exact ret1b rfl rfl (by rw [hI, h2]; simp; omega)
structure Point where
  (day value : Int)
deriving DecidableEq
def Point.enc (p : Point) : V := .st [vi p.day, vi p.value]
theorem equalPoints_c (a b : List (Point)) : PureC Try.prog true 49 [.l 2 (a.map Point.enc), .l 2 (b.map Point.enc)] (.b (a == b)) := by
  refine pure_len fun hL => pure_intro (N := 26) Try.func49 rfl rfl rfl rfl fun C hO => ?_
  have hla := len0 hL
  have hlb := len1 hL
  repeat' (first | (show RunS _ _ _ _ _ _ _; first | refine wq (h := ?_) | refine we (h := ?_) | refine ws (h := ?_) | refine rg rfl rfl (fun _ => ?_) (fun _ => ?_)) | (show RunQ _ _ _ _ _ _; first | refine wqb (ht := ?_) (hf := ?_) | refine wqq (h := ?_) | refine wqs (h := ?_)) | refine ev_seq ?_ | refine ev_region ?_ | refine ev_draw (by kernel_rfl) (by kernel_rfl) ?_ | refine qn ?_ | refine run_nil ?_ | refine ev_block ?_ | refine ev_skip ?_ | refine ev_exit ?_ | refine ev_ret ?_ | refine ev_condt rfl ?_ | refine ev_condf rfl ?_ | refine ev_cond rfl (fun _ => ?_) (fun _ => ?_) | (intro h; exfalso; simp at h; done) | (intro _))
  · exact ret1b rfl rfl (by rename_i h; simp at h; symm; simpa using fun e => h (by rw [e]))
  rename_i hlen
  have hlen : a.length = b.length := by simp at hlen; omega
  refine ev_forP a.length (fun k => (a == b) = (a.drop k == b.drop k)) [0, 1, 12] (fun k => [(13, .v true (.i .i64 (cN k)))]) [] (fun _ => []) rfl ?_ fun k hk hI => ?_
  · (refine at_shift ?_ ?_ ?_ ?_ rfl rfl <;> repeat (first | refine same1 rfl ?_ | refine has1 rfl rfl ?_ | refine has1 rfl (by simp [normD, *]) ?_ | exact has0 | exact same0))
  refine ev_seq ?_
  repeat (first | (show RunS _ _ _ _ _ _ _; first | refine wq (h := ?_) | refine we (h := ?_) | refine ws (h := ?_)) | (show RunQ _ _ _ _ _ _; first | refine wqb (ht := ?_) (hf := ?_) | refine wqq (h := ?_) | refine wqs (h := ?_)) | refine ev_seq ?_ | refine ev_region ?_ | refine ev_draw (by kernel_rfl) (by kernel_rfl) ?_ | refine qn ?_ | refine run_nil ?_ | refine ev_block ?_ | refine ev_skip ?_ | refine ev_exit ?_ | refine ev_ret ?_)
  refine ev_cond rfl (fun hc => ?_) (fun hc => ?_)
  · obtain ⟨x, h1, h2, h3, h4, h5, h6⟩ := round_in hla hk hc
    obtain ⟨y, g1, g2, g3, g4, g5⟩ := idx_at (enc := Point.enc) (ys := b) (k := k) (by omega) (by omega)
    rw [h5, g4] at hI
    repeat' (first | (show RunS _ _ _ _ _ _ _; first | refine wq (h := ?_) | refine we (h := ?_) | refine ws (h := ?_) | refine rg rfl rfl (fun _ => ?_) (fun _ => ?_)) | (show RunQ _ _ _ _ _ _; first | refine wqb (ht := ?_) (hf := ?_) | refine wqq (h := ?_) | refine wqs (h := ?_)) | refine ev_seq ?_ | refine ev_region ?_ | refine ev_draw (by kernel_rfl) (by kernel_rfl) ?_ | refine qn ?_ | refine run_nil ?_ | refine ev_block ?_ | refine ev_skip ?_ | refine ev_exit ?_ | refine ev_ret ?_ | refine ev_condt rfl ?_ | refine ev_condf rfl ?_ | refine ev_cond rfl (fun _ => ?_) (fun _ => ?_) | (intro h; exfalso; simp at h; done) | (intro _))
    · have e : (x == y) = false := by
        rename_i h
        clear hI h2 h3 h4 h5 g1 g2 g3 g4
        rw [beq_eq_false_iff_ne]
        rintro rfl
        simp at h
      exact ret1b rfl rfl (by rw [hI]; simp [e])
    · have e : x = y := by
        rename_i h
        clear hI h2 h3 h4 h5 g1 g2 g3 g4
        first | (simp at h; exact h) | (rcases x with ⟨_, _⟩; rcases y with ⟨_, _⟩; simp at h ⊢; simp [h]; done)
      exact ⟨h1, by rw [hI, e]; simp, by (refine at_shift ?_ ?_ ?_ ?_ rfl rfl <;> repeat (first | refine same1 rfl ?_ | refine has1 rfl rfl ?_ | refine has1 rfl (by simp [normD, *]) ?_ | exact has0 | exact same0))⟩
  · obtain ⟨h1, h2⟩ := round_out hla hk hc
    repeat' (first | (show RunS _ _ _ _ _ _ _; first | refine wq (h := ?_) | refine we (h := ?_) | refine ws (h := ?_) | refine rg rfl rfl (fun _ => ?_) (fun _ => ?_)) | (show RunQ _ _ _ _ _ _; first | refine wqb (ht := ?_) (hf := ?_) | refine wqq (h := ?_) | refine wqs (h := ?_)) | refine ev_seq ?_ | refine ev_region ?_ | refine ev_draw (by kernel_rfl) (by kernel_rfl) ?_ | refine qn ?_ | refine run_nil ?_ | refine ev_block ?_ | refine ev_skip ?_ | refine ev_exit ?_ | refine ev_ret ?_ | refine ev_condt rfl ?_ | refine ev_condf rfl ?_ | refine ev_cond rfl (fun _ => ?_) (fun _ => ?_) | (intro h; exfalso; simp at h; done) | (intro _))
    exact ret1b rfl rfl (by rw [hI, h2]; simp; omega)
theorem merge1_c (s : Supply) : PureC Try.prog true 39 [s.enc] (.b (inB s.amount 0 1048576)) := by
  refine pure_intro (N := 6) Try.func39 rfl rfl rfl rfl fun C hO => ?_
  repeat' (first | (show RunS _ _ _ _ _ _ _; first | refine wq (h := ?_) | refine wc (in_c _ _ _) (h := ?_) | refine wca (in_c _ _ _) (h := ?_) | refine we (h := ?_) | refine ws (h := ?_) | refine rg rfl rfl (fun _ => ?_) (fun _ => ?_)) | (show RunQ _ _ _ _ _ _; first | refine wqb (ht := ?_) (hf := ?_) | refine wqbc (in_c _ _ _) (ht := ?_) (hff := ?_) | refine wqq (h := ?_) | refine wqc (in_c _ _ _) (h := ?_) | refine wqca (in_c _ _ _) (h := ?_) | refine wqs (h := ?_)) | refine ev_seq ?_ | refine ev_region ?_ | refine ev_draw (by kernel_rfl) (by kernel_rfl) ?_ | refine qn ?_ | refine run_nil ?_ | refine ev_block ?_ | refine ev_skip ?_ | refine ev_exit ?_ | refine ev_ret ?_ | refine ev_condt rfl ?_ | refine ev_condf rfl ?_ | refine ev_cond rfl (fun _ => ?_) (fun _ => ?_) | (intro h; exfalso; simp at h; done) | (intro _))
  exact ret1b rfl rfl rfl
theorem merge2_c (row h : List Bool) (fits : List (List Bool)) (hf : fits[0]? = some h) : PureC Try.prog true 42 [rowE row, .q [.l 1 (fits.map rowE)]] (.b (decide ((row.length : Int) = h.length) && decide ((row.length : Int) ≤ 64))) := by
  refine pure_intro (N := 16) Try.func42 rfl rfl rfl rfl fun C hO => ?_
  have g1 : (0 : Int) ≤ 0 := by omega
  have g2 : (fits.map rowE)[(0 : Int).toNat]? = some (rowE h) := by simp [hf]
  repeat' (first | (show RunS _ _ _ _ _ _ _; first | refine wq (h := ?_) | refine we (h := ?_) | refine ws (h := ?_) | refine rg rfl rfl (fun _ => ?_) (fun _ => ?_)) | (show RunQ _ _ _ _ _ _; first | refine wqb (ht := ?_) (hf := ?_) | refine wqq (h := ?_) | refine wqs (h := ?_)) | refine ev_seq ?_ | refine ev_region ?_ | refine ev_draw (by kernel_rfl) (by kernel_rfl) ?_ | refine qn ?_ | refine run_nil ?_ | refine ev_block ?_ | refine ev_skip ?_ | refine ev_exit ?_ | refine ev_ret ?_ | refine ev_condt rfl ?_ | refine ev_condf rfl ?_ | refine ev_cond rfl (fun _ => ?_) (fun _ => ?_) | (intro h; exfalso; simp at h; done) | (intro _))
  all_goals exact ret1b rfl rfl (by rw [Bool.eq_iff_iff]; simp_all)
theorem merge3_c (z row : List Bool) : PureC Try.prog true 44 [rowE z, .q [rowE row]] (.b (z == row)) := by
  refine pure_intro (N := 7) Try.func44 rfl rfl rfl rfl fun C hO => ?_
  repeat' (first | (show RunS _ _ _ _ _ _ _; first | refine wq (h := ?_) | refine wc (equalRow_c z row) (h := ?_) | refine wca (equalRow_c z row) (h := ?_) | refine we (h := ?_) | refine ws (h := ?_) | refine rg rfl rfl (fun _ => ?_) (fun _ => ?_)) | (show RunQ _ _ _ _ _ _; first | refine wqb (ht := ?_) (hf := ?_) | refine wqbc (equalRow_c z row) (ht := ?_) (hff := ?_) | refine wqq (h := ?_) | refine wqc (equalRow_c z row) (h := ?_) | refine wqca (equalRow_c z row) (h := ?_) | refine wqs (h := ?_)) | refine ev_seq ?_ | refine ev_region ?_ | refine ev_draw (by kernel_rfl) (by kernel_rfl) ?_ | refine qn ?_ | refine run_nil ?_ | refine ev_block ?_ | refine ev_skip ?_ | refine ev_exit ?_ | refine ev_ret ?_ | refine ev_condt rfl ?_ | refine ev_condf rfl ?_ | refine ev_cond rfl (fun _ => ?_) (fun _ => ?_) | (intro h; exfalso; simp at h; done) | (intro _))
  exact ret1b rfl rfl rfl
def formedB (s : List Supply) (fits : List (List Bool)) : Bool := decide (fits.length = s.length) && (match fits with | [] => true | h :: _ => fits.all fun r => decide (r.length = h.length))
theorem formed_c (s : List Supply) (fits : List (List Bool)) : PureC Try.prog true 24 [.l 6 (s.map Supply.enc), .l 1 (fits.map rowE)] (.b (formedB s fits)) := by
  refine pure_len fun hL => pure_intro (N := 26) Try.func24 rfl rfl rfl rfl fun C hO => ?_
  have hla := len1 hL
  repeat' (first | (show RunS _ _ _ _ _ _ _; first | refine wq (h := ?_) | refine we (h := ?_) | refine ws (h := ?_) | refine rg rfl rfl (fun _ => ?_) (fun _ => ?_)) | (show RunQ _ _ _ _ _ _; first | refine wqb (ht := ?_) (hf := ?_) | refine wqq (h := ?_) | refine wqs (h := ?_)) | refine ev_seq ?_ | refine ev_region ?_ | refine ev_draw (by kernel_rfl) (by kernel_rfl) ?_ | refine qn ?_ | refine run_nil ?_ | refine ev_block ?_ | refine ev_skip ?_ | refine ev_exit ?_ | refine ev_ret ?_ | refine ev_condt rfl ?_ | refine ev_condf rfl ?_ | refine ev_cond rfl (fun _ => ?_) (fun _ => ?_) | (intro h; exfalso; simp at h; done) | (intro _))
  · exact ret1b rfl rfl (by rename_i h; simp at h; symm; simp [formedB]; omega)
  rename_i hlen
  have hlen : fits.length = s.length := by simp at hlen; omega
  cases fits with
  | nil =>
    refine ev_forP 0 (fun _ => True) [0, 1, 12, 13] (fun k => [(14, .v true (.i .i64 (cN k)))]) [] (fun _ => []) trivial ?_ fun k hk hI => ?_
    · (refine at_shift ?_ ?_ ?_ ?_ rfl rfl <;> repeat (first | refine same1 rfl ?_ | refine has1 rfl rfl ?_ | refine has1 rfl (by simp [normD, *]) ?_ | exact has0 | exact same0))
    have hk0 : k = 0 := by omega
    subst hk0
    repeat' (first | (show RunS _ _ _ _ _ _ _; first | refine wq (h := ?_) | refine we (h := ?_) | refine ws (h := ?_) | refine rg rfl rfl (fun _ => ?_) (fun _ => ?_)) | (show RunQ _ _ _ _ _ _; first | refine wqb (ht := ?_) (hf := ?_) | refine wqq (h := ?_) | refine wqs (h := ?_)) | refine ev_seq ?_ | refine ev_region ?_ | refine ev_draw (by kernel_rfl) (by kernel_rfl) ?_ | refine qn ?_ | refine run_nil ?_ | refine ev_block ?_ | refine ev_skip ?_ | refine ev_exit ?_ | refine ev_ret ?_ | refine ev_condt rfl ?_ | refine ev_condf rfl ?_ | refine ev_cond rfl (fun _ => ?_) (fun _ => ?_) | (intro h; exfalso; simp at h; done) | (intro _))
    all_goals first | (exfalso; rename_i h; simp [cN] at h; done) | exact ret1b rfl rfl (by simp [formedB, hlen])
  | cons h rest =>
    have g1 : (0 : Int) ≤ 0 := by omega
    have g2 : ((h :: rest).map rowE)[(0 : Int).toNat]? = some (rowE h) := by simp
    refine ev_forP (h :: rest).length (fun k => formedB s (h :: rest) = ((h :: rest).drop k).all fun r => decide (r.length = h.length)) [0, 1, 12, 13] (fun k => [(14, .v true (.i .i64 (cN k)))]) [] (fun _ => []) (by simp [formedB, hlen]) ?_ fun k hk hI => ?_
    · (refine at_shift ?_ ?_ ?_ ?_ rfl rfl <;> repeat (first | refine same1 rfl ?_ | refine has1 rfl rfl ?_ | refine has1 rfl (by simp [normD, *]) ?_ | exact has0 | exact same0))
    refine ev_seq ?_
    repeat (first | (show RunS _ _ _ _ _ _ _; first | refine wq (h := ?_) | refine we (h := ?_) | refine ws (h := ?_)) | (show RunQ _ _ _ _ _ _; first | refine wqb (ht := ?_) (hf := ?_) | refine wqq (h := ?_) | refine wqs (h := ?_)) | refine ev_seq ?_ | refine ev_region ?_ | refine ev_draw (by kernel_rfl) (by kernel_rfl) ?_ | refine qn ?_ | refine run_nil ?_ | refine ev_block ?_ | refine ev_skip ?_ | refine ev_exit ?_ | refine ev_ret ?_)
    refine ev_cond rfl (fun hc => ?_) (fun hc => ?_)
    · obtain ⟨x, h1, h2, h3, h4, h5, h6⟩ := round_in hla hk hc
      rw [h5, List.all_cons] at hI
      repeat' (first | (show RunS _ _ _ _ _ _ _; first | refine wq (h := ?_) | refine we (h := ?_) | refine ws (h := ?_) | refine rg rfl rfl (fun _ => ?_) (fun _ => ?_)) | (show RunQ _ _ _ _ _ _; first | refine wqb (ht := ?_) (hf := ?_) | refine wqq (h := ?_) | refine wqs (h := ?_)) | refine ev_seq ?_ | refine ev_region ?_ | refine ev_draw (by kernel_rfl) (by kernel_rfl) ?_ | refine qn ?_ | refine run_nil ?_ | refine ev_block ?_ | refine ev_skip ?_ | refine ev_exit ?_ | refine ev_ret ?_ | refine ev_condt rfl ?_ | refine ev_condf rfl ?_ | refine ev_cond rfl (fun _ => ?_) (fun _ => ?_) | (intro h; exfalso; simp at h; done) | (intro _))
      · rename_i q
        exact ret1b rfl rfl (by rw [hI]; simp at q; simp; intro e; omega)
      · rename_i q
        exact ⟨h1, by rw [hI]; simp at q; simp; intro e; omega, by (refine at_shift ?_ ?_ ?_ ?_ rfl rfl <;> repeat (first | refine same1 rfl ?_ | refine has1 rfl rfl ?_ | refine has1 rfl (by simp [normD, *]) ?_ | exact has0 | exact same0))⟩
    · obtain ⟨h1, h2⟩ := round_out hla hk hc
      repeat' (first | (show RunS _ _ _ _ _ _ _; first | refine wq (h := ?_) | refine we (h := ?_) | refine ws (h := ?_) | refine rg rfl rfl (fun _ => ?_) (fun _ => ?_)) | (show RunQ _ _ _ _ _ _; first | refine wqb (ht := ?_) (hf := ?_) | refine wqq (h := ?_) | refine wqs (h := ?_)) | refine ev_seq ?_ | refine ev_region ?_ | refine ev_draw (by kernel_rfl) (by kernel_rfl) ?_ | refine qn ?_ | refine run_nil ?_ | refine ev_block ?_ | refine ev_skip ?_ | refine ev_exit ?_ | refine ev_ret ?_ | refine ev_condt rfl ?_ | refine ev_condf rfl ?_ | refine ev_cond rfl (fun _ => ?_) (fun _ => ?_) | (intro h; exfalso; simp at h; done) | (intro _))
      exact ret1b rfl rfl (by rw [hI, h2]; rfl)
end Bf
