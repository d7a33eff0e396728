import Derived.Test.YteecgmkfbohpjaaT1
namespace Bf
open Go Go.RowKit Go.Proofs
attribute [local irreducible] Quiet Effect RunS Ev PureC Shift RunQ HasF SameF

abbrev vb (b : Bool) : V := .b b

theorem sameRow_c (a b : List Bool) : PureC Try.prog true 25 [.l 1 (a.map vb), .l 1 (b.map vb)] (.b (a == b)) := by
  refine pure_len fun hL => pure_intro (N := 26) Try.func25 rfl rfl rfl rfl fun C hO => ?_
  have hla : a.length ≤ maxLen := by simpa using (hL _ (by simp : V.l 1 (a.map vb) ∈ _)).len
  have hlb : b.length ≤ maxLen := by simpa using (hL _ (by simp : V.l 1 (b.map vb) ∈ _)).len
  repeat' (first | (show RunS _ _ _ _ _ _ _; first | refine wq (h := ?_) | refine we (h := ?_) | refine ws (h := ?_) | refine rg rfl rfl (fun _ => ?_) (fun _ => ?_)) | (show RunQ _ _ _ _ _ _; first | refine wqb (ht := ?_) (hf := ?_) | refine wqq (h := ?_) | refine wqs (h := ?_)) | refine ev_seq ?_ | refine ev_region ?_ | refine ev_draw (by kernel_rfl) (by kernel_rfl) ?_ | refine qn ?_ | refine run_nil ?_ | refine ev_block ?_ | refine ev_skip ?_ | refine ev_exit ?_ | refine ev_ret ?_ | refine ev_condt rfl ?_ | refine ev_condf rfl ?_ | refine ev_cond rfl (fun _ => ?_) (fun _ => ?_) | (intro h; exfalso; simp at h; done) | (intro _))
  · exact ret1b rfl rfl (by rename_i h; simp at h; symm; simpa using fun e => h (by rw [e]))
  rename_i hlen
  have hlen : a.length = b.length := by simp at hlen; omega
  refine ev_forP a.length (fun k => (a == b) = (a.drop k == b.drop k)) [0, 1] (fun k => [(5, .v true (.i .i64 (cN k)))]) [] (fun _ => []) rfl ?_ fun k hk hI => ?_
  · (refine at_shift ?_ ?_ ?_ ?_ rfl rfl <;> repeat (first | refine same1 rfl ?_ | refine has1 rfl rfl ?_ | refine has1 rfl (by simp [normD, *]) ?_ | exact has0 | exact same0))
  repeat' (first | (show RunS _ _ _ _ _ _ _; first | refine wq (h := ?_) | refine we (h := ?_) | refine ws (h := ?_) | refine rg rfl rfl (fun _ => ?_) (fun _ => ?_)) | (show RunQ _ _ _ _ _ _; first | refine wqb (ht := ?_) (hf := ?_) | refine wqq (h := ?_) | refine wqs (h := ?_)) | refine ev_seq ?_ | refine ev_region ?_ | refine ev_draw (by kernel_rfl) (by kernel_rfl) ?_ | refine qn ?_ | refine run_nil ?_ | refine ev_block ?_ | refine ev_skip ?_ | refine ev_exit ?_ | refine ev_ret ?_ | refine ev_condt rfl ?_ | refine ev_condf rfl ?_ | refine ev_cond rfl (fun _ => ?_) (fun _ => ?_) | (intro h; exfalso; simp at h; done) | (intro _))
  · rename_i hc
    obtain ⟨x, h1, h2, h3, h4, h5, h6⟩ := round_in hla hk hc
    obtain ⟨y, g2, g3, g4, g5, g6⟩ := idx_at (enc := vb) (ys := b) (k := k) (by omega) (by omega)
    rw [h5, g5] at hI
    repeat' (first | (show RunS _ _ _ _ _ _ _; first | refine wq (h := ?_) | refine we (h := ?_) | refine ws (h := ?_) | refine rg rfl rfl (fun _ => ?_) (fun _ => ?_)) | (show RunQ _ _ _ _ _ _; first | refine wqb (ht := ?_) (hf := ?_) | refine wqq (h := ?_) | refine wqs (h := ?_)) | refine ev_seq ?_ | refine ev_region ?_ | refine ev_draw (by kernel_rfl) (by kernel_rfl) ?_ | refine qn ?_ | refine run_nil ?_ | refine ev_block ?_ | refine ev_skip ?_ | refine ev_exit ?_ | refine ev_ret ?_ | refine ev_condt rfl ?_ | refine ev_condf rfl ?_ | refine ev_cond rfl (fun _ => ?_) (fun _ => ?_) | (intro h; exfalso; simp at h; done) | (intro _))
    · exact ret1b rfl rfl (by rename_i h; simp at h; simp [hI, h])
    · rename_i h
      simp at h
      exact ⟨h1, by simp [hI, h], by (refine at_shift ?_ ?_ ?_ ?_ rfl rfl <;> repeat (first | refine same1 rfl ?_ | refine has1 rfl rfl ?_ | refine has1 rfl (by simp [normD, *]) ?_ | exact has0 | exact same0))⟩
  · rename_i hc
    obtain ⟨h1, h2⟩ := round_out hla hk hc
    exact ret1b rfl rfl (by rw [hI, h2]; simp; omega)
end Bf
