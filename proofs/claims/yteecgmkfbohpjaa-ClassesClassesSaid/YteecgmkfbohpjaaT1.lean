import Derived.Test.YteecgmkfbohpjaaFacts
namespace Bf
open Go Go.RowKit Go.Proofs
attribute [local irreducible] Quiet Effect RunS Ev PureC Shift RunQ HasF SameF

def inB (n a b : Int) : Bool := decide (a ≤ n) && decide (n ≤ b)
abbrev vi (n : Int) : V := .i .i64 n

theorem in_c (n a b : Int) : PureC Try.prog true 40 [vi n, vi a, vi b] (.b (inB n a b)) := by
  refine pure_intro (N := 15) Try.func40 rfl rfl rfl rfl fun C hO => ?_
  repeat' (first | (show RunS _ _ _ _ _ _ _; first | refine wq (h := ?_) | refine we (h := ?_) | refine ws (h := ?_) | refine rg rfl rfl (fun _ => ?_) (fun _ => ?_)) | (show RunQ _ _ _ _ _ _; first | refine wqb (ht := ?_) (hf := ?_) | refine wqq (h := ?_) | refine wqs (h := ?_)) | refine ev_seq ?_ | refine ev_region ?_ | refine ev_draw (by kernel_rfl) (by kernel_rfl) ?_ | refine qn ?_ | refine run_nil ?_ | refine ev_block ?_ | refine ev_skip ?_ | refine ev_exit ?_ | refine ev_ret ?_ | refine ev_condt rfl ?_ | refine ev_condf rfl ?_ | refine ev_cond rfl (fun _ => ?_) (fun _ => ?_) | (intro h; exfalso; simp at h; done) | (intro _))
  all_goals exact ret1b rfl rfl (by simp [inB, *])

structure Supply where
  (no item plant ready expiry amount : Int)
def Supply.enc (s : Supply) : V := .st [vi s.no, vi s.item, vi s.plant, vi s.ready, vi s.expiry, vi s.amount]
def Supply.ok (s : Supply) : Bool := inB s.no 0 1023 && (inB s.item 0 31 && (inB s.plant 0 7 && (inB s.ready 0 1024 && (inB s.expiry 0 1024 && inB s.amount 0 1048576))))

theorem supply_c (s : Supply) : PureC Try.prog true 30 [s.enc] (.b s.ok) := by
  refine pure_intro (N := 31) Try.func30 rfl rfl rfl rfl fun C hO => ?_
  repeat' (first | (show RunS _ _ _ _ _ _ _; first | refine wq (h := ?_) | refine wc (in_c _ _ _) (h := ?_) | refine wca (in_c _ _ _) (h := ?_) | refine we (h := ?_) | refine ws (h := ?_) | refine rg rfl rfl (fun _ => ?_) (fun _ => ?_)) | (show RunQ _ _ _ _ _ _; first | refine wqb (ht := ?_) (hf := ?_) | refine wqbc (in_c _ _ _) (ht := ?_) (hff := ?_) | refine wqq (h := ?_) | refine wqc (in_c _ _ _) (h := ?_) | refine wqca (in_c _ _ _) (h := ?_) | refine wqs (h := ?_)) | refine ev_seq ?_ | refine ev_region ?_ | refine ev_draw (by kernel_rfl) (by kernel_rfl) ?_ | refine qn ?_ | refine run_nil ?_ | refine ev_block ?_ | refine ev_skip ?_ | refine ev_exit ?_ | refine ev_ret ?_ | refine ev_condt rfl ?_ | refine ev_condf rfl ?_ | refine ev_cond rfl (fun _ => ?_) (fun _ => ?_) | (intro h; exfalso; simp at h; done) | (intro _))
  all_goals exact ret1b rfl rfl (by simp [Supply.ok, *])
end Bf
