import Derived.Test.YteecgmkfbohpjaaT8
namespace Bf
open Go Go.RowKit Go.Proofs
attribute [local irreducible] Quiet Effect RunS Ev PureC Shift RunQ HasF SameF

theorem rin_c (n a b : Int) : PureC Try.prog true 46 [vi n, vi a, vi b] (.b (inB n a b)) := by
  refine pure_intro (N := 15) Try.func46 rfl rfl rfl rfl fun C hO => ?_
  repeat' (first | (show RunS _ _ _ _ _ _ _; first | refine wq (h := ?_) | refine we (h := ?_) | refine ws (h := ?_) | refine rg rfl rfl (fun _ => ?_) (fun _ => ?_)) | (show RunQ _ _ _ _ _ _; first | refine wqb (ht := ?_) (hf := ?_) | refine wqq (h := ?_) | refine wqs (h := ?_)) | refine ev_seq ?_ | refine ev_region ?_ | refine ev_draw (by kernel_rfl) (by kernel_rfl) ?_ | refine qn ?_ | refine run_nil ?_ | refine ev_block ?_ | refine ev_skip ?_ | refine ev_exit ?_ | refine ev_ret ?_ | refine ev_condt rfl ?_ | refine ev_condf rfl ?_ | refine ev_cond rfl (fun _ => ?_) (fun _ => ?_) | (intro h; exfalso; simp at h; done) | (intro _))
  all_goals exact ret1b rfl rfl (by simp [inB, *])
theorem rsupply_c (s : Supply) : PureC Try.prog true 33 [s.enc] (.b s.ok) := by
  refine pure_intro (N := 31) Try.func33 rfl rfl rfl rfl fun C hO => ?_
  repeat' (first | (show RunS _ _ _ _ _ _ _; first | refine wq (h := ?_) | refine wc (rin_c _ _ _) (h := ?_) | refine wca (rin_c _ _ _) (h := ?_) | refine we (h := ?_) | refine ws (h := ?_) | refine rg rfl rfl (fun _ => ?_) (fun _ => ?_)) | (show RunQ _ _ _ _ _ _; first | refine wqb (ht := ?_) (hf := ?_) | refine wqbc (rin_c _ _ _) (ht := ?_) (hff := ?_) | refine wqq (h := ?_) | refine wqc (rin_c _ _ _) (h := ?_) | refine wqca (rin_c _ _ _) (h := ?_) | refine wqs (h := ?_)) | refine ev_seq ?_ | refine ev_region ?_ | refine ev_draw (by kernel_rfl) (by kernel_rfl) ?_ | refine qn ?_ | refine run_nil ?_ | refine ev_block ?_ | refine ev_skip ?_ | refine ev_exit ?_ | refine ev_ret ?_ | refine ev_condt rfl ?_ | refine ev_condf rfl ?_ | refine ev_cond rfl (fun _ => ?_) (fun _ => ?_) | (intro h; exfalso; simp at h; done) | (intro _))
  all_goals exact ret1b rfl rfl (by simp [Supply.ok, *])
theorem rrequest_c (s : Request) : PureC Try.prog true 34 [s.enc] (.b s.ok) := by
  refine pure_intro (N := 31) Try.func34 rfl rfl rfl rfl fun C hO => ?_
  repeat' (first | (show RunS _ _ _ _ _ _ _; first | refine wq (h := ?_) | refine wc (rin_c _ _ _) (h := ?_) | refine wca (rin_c _ _ _) (h := ?_) | refine we (h := ?_) | refine ws (h := ?_) | refine rg rfl rfl (fun _ => ?_) (fun _ => ?_)) | (show RunQ _ _ _ _ _ _; first | refine wqb (ht := ?_) (hf := ?_) | refine wqbc (rin_c _ _ _) (ht := ?_) (hff := ?_) | refine wqq (h := ?_) | refine wqc (rin_c _ _ _) (h := ?_) | refine wqca (rin_c _ _ _) (h := ?_) | refine wqs (h := ?_)) | refine ev_seq ?_ | refine ev_region ?_ | refine ev_draw (by kernel_rfl) (by kernel_rfl) ?_ | refine qn ?_ | refine run_nil ?_ | refine ev_block ?_ | refine ev_skip ?_ | refine ev_exit ?_ | refine ev_ret ?_ | refine ev_condt rfl ?_ | refine ev_condf rfl ?_ | refine ev_cond rfl (fun _ => ?_) (fun _ => ?_) | (intro h; exfalso; simp at h; done) | (intro _))
  all_goals exact ret1b rfl rfl (by simp [Request.ok, *])

def Swap.is (a b : Int) (y : Swap) : Bool := a == y.ano && (b == y.bno && true)
theorem used1_c (y : Swap) (a b : Int) : PureC Try.prog true 56 [y.enc, .q [vi a, vi b]] (.b (y.is a b)) := by
  refine pure_intro (N := 11) Try.func56 rfl rfl rfl rfl fun C hO => ?_
  repeat' (first | (show RunS _ _ _ _ _ _ _; first | refine wq (h := ?_) | refine we (h := ?_) | refine ws (h := ?_) | refine rg rfl rfl (fun _ => ?_) (fun _ => ?_)) | (show RunQ _ _ _ _ _ _; first | refine wqb (ht := ?_) (hf := ?_) | refine wqq (h := ?_) | refine wqs (h := ?_)) | refine ev_seq ?_ | refine ev_region ?_ | refine ev_draw (by kernel_rfl) (by kernel_rfl) ?_ | refine qn ?_ | refine run_nil ?_ | refine ev_block ?_ | refine ev_skip ?_ | refine ev_exit ?_ | refine ev_ret ?_ | refine ev_condt rfl ?_ | refine ev_condf rfl ?_ | refine ev_cond rfl (fun _ => ?_) (fun _ => ?_) | (intro h; exfalso; simp at h; done) | (intro _))
  all_goals exact ret1b rfl rfl rfl
def usedB (l : List Swap) (a b : Int) : Bool := a == b || l.any (Swap.is a b)
def srcE (u : Fin 7 → V) (l : List Swap) : V := .st [u 0, u 1, u 2, u 3, u 4, u 5, u 6, .l 4 (l.map Swap.enc)]
theorem used_c (u : Fin 7 → V) (l : List Swap) (a b : Int) : PureC Try.prog true 36 [srcE u l, .st [vi a, vi b]] (.b (usedB l a b)) := by
  refine pure_intro (N := 16) Try.func36 rfl rfl rfl rfl fun C hO => ?_
  repeat' (first | (refine run_shift (shift_freeze 3 (hO _) rfl rfl rfl) ?_) | (refine run_shift (shift_freeze 2 (hO _) rfl rfl rfl) ?_) | (show RunS _ _ _ _ _ _ _; first | refine wq (h := ?_) | refine wc (anySwap_c l (Swap.is a b) _ _ (fun y _ => used1_c y a b)) (h := ?_) | refine wca (anySwap_c l (Swap.is a b) _ _ (fun y _ => used1_c y a b)) (h := ?_) | refine we (h := ?_) | refine ws (h := ?_) | refine rg rfl rfl (fun _ => ?_) (fun _ => ?_)) | (show RunQ _ _ _ _ _ _; first | refine wqb (ht := ?_) (hf := ?_) | refine wqbc (anySwap_c l (Swap.is a b) _ _ (fun y _ => used1_c y a b)) (ht := ?_) (hff := ?_) | refine wqq (h := ?_) | refine wqc (anySwap_c l (Swap.is a b) _ _ (fun y _ => used1_c y a b)) (h := ?_) | refine wqca (anySwap_c l (Swap.is a b) _ _ (fun y _ => used1_c y a b)) (h := ?_) | refine wqs (h := ?_)) | refine ev_seq ?_ | refine ev_region ?_ | refine ev_draw (by kernel_rfl) (by kernel_rfl) ?_ | refine qn ?_ | refine run_nil ?_ | refine ev_block ?_ | refine ev_skip ?_ | refine ev_exit ?_ | refine ev_ret ?_ | refine ev_condt rfl ?_ | refine ev_condf rfl ?_ | refine ev_cond rfl (fun _ => ?_) (fun _ => ?_) | (intro h; exfalso; simp at h; done) | (intro _))
  all_goals exact ret1b rfl rfl (by simp_all [usedB])
theorem rused_c (u : Fin 7 → V) (l : List Swap) (a b : Int) : PureC Try.prog true 37 [srcE u l, vi a, vi b] (.b (usedB l a b)) := by
  refine pure_len fun hL => pure_intro (N := 36) Try.func37 rfl rfl rfl rfl fun C hO => ?_
  have hla : l.length ≤ maxLen := by simpa using ((hL (srcE u l) (by simp)).fld (.l 4 (l.map Swap.enc)) (by simp)).len
  repeat' (first | (refine run_shift (shift_freeze 3 (hO _) rfl rfl rfl) ?_) | (show RunS _ _ _ _ _ _ _; first | refine wq (h := ?_) | refine we (h := ?_) | refine ws (h := ?_) | refine rg rfl rfl (fun _ => ?_) (fun _ => ?_)) | (show RunQ _ _ _ _ _ _; first | refine wqb (ht := ?_) (hf := ?_) | refine wqq (h := ?_) | refine wqs (h := ?_)) | refine ev_seq ?_ | refine ev_region ?_ | refine ev_draw (by kernel_rfl) (by kernel_rfl) ?_ | refine qn ?_ | refine run_nil ?_ | refine ev_block ?_ | refine ev_skip ?_ | refine ev_exit ?_ | refine ev_ret ?_ | refine ev_condt rfl ?_ | refine ev_condf rfl ?_ | refine ev_cond rfl (fun _ => ?_) (fun _ => ?_) | (intro h; exfalso; simp at h; done) | (intro _))
  refine ev_forP l.length (fun k => usedB l a b = usedB (l.drop k) a b) [1, 2, 3] (fun k => [(7, .v true (.i .i64 (cN k)))]) [] (fun _ => []) rfl ?_ fun k hk hI => ?_
  · (refine at_shift ?_ ?_ ?_ ?_ rfl rfl <;> repeat (first | refine same1 rfl ?_ | refine has1 rfl rfl ?_ | refine has1 rfl (by simp [normD, *]) ?_ | exact has0 | exact same0))
  refine ev_seq ?_
  refine ev_seq ?_
  repeat (first | (show RunS _ _ _ _ _ _ _; first | refine wq (h := ?_) | refine we (h := ?_) | refine ws (h := ?_)) | (show RunQ _ _ _ _ _ _; first | refine wqb (ht := ?_) (hf := ?_) | refine wqq (h := ?_) | refine wqs (h := ?_)) | refine ev_seq ?_ | refine ev_region ?_ | refine ev_draw (by kernel_rfl) (by kernel_rfl) ?_ | refine qn ?_ | refine run_nil ?_ | refine ev_block ?_ | refine ev_skip ?_ | refine ev_exit ?_ | refine ev_ret ?_)
  refine ev_cond rfl (fun hc => ?_) (fun hc => ?_)
  · obtain ⟨x, h1, h2, h3, h4, h5, h6⟩ := round_in hla hk hc
    rw [h5, show ∀ r, usedB (x :: r) a b = (if (x.ano == a && x.bno == b) = true then true else usedB r a b) from fun r => by
      simp only [usedB, List.any_cons, Swap.is, BEq.comm (a := a) (b := x.ano), BEq.comm (a := b) (b := x.bno)]
      cases (x.ano == a) <;> cases (x.bno == b) <;> simp] at hI
    repeat' (first | (show RunS _ _ _ _ _ _ _; first | refine wq (h := ?_) | refine we (h := ?_) | refine ws (h := ?_) | refine rg rfl rfl (fun _ => ?_) (fun _ => ?_)) | (show RunQ _ _ _ _ _ _; first | refine wqb (ht := ?_) (hf := ?_) | refine wqq (h := ?_) | refine wqs (h := ?_)) | refine ev_seq ?_ | refine ev_region ?_ | refine ev_draw (by kernel_rfl) (by kernel_rfl) ?_ | refine qn ?_ | refine run_nil ?_ | refine ev_block ?_ | refine ev_skip ?_ | refine ev_exit ?_ | refine ev_ret ?_ | refine ev_condt rfl ?_ | refine ev_condf rfl ?_ | refine ev_cond rfl (fun _ => ?_) (fun _ => ?_) | (intro h; exfalso; simp at h; done) | (intro _))
    all_goals first | exact ret1b rfl rfl (by rw [hI]; simp [*]) | exact ⟨h1, by rw [hI]; simp [*], by (refine at_shift ?_ ?_ ?_ ?_ rfl rfl <;> repeat (first | refine same1 rfl ?_ | refine has1 rfl rfl ?_ | refine has1 rfl (by simp [normD, *]) ?_ | exact has0 | exact same0))⟩
  · obtain ⟨h1, h2⟩ := round_out hla hk hc
    repeat' (first | (show RunS _ _ _ _ _ _ _; first | refine wq (h := ?_) | refine we (h := ?_) | refine ws (h := ?_) | refine rg rfl rfl (fun _ => ?_) (fun _ => ?_)) | (show RunQ _ _ _ _ _ _; first | refine wqb (ht := ?_) (hf := ?_) | refine wqq (h := ?_) | refine wqs (h := ?_)) | refine ev_seq ?_ | refine ev_region ?_ | refine ev_draw (by kernel_rfl) (by kernel_rfl) ?_ | refine qn ?_ | refine run_nil ?_ | refine ev_block ?_ | refine ev_skip ?_ | refine ev_exit ?_ | refine ev_ret ?_ | refine ev_condt rfl ?_ | refine ev_condf rfl ?_ | refine ev_cond rfl (fun _ => ?_) (fun _ => ?_) | (intro h; exfalso; simp at h; done) | (intro _))
    exact ret1b rfl rfl (by rw [hI, h2]; simp [usedB])

theorem has_c (l : List Read) (x : Read) : PureC Try.prog true 35 [.l 5 (l.map Read.enc), x.enc] (.b (l.any (· == x))) := by
  refine pure_len fun hL => pure_intro (N := 18) Try.func35 rfl rfl rfl rfl fun C hO => ?_
  have hla := len0 hL
  repeat' (first | (refine run_shift (shift_freeze 3 (hO _) rfl rfl rfl) ?_) | (show RunS _ _ _ _ _ _ _; first | refine wq (h := ?_) | refine we (h := ?_) | refine ws (h := ?_) | refine rg rfl rfl (fun _ => ?_) (fun _ => ?_)) | (show RunQ _ _ _ _ _ _; first | refine wqb (ht := ?_) (hf := ?_) | refine wqq (h := ?_) | refine wqs (h := ?_)) | refine ev_seq ?_ | refine ev_region ?_ | refine ev_draw (by kernel_rfl) (by kernel_rfl) ?_ | refine qn ?_ | refine run_nil ?_ | refine ev_block ?_ | refine ev_skip ?_ | refine ev_exit ?_ | refine ev_ret ?_ | refine ev_condt rfl ?_ | refine ev_condf rfl ?_ | refine ev_cond rfl (fun _ => ?_) (fun _ => ?_) | (intro h; exfalso; simp at h; done) | (intro _))
  refine ev_forP l.length (fun k => l.any (· == x) = (l.drop k).any (· == x)) [0, 3] (fun k => [(5, .v true (.i .i64 (cN k)))]) [] (fun _ => []) rfl ?_ fun k hk hI => ?_
  · (refine at_shift ?_ ?_ ?_ ?_ rfl rfl <;> repeat (first | refine same1 rfl ?_ | refine has1 rfl rfl ?_ | refine has1 rfl (by simp [normD, *]) ?_ | exact has0 | exact same0))
  refine ev_seq ?_
  refine ev_seq ?_
  repeat (first | (show RunS _ _ _ _ _ _ _; first | refine wq (h := ?_) | refine we (h := ?_) | refine ws (h := ?_)) | (show RunQ _ _ _ _ _ _; first | refine wqb (ht := ?_) (hf := ?_) | refine wqq (h := ?_) | refine wqs (h := ?_)) | refine ev_seq ?_ | refine ev_region ?_ | refine ev_draw (by kernel_rfl) (by kernel_rfl) ?_ | refine qn ?_ | refine run_nil ?_ | refine ev_block ?_ | refine ev_skip ?_ | refine ev_exit ?_ | refine ev_ret ?_)
  refine ev_cond rfl (fun hc => ?_) (fun hc => ?_)
  · obtain ⟨y, h1, h2, h3, h4, h5, h6⟩ := round_in hla hk hc
    rw [h5, List.any_cons] at hI
    repeat' (first | (show RunS _ _ _ _ _ _ _; first | refine wq (h := ?_) | refine we (h := ?_) | refine ws (h := ?_) | refine rg rfl rfl (fun _ => ?_) (fun _ => ?_)) | (show RunQ _ _ _ _ _ _; first | refine wqb (ht := ?_) (hf := ?_) | refine wqq (h := ?_) | refine wqs (h := ?_)) | refine ev_seq ?_ | refine ev_region ?_ | refine ev_draw (by kernel_rfl) (by kernel_rfl) ?_ | refine qn ?_ | refine run_nil ?_ | refine ev_block ?_ | refine ev_skip ?_ | refine ev_exit ?_ | refine ev_ret ?_ | refine ev_condt rfl ?_ | refine ev_condf rfl ?_ | refine ev_cond rfl (fun _ => ?_) (fun _ => ?_) | (intro h; exfalso; simp at h; done) | (intro _))
    · rename_i h
      have e : (y == x) = true := by
        clear hI h2 h3 h4 h5
        rcases x with ⟨⟨_, _, _⟩, _, _⟩; rcases y with ⟨⟨_, _, _⟩, _, _⟩; simp at h ⊢; simp [h]
      exact ret1b rfl rfl (by rw [hI, e]; rfl)
    · rename_i h
      have e : (y == x) = false := by
        clear hI h2 h3 h4 h5
        rw [beq_eq_false_iff_ne]; rintro rfl; simp at h
      exact ⟨h1, by rw [hI, e]; rfl, by (refine at_shift ?_ ?_ ?_ ?_ rfl rfl <;> repeat (first | refine same1 rfl ?_ | refine has1 rfl rfl ?_ | refine has1 rfl (by simp [normD, *]) ?_ | exact has0 | exact same0))⟩
  · obtain ⟨h1, h2⟩ := round_out hla hk hc
    repeat' (first | (show RunS _ _ _ _ _ _ _; first | refine wq (h := ?_) | refine we (h := ?_) | refine ws (h := ?_) | refine rg rfl rfl (fun _ => ?_) (fun _ => ?_)) | (show RunQ _ _ _ _ _ _; first | refine wqb (ht := ?_) (hf := ?_) | refine wqq (h := ?_) | refine wqs (h := ?_)) | refine ev_seq ?_ | refine ev_region ?_ | refine ev_draw (by kernel_rfl) (by kernel_rfl) ?_ | refine qn ?_ | refine run_nil ?_ | refine ev_block ?_ | refine ev_skip ?_ | refine ev_exit ?_ | refine ev_ret ?_ | refine ev_condt rfl ?_ | refine ev_condf rfl ?_ | refine ev_cond rfl (fun _ => ?_) (fun _ => ?_) | (intro h; exfalso; simp at h; done) | (intro _))
    exact ret1b rfl rfl (by rw [hI, h2]; rfl)

theorem few04_c (l : List Fact) : PureC Try.prog true 28 [.l 8 (l.map Fact.enc)] (.b (decide (l.length ≤ 30))) := by
  refine pure_intro (N := 6) Try.func28 rfl rfl rfl rfl fun C hO => ?_
  repeat' (first | (show RunS _ _ _ _ _ _ _; first | refine wq (h := ?_) | refine we (h := ?_) | refine ws (h := ?_) | refine rg rfl rfl (fun _ => ?_) (fun _ => ?_)) | (show RunQ _ _ _ _ _ _; first | refine wqb (ht := ?_) (hf := ?_) | refine wqq (h := ?_) | refine wqs (h := ?_)) | refine ev_seq ?_ | refine ev_region ?_ | refine ev_draw (by kernel_rfl) (by kernel_rfl) ?_ | refine qn ?_ | refine run_nil ?_ | refine ev_block ?_ | refine ev_skip ?_ | refine ev_exit ?_ | refine ev_ret ?_ | refine ev_condt rfl ?_ | refine ev_condf rfl ?_ | refine ev_cond rfl (fun _ => ?_) (fun _ => ?_) | (intro h; exfalso; simp at h; done) | (intro _))
  exact ret1b rfl rfl (by simp; omega)
structure Wld where
  (u : Fin 7 → V) (swaps : List Swap) (u8 u9 : V) (facts : List Fact)
def Wld.enc (w : Wld) : V := .st [w.u 0, w.u 1, w.u 2, w.u 3, w.u 4, w.u 5, w.u 6, .l 4 (w.swaps.map Swap.enc), w.u8, w.u9, .l 8 (w.facts.map Fact.enc)]
def fewB (w : Wld) (s : List Supply) (r : List Request) : Bool := decide (w.facts.length ≤ 30) && (decide (w.swaps.length ≤ 12) && (decide (s.length ≤ 8) && decide (r.length ≤ 8)))
theorem few_c (w : Wld) (s : List Supply) (r : List Request) : PureC Try.prog true 11 [w.enc, .l 6 (s.map Supply.enc), .l 6 (r.map Request.enc)] (.b (fewB w s r)) := by
  refine pure_intro (N := 28) Try.func11 rfl rfl rfl rfl fun C hO => ?_
  repeat' (first | (refine run_shift (shift_freeze 3 (hO _) rfl rfl rfl) ?_) | (show RunS _ _ _ _ _ _ _; first | refine wq (h := ?_) | refine wc (few04_c _) (h := ?_) | refine wca (few04_c _) (h := ?_) | refine we (h := ?_) | refine ws (h := ?_) | refine rg rfl rfl (fun _ => ?_) (fun _ => ?_)) | (show RunQ _ _ _ _ _ _; first | refine wqb (ht := ?_) (hf := ?_) | refine wqbc (few04_c _) (ht := ?_) (hff := ?_) | refine wqq (h := ?_) | refine wqc (few04_c _) (h := ?_) | refine wqca (few04_c _) (h := ?_) | refine wqs (h := ?_)) | refine ev_seq ?_ | refine ev_region ?_ | refine ev_draw (by kernel_rfl) (by kernel_rfl) ?_ | refine qn ?_ | refine run_nil ?_ | refine ev_block ?_ | refine ev_skip ?_ | refine ev_exit ?_ | refine ev_ret ?_ | refine ev_condt rfl ?_ | refine ev_condf rfl ?_ | refine ev_cond rfl (fun _ => ?_) (fun _ => ?_) | (intro h; exfalso; simp at h; done) | (intro _))
  all_goals refine ret1b rfl rfl ?_
  all_goals (rw [Bool.eq_iff_iff]; simp [fewB] at *; omega)
def fewTableB (t : List (List Bool)) : Bool := t.all (fun r => decide (r.length ≤ 12)) && decide (t.length ≤ 12)
theorem fewTable_c (t : List (List Bool)) : PureC Try.prog true 18 [.l 1 (t.map rowE)] (.b (fewTableB t)) := by
  refine pure_len fun hL => pure_intro (N := 19) Try.func18 rfl rfl rfl rfl fun C hO => ?_
  have hla := len0 hL
  repeat' (first | (show RunS _ _ _ _ _ _ _; first | refine wq (h := ?_) | refine we (h := ?_) | refine ws (h := ?_) | refine rg rfl rfl (fun _ => ?_) (fun _ => ?_)) | (show RunQ _ _ _ _ _ _; first | refine wqb (ht := ?_) (hf := ?_) | refine wqq (h := ?_) | refine wqs (h := ?_)) | refine ev_seq ?_ | refine ev_region ?_ | refine ev_draw (by kernel_rfl) (by kernel_rfl) ?_ | refine qn ?_ | refine run_nil ?_ | refine ev_block ?_ | refine ev_skip ?_ | refine ev_exit ?_ | refine ev_ret ?_ | refine ev_condt rfl ?_ | refine ev_condf rfl ?_ | refine ev_cond rfl (fun _ => ?_) (fun _ => ?_) | (intro h; exfalso; simp at h; done) | (intro _))
  refine ev_forP t.length (fun k => fewTableB t = ((t.drop k).all (fun r => decide (r.length ≤ 12)) && decide (t.length ≤ 12))) [0] (fun k => [(3, .v true (.i .i64 (cN k)))]) [] (fun _ => []) rfl ?_ fun k hk hI => ?_
  · (refine at_shift ?_ ?_ ?_ ?_ rfl rfl <;> repeat (first | refine same1 rfl ?_ | refine has1 rfl rfl ?_ | refine has1 rfl (by simp [normD, *]) ?_ | exact has0 | exact same0))
  refine ev_seq ?_
  refine ev_seq ?_
  repeat (first | (show RunS _ _ _ _ _ _ _; first | refine wq (h := ?_) | refine we (h := ?_) | refine ws (h := ?_)) | (show RunQ _ _ _ _ _ _; first | refine wqb (ht := ?_) (hf := ?_) | refine wqq (h := ?_) | refine wqs (h := ?_)) | refine ev_seq ?_ | refine ev_region ?_ | refine ev_draw (by kernel_rfl) (by kernel_rfl) ?_ | refine qn ?_ | refine run_nil ?_ | refine ev_block ?_ | refine ev_skip ?_ | refine ev_exit ?_ | refine ev_ret ?_)
  refine ev_cond rfl (fun hc => ?_) (fun hc => ?_)
  · obtain ⟨y, h1, h2, h3, h4, h5, h6⟩ := round_in hla hk hc
    rw [h5, List.all_cons] at hI
    repeat' (first | (show RunS _ _ _ _ _ _ _; first | refine wq (h := ?_) | refine we (h := ?_) | refine ws (h := ?_) | refine rg rfl rfl (fun _ => ?_) (fun _ => ?_)) | (show RunQ _ _ _ _ _ _; first | refine wqb (ht := ?_) (hf := ?_) | refine wqq (h := ?_) | refine wqs (h := ?_)) | refine ev_seq ?_ | refine ev_region ?_ | refine ev_draw (by kernel_rfl) (by kernel_rfl) ?_ | refine qn ?_ | refine run_nil ?_ | refine ev_block ?_ | refine ev_skip ?_ | refine ev_exit ?_ | refine ev_ret ?_ | refine ev_condt rfl ?_ | refine ev_condf rfl ?_ | refine ev_cond rfl (fun _ => ?_) (fun _ => ?_) | (intro h; exfalso; simp at h; done) | (intro _))
    · rename_i h
      exact ret1b rfl rfl (by rw [hI]; simp at h ⊢; omega)
    · rename_i h
      exact ⟨h1, by rw [hI]; simp at h; simp [show y.length ≤ 12 by omega], by (refine at_shift ?_ ?_ ?_ ?_ rfl rfl <;> repeat (first | refine same1 rfl ?_ | refine has1 rfl rfl ?_ | refine has1 rfl (by simp [normD, *]) ?_ | exact has0 | exact same0))⟩
  · obtain ⟨h1, h2⟩ := round_out hla hk hc
    repeat' (first | (show RunS _ _ _ _ _ _ _; first | refine wq (h := ?_) | refine we (h := ?_) | refine ws (h := ?_) | refine rg rfl rfl (fun _ => ?_) (fun _ => ?_)) | (show RunQ _ _ _ _ _ _; first | refine wqb (ht := ?_) (hf := ?_) | refine wqq (h := ?_) | refine wqs (h := ?_)) | refine ev_seq ?_ | refine ev_region ?_ | refine ev_draw (by kernel_rfl) (by kernel_rfl) ?_ | refine qn ?_ | refine run_nil ?_ | refine ev_block ?_ | refine ev_skip ?_ | refine ev_exit ?_ | refine ev_ret ?_ | refine ev_condt rfl ?_ | refine ev_condf rfl ?_ | refine ev_cond rfl (fun _ => ?_) (fun _ => ?_) | (intro h; exfalso; simp at h; done) | (intro _))
    exact ret1b rfl rfl (by rw [hI, h2, Bool.eq_iff_iff]; simp; omega)
end Bf
