import Derived.Test.YteecgmkfbohpjaaT6
namespace Bf
open Go Go.RowKit Go.Proofs
attribute [local irreducible] Quiet Effect RunS Ev PureC Shift RunQ HasF SameF

def Fact.on (day : Int) (f : Fact) : Bool := decide (f.from_ ≤ day) && decide (day < f.to)
/-- The best so far, if there is one. -/
def atStep (day : Int) : List Fact → Option Fact → Option Fact
  | [], b => b
  | f :: fs, b => atStep day fs (bif f.on day && (match b with | none => true | some g => decide (f.cmp g ≥ 0)) then some f else b)
def atV (l : List Fact) (k : Key) (day known : Int) : Int × Bool :=
  match atStep day (l.filter (Fact.hit k known)) none with
  | none => (0, false)
  | some f => if f.value < 0 then (0, false) else (f.value, true)

theorem at_c (l : List Fact) (k : Key) (day known : Int) : PureC Try.prog true 23 [.l 8 (l.map Fact.enc), k.enc, vi day, vi known] (.t [vi (atV l k day known).1, .b (atV l k day known).2]) := by
  refine pure_intro (N := 50) Try.func23 rfl rfl rfl rfl fun C hO => ?_
  repeat' (first | (refine run_shift (shift_freeze 5 (hO _) rfl rfl rfl) ?_) | (refine run_shift (shift_freeze 6 (hO _) rfl rfl rfl) ?_) | (show RunS _ _ _ _ _ _ _; first | refine wq (h := ?_) | refine wc (of_c _ _ _) (h := ?_) | refine wca (of_c _ _ _) (h := ?_) | refine we (h := ?_) | refine ws (h := ?_) | refine rg rfl rfl (fun _ => ?_) (fun _ => ?_)) | (show RunQ _ _ _ _ _ _; first | refine wqb (ht := ?_) (hf := ?_) | refine wqbc (of_c _ _ _) (ht := ?_) (hff := ?_) | refine wqq (h := ?_) | refine wqc (of_c _ _ _) (h := ?_) | refine wqca (of_c _ _ _) (h := ?_) | refine wqs (h := ?_)) | refine ev_seq ?_ | refine ev_region ?_ | refine ev_draw (by kernel_rfl) (by kernel_rfl) ?_ | refine qn ?_ | refine run_nil ?_ | refine ev_block ?_ | refine ev_skip ?_ | refine ev_exit ?_ | refine ev_ret ?_ | refine ev_condt rfl ?_ | refine ev_condf rfl ?_ | refine ev_cond rfl (fun _ => ?_) (fun _ => ?_) | (intro h; exfalso; simp at h; done) | (intro _))
  refine ev_rangeA (α := Fact × Bool × Bool) rfl inferInstance (of1_c l k known) 1000 1001 [5, 6, 10, 11] rfl (by decide) (fun n args h => ?_) (fun n a => atStep day (l.filter (Fact.hit k known)) none = atStep day ((l.filter (Fact.hit k known)).drop n) (bif a.2.1 then some a.1 else none))
    [] (fun n a => [(10, .cells 98 (a.1.enc.cells.map (D.v a.2.2))), (11, .cells 4 [.v true (.b a.2.1)])]) (⟨⟨0, 0, 0⟩, 0, 0, 0, 0, 0⟩, false, true) rfl (fun _ _ => rfl) (fun dk ly L => ?_) (fun dk ly L n a args val is hN he hI hcl => ?_) (fun dk ly L a hI => ?_)
  · simp only [ofEls, List.getElem?_map, Option.map_eq_some_iff] at h
    obtain ⟨x, _, rfl⟩ := h
    rfl
  · (refine at_le ?_ ?_ ?_ ?_ rfl rfl <;> repeat (first | refine same1 rfl ?_ | refine has1 rfl rfl ?_ | refine has1 rfl (by simp [*]) ?_ | exact has0 | exact same0))
  · obtain ⟨g, s, fl⟩ := a
    clear hcl
    simp only [ofEls, List.getElem?_map, Option.map_eq_some_iff] at he
    obtain ⟨x, hx, rfl⟩ := he
    rw [List.drop_eq_getElem_cons (List.getElem?_eq_some_iff.1 hx).1, (List.getElem?_eq_some_iff.1 hx).2, show ∀ f fs b, atStep day (f :: fs) b = atStep day fs (bif f.on day && (match b with | none => true | some g => decide (f.cmp g ≥ 0)) then some f else b) from fun _ _ _ => rfl] at hI
    cases s with
    | false =>
      repeat' (first | (show RunS _ _ _ _ _ _ _; first | refine wq (h := ?_) | refine we (h := ?_) | refine ws (h := ?_) | refine rg rfl rfl (fun _ => ?_) (fun _ => ?_)) | (show RunQ _ _ _ _ _ _; first | refine wqb (ht := ?_) (hf := ?_) | refine wqq (h := ?_) | refine wqs (h := ?_)) | refine ev_seq ?_ | refine ev_region ?_ | refine ev_draw (by kernel_rfl) (by kernel_rfl) ?_ | refine qn ?_ | refine run_nil ?_ | refine ev_block ?_ | refine ev_skip ?_ | refine ev_exit ?_ | refine ev_ret ?_ | refine ev_condt rfl ?_ | refine ev_condf rfl ?_ | refine ev_cond rfl (fun _ => ?_) (fun _ => ?_) | (intro h; exfalso; simp at h; done) | (intro _))
      refine ⟨rfl, ?_⟩
      repeat' (first | (show RunS _ _ _ _ _ _ _; first | refine wq (h := ?_) | refine wc (compare_c _ _) (h := ?_) | refine wca (compare_c _ _) (h := ?_) | refine we (h := ?_) | refine ws (h := ?_) | refine rg rfl rfl (fun _ => ?_) (fun _ => ?_)) | (show RunQ _ _ _ _ _ _; first | refine wqb (ht := ?_) (hf := ?_) | refine wqbc (compare_c _ _) (ht := ?_) (hff := ?_) | refine wqq (h := ?_) | refine wqc (compare_c _ _) (h := ?_) | refine wqca (compare_c _ _) (h := ?_) | refine wqs (h := ?_)) | refine ev_seq ?_ | refine ev_region ?_ | refine ev_draw (by kernel_rfl) (by kernel_rfl) ?_ | refine qn ?_ | refine run_nil ?_ | refine ev_block ?_ | refine ev_skip ?_ | refine ev_exit ?_ | refine ev_ret ?_ | refine ev_condt rfl ?_ | refine ev_condf rfl ?_ | refine ev_cond rfl (fun _ => ?_) (fun _ => ?_) | (intro h; exfalso; simp at h; done) | (intro _))
      all_goals first | (exfalso; clear hI hN hO hx; simp_all; done) | (refine ⟨rfl, _, ⟨(x, true, true), hI.trans (congrArg _ ?_), rfl⟩, ?_⟩; (focus (clear hI hN hO hx; simp only [Fact.on, *, Bool.true_and, Bool.and_true, Bool.and_self, Bool.false_and, Bool.and_false, cond_true, cond_false]; done)); (focus (refine at_cov ?_ ?_ ?_ rfl <;> repeat (first | refine same1 rfl ?_ | refine has1 rfl rfl ?_ | refine has1 rfl (by simp [*]) ?_ | exact has0 | exact same0)))) | (refine ⟨rfl, _, ⟨(g, false, fl), hI.trans (congrArg _ ?_), rfl⟩, ?_⟩; (focus (clear hI hN hO hx; simp only [Fact.on, *, Bool.true_and, Bool.and_true, Bool.and_self, Bool.false_and, Bool.and_false, cond_true, cond_false]; done)); (focus (refine at_cov ?_ ?_ ?_ rfl <;> repeat (first | refine same1 rfl ?_ | refine has1 rfl rfl ?_ | refine has1 rfl (by simp [*]) ?_ | exact has0 | exact same0))))
    | true =>
      repeat' (first | (show RunS _ _ _ _ _ _ _; first | refine wq (h := ?_) | refine we (h := ?_) | refine ws (h := ?_) | refine rg rfl rfl (fun _ => ?_) (fun _ => ?_)) | (show RunQ _ _ _ _ _ _; first | refine wqb (ht := ?_) (hf := ?_) | refine wqq (h := ?_) | refine wqs (h := ?_)) | refine ev_seq ?_ | refine ev_region ?_ | refine ev_draw (by kernel_rfl) (by kernel_rfl) ?_ | refine qn ?_ | refine run_nil ?_ | refine ev_block ?_ | refine ev_skip ?_ | refine ev_exit ?_ | refine ev_ret ?_ | refine ev_condt rfl ?_ | refine ev_condf rfl ?_ | refine ev_cond rfl (fun _ => ?_) (fun _ => ?_) | (intro h; exfalso; simp at h; done) | (intro _))
      refine ⟨rfl, ?_⟩
      repeat' (first | (show RunS _ _ _ _ _ _ _; first | refine wq (h := ?_) | refine wc (compare_c _ _) (h := ?_) | refine wca (compare_c _ _) (h := ?_) | refine we (h := ?_) | refine ws (h := ?_) | refine rg rfl rfl (fun _ => ?_) (fun _ => ?_)) | (show RunQ _ _ _ _ _ _; first | refine wqb (ht := ?_) (hf := ?_) | refine wqbc (compare_c _ _) (ht := ?_) (hff := ?_) | refine wqq (h := ?_) | refine wqc (compare_c _ _) (h := ?_) | refine wqca (compare_c _ _) (h := ?_) | refine wqs (h := ?_)) | refine ev_seq ?_ | refine ev_region ?_ | refine ev_draw (by kernel_rfl) (by kernel_rfl) ?_ | refine qn ?_ | refine run_nil ?_ | refine ev_block ?_ | refine ev_skip ?_ | refine ev_exit ?_ | refine ev_ret ?_ | refine ev_condt rfl ?_ | refine ev_condf rfl ?_ | refine ev_cond rfl (fun _ => ?_) (fun _ => ?_) | (intro h; exfalso; simp at h; done) | (intro _))
      all_goals first | (exfalso; clear hI hN hO hx; simp_all; done) | (refine ⟨rfl, _, ⟨(x, true, true), hI.trans (congrArg _ ?_), rfl⟩, ?_⟩; (focus (clear hI hN hO hx; simp only [Fact.on, *, Bool.true_and, Bool.and_true, Bool.and_self, Bool.false_and, Bool.and_false, cond_true, cond_false]; done)); (focus (refine at_cov ?_ ?_ ?_ rfl <;> repeat (first | refine same1 rfl ?_ | refine has1 rfl rfl ?_ | refine has1 rfl (by simp [*]) ?_ | exact has0 | exact same0)))) | (refine ⟨rfl, _, ⟨(g, true, fl), hI.trans (congrArg _ ?_), rfl⟩, ?_⟩; (focus (clear hI hN hO hx; simp only [Fact.on, *, Bool.true_and, Bool.and_true, Bool.and_self, Bool.false_and, Bool.and_false, cond_true, cond_false]; done)); (focus (refine at_cov ?_ ?_ ?_ rfl <;> repeat (first | refine same1 rfl ?_ | refine has1 rfl rfl ?_ | refine has1 rfl (by simp [*]) ?_ | exact has0 | exact same0))))
  · obtain ⟨g, s, fl⟩ := a
    have h' : atStep day (l.filter (Fact.hit k known)) none = bif s then some g else none := by rw [hI]; simp [ofEls, atStep]
    clear hI
    cases s with
    | false =>
      repeat' (first | (show RunS _ _ _ _ _ _ _; first | refine wq (h := ?_) | refine we (h := ?_) | refine ws (h := ?_) | refine rg rfl rfl (fun _ => ?_) (fun _ => ?_)) | (show RunQ _ _ _ _ _ _; first | refine wqb (ht := ?_) (hf := ?_) | refine wqq (h := ?_) | refine wqs (h := ?_)) | refine ev_seq ?_ | refine ev_region ?_ | refine ev_draw (by kernel_rfl) (by kernel_rfl) ?_ | refine qn ?_ | refine run_nil ?_ | refine ev_block ?_ | refine ev_skip ?_ | refine ev_exit ?_ | refine ev_ret ?_ | refine ev_condt rfl ?_ | refine ev_condf rfl ?_ | refine ev_cond rfl (fun _ => ?_) (fun _ => ?_) | (intro h; exfalso; simp at h; done) | (intro _))
      all_goals refine retm_ib (.cons 1000 dk rfl (.nil _)) rfl rfl ?_
      all_goals first | (exfalso; simp_all; done) | simp [atV, h']
    | true =>
      repeat' (first | (show RunS _ _ _ _ _ _ _; first | refine wq (h := ?_) | refine we (h := ?_) | refine ws (h := ?_) | refine rg rfl rfl (fun _ => ?_) (fun _ => ?_)) | (show RunQ _ _ _ _ _ _; first | refine wqb (ht := ?_) (hf := ?_) | refine wqq (h := ?_) | refine wqs (h := ?_)) | refine ev_seq ?_ | refine ev_region ?_ | refine ev_draw (by kernel_rfl) (by kernel_rfl) ?_ | refine qn ?_ | refine run_nil ?_ | refine ev_block ?_ | refine ev_skip ?_ | refine ev_exit ?_ | refine ev_ret ?_ | refine ev_condt rfl ?_ | refine ev_condf rfl ?_ | refine ev_cond rfl (fun _ => ?_) (fun _ => ?_) | (intro h; exfalso; simp at h; done) | (intro _))
      all_goals refine retm_ib (.cons 1000 dk rfl (.nil _)) rfl rfl ?_
      all_goals (rename_i h; simp at h; simp only [atV, h', cond_true]; first | rw [if_pos (by omega)] | rw [if_neg (by omega)])
end Bf
