import Derived.Test.YteecgmkfbohpjaaT9
namespace Bf
open Go Go.RowKit Go.Proofs
attribute [local irreducible] Quiet Effect RunS Ev PureC Shift RunQ HasF SameF

def atF (day : Int) (k : Key) (known : Int) (l : List Fact) (b : Option Fact) : Option Fact := atStep day (l.filter (Fact.hit k known)) b
theorem atF_cons (day : Int) (k : Key) (known : Int) (x : Fact) (r : List Fact) (b : Option Fact) : atF day k known (x :: r) b = atF day k known r (bif (x.hit k known && x.on day) && (match b with | none => true | some g => !decide (x.cmp g < 0)) then some x else b) := by
  unfold atF
  cases h : x.hit k known with
  | false => simp [h]
  | true =>
    have e : ∀ g : Fact, decide (x.cmp g ≥ 0) = !decide (x.cmp g < 0) := fun g => by rw [Bool.eq_iff_iff]; simp
    rw [List.filter_cons_of_pos (by simpa using h)]
    simp only [atStep]
    cases b <;> simp [e]

theorem ret2_ib {P : Program} {fr f1 f2 : Bool} {t1 t2 : Nat} {σ : St} {k : IntKind} {p : Int} {q : Bool} {r : Int × Bool} (hd : σ.df = []) (h1 : σ.fr t1 = some (.v f1 (.i k p))) (h2 : σ.fr t2 = some (.v f2 (.b q))) (hx : (p, q) = r) :
    RetQ P [.tmp t1, .tmp t2] fr (.t [.i k r.1, .b r.2]) .ret σ := retm_ib (by rw [hd]; exact .nil _) h1 h2 hx

theorem rat_c (l : List Fact) (k : Key) (day known : Int) : PureC Try.prog true 38 [.l 8 (l.map Fact.enc), k.enc, vi day, vi known] (.t [vi (atV l k day known).1, .b (atV l k day known).2]) := by
  refine pure_len fun hL => pure_intro (N := 76) Try.func38 rfl rfl rfl rfl fun C hO => ?_
  have hla := len0 hL
  repeat' (first | (refine run_shift (shift_freeze 5 (hO _) rfl rfl rfl) ?_) | (show RunS _ _ _ _ _ _ _; first | refine wq (h := ?_) | refine we (h := ?_) | refine ws (h := ?_) | refine rg rfl rfl (fun _ => ?_) (fun _ => ?_)) | (show RunQ _ _ _ _ _ _; first | refine wqb (ht := ?_) (hf := ?_) | refine wqq (h := ?_) | refine wqs (h := ?_)) | refine ev_seq ?_ | refine ev_region ?_ | refine ev_draw (by kernel_rfl) (by kernel_rfl) ?_ | refine qn ?_ | refine run_nil ?_ | refine ev_block ?_ | refine ev_skip ?_ | refine ev_exit ?_ | refine ev_ret ?_ | refine ev_condt rfl ?_ | refine ev_condf rfl ?_ | refine ev_cond rfl (fun _ => ?_) (fun _ => ?_) | (intro h; exfalso; simp at h; done) | (intro _))
  refine ev_forA (α := Int × Option Fact) l.length (fun i a => atF day k known l none = atF day k known (l.drop i) a.2 ∧ ((a.2 = none ∧ a.1 = -1) ∨ ∃ (j : Nat) (g : Fact), a = ((j : Int), some g) ∧ l[j]? = some g)) [0, 2, 3, 5] (fun i a => [(11, .v true (.i .i64 (cN i))), (10, .v true (.i .i64 a.1))]) [] (fun _ _ => []) (-1, none) ⟨rfl, .inl ⟨rfl, rfl⟩⟩ ?_ fun i a hi hI => ?_
  · (refine at_shift ?_ ?_ ?_ ?_ rfl rfl <;> repeat (first | refine same1 rfl ?_ | refine has1 rfl rfl ?_ | refine has1 rfl (by simp [normD, *]) ?_ | exact has0 | exact same0))
  refine ev_seq ?_
  refine ev_seq ?_
  repeat (first | (show RunS _ _ _ _ _ _ _; first | refine wq (h := ?_) | refine we (h := ?_) | refine ws (h := ?_)) | (show RunQ _ _ _ _ _ _; first | refine wqb (ht := ?_) (hf := ?_) | refine wqq (h := ?_) | refine wqs (h := ?_)) | refine ev_seq ?_ | refine ev_region ?_ | refine ev_draw (by kernel_rfl) (by kernel_rfl) ?_ | refine qn ?_ | refine run_nil ?_ | refine ev_block ?_ | refine ev_skip ?_ | refine ev_exit ?_ | refine ev_ret ?_)
  refine ev_cond rfl (fun hc => ?_) (fun hc => ?_)
  · obtain ⟨x, h1, h2, h3, h4, h5, h6⟩ := round_in hla hi hc
    have hcn := cN_eq (Nat.le_trans hi hla)
    rw [h5, atF_cons] at hI
    obtain ⟨hI, ⟨a1, a2⟩ | ⟨j, g, rfl, hj⟩⟩ := hI
    · obtain ⟨b, c⟩ := a
      subst a1 a2
      repeat' (first | (show RunS _ _ _ _ _ _ _; first | refine wq (h := ?_) | refine wc (before_c _ _) (h := ?_) | refine wca (before_c _ _) (h := ?_) | refine we (h := ?_) | refine ws (h := ?_) | refine rg rfl rfl (fun _ => ?_) (fun _ => ?_)) | (show RunQ _ _ _ _ _ _; first | refine wqb (ht := ?_) (hf := ?_) | refine wqbc (before_c _ _) (ht := ?_) (hff := ?_) | refine wqq (h := ?_) | refine wqc (before_c _ _) (h := ?_) | refine wqca (before_c _ _) (h := ?_) | refine wqs (h := ?_)) | refine ev_seq ?_ | refine ev_region ?_ | refine ev_draw (by kernel_rfl) (by kernel_rfl) ?_ | refine qn ?_ | refine run_nil ?_ | refine ev_block ?_ | refine ev_skip ?_ | refine ev_exit ?_ | refine ev_ret ?_ | refine ev_condt rfl ?_ | refine ev_condf rfl ?_ | refine ev_cond rfl (fun _ => ?_) (fun _ => ?_) | (intro h; exfalso; simp at h; done) | (intro _))
      all_goals first
        | (refine ⟨((i : Int), some x), h1, ⟨hI.trans (congrArg _ ?_), .inr ⟨i, x, rfl, h4⟩⟩, ?_⟩; (focus (clear hI hL hO hla hi hc h1 h2 h3 h4 h5 h6 hcn; simp_all only [Fact.hit, Fact.on, Key.eqb, Bool.true_and, Bool.and_true, Bool.and_self, Bool.false_and, Bool.and_false, cond_true, cond_false, Bool.not_true, Bool.not_false]; done)); (focus (refine at_shift ?_ ?_ ?_ ?_ rfl rfl <;> repeat (first | refine same1 rfl ?_ | refine has1 rfl rfl ?_ | refine has1 rfl (by simp [normD, *]) ?_ | exact has0 | exact same0))))
        | (refine ⟨(-1, none), h1, ⟨hI.trans (congrArg _ ?_), .inl ⟨rfl, rfl⟩⟩, ?_⟩; (focus (clear hI hL hO hla hi hc h1 h2 h3 h4 h5 h6 hcn; simp_all only [Fact.hit, Fact.on, Key.eqb, Bool.true_and, Bool.and_true, Bool.and_self, Bool.false_and, Bool.and_false, cond_true, cond_false, Bool.not_true, Bool.not_false]; done)); (focus (refine at_shift ?_ ?_ ?_ ?_ rfl rfl <;> repeat (first | refine same1 rfl ?_ | refine has1 rfl rfl ?_ | refine has1 rfl (by simp [normD, *]) ?_ | exact has0 | exact same0))))
    · have g1 : (0 : Int) ≤ (j : Int) := by omega
      have g2 : (l.map Fact.enc)[(j : Int).toNat]? = some g.enc := by simp [hj]
      repeat' (first | (show RunS _ _ _ _ _ _ _; first | refine wq (h := ?_) | refine wc (before_c _ _) (h := ?_) | refine wca (before_c _ _) (h := ?_) | refine we (h := ?_) | refine ws (h := ?_) | refine rg rfl rfl (fun _ => ?_) (fun _ => ?_)) | (show RunQ _ _ _ _ _ _; first | refine wqb (ht := ?_) (hf := ?_) | refine wqbc (before_c _ _) (ht := ?_) (hff := ?_) | refine wqq (h := ?_) | refine wqc (before_c _ _) (h := ?_) | refine wqca (before_c _ _) (h := ?_) | refine wqs (h := ?_)) | refine ev_seq ?_ | refine ev_region ?_ | refine ev_draw (by kernel_rfl) (by kernel_rfl) ?_ | refine qn ?_ | refine run_nil ?_ | refine ev_block ?_ | refine ev_skip ?_ | refine ev_exit ?_ | refine ev_ret ?_ | refine ev_condt rfl ?_ | refine ev_condf rfl ?_ | refine ev_cond rfl (fun _ => ?_) (fun _ => ?_) | (intro h; exfalso; simp at h; done) | (intro _))
      all_goals first
        | (exfalso; rename_i h; simp at h; omega)
        | (refine ⟨((i : Int), some x), h1, ⟨hI.trans (congrArg _ ?_), .inr ⟨i, x, rfl, h4⟩⟩, ?_⟩; (focus (clear hI hL hO hla hi hc h1 h2 h3 h4 h5 h6 hcn; simp_all only [Fact.hit, Fact.on, Key.eqb, Bool.true_and, Bool.and_true, Bool.and_self, Bool.false_and, Bool.and_false, cond_true, cond_false, Bool.not_true, Bool.not_false]; done)); (focus (refine at_shift ?_ ?_ ?_ ?_ rfl rfl <;> repeat (first | refine same1 rfl ?_ | refine has1 rfl rfl ?_ | refine has1 rfl (by simp [normD, *]) ?_ | exact has0 | exact same0))))
        | (refine ⟨((j : Int), some g), h1, ⟨hI.trans (congrArg _ ?_), .inr ⟨j, g, rfl, hj⟩⟩, ?_⟩; (focus (clear hI hL hO hla hi hc h1 h2 h3 h4 h5 h6 hcn; simp_all only [Fact.hit, Fact.on, Key.eqb, Bool.true_and, Bool.and_true, Bool.and_self, Bool.false_and, Bool.and_false, cond_true, cond_false, Bool.not_true, Bool.not_false]; done)); (focus (refine at_shift ?_ ?_ ?_ ?_ rfl rfl <;> repeat (first | refine same1 rfl ?_ | refine has1 rfl rfl ?_ | refine has1 rfl (by simp [normD, *]) ?_ | exact has0 | exact same0))))
  · obtain ⟨h1, h2⟩ := round_out hla hi hc
    rw [h2] at hI
    obtain ⟨hI, ⟨a1, a2⟩ | ⟨j, g, rfl, hj⟩⟩ := hI
    · obtain ⟨b, c⟩ := a
      subst a1 a2
      have h' : atStep day (l.filter (Fact.hit k known)) none = none := hI
      repeat' (first | (show RunS _ _ _ _ _ _ _; first | refine wq (h := ?_) | refine we (h := ?_) | refine ws (h := ?_) | refine rg rfl rfl (fun _ => ?_) (fun _ => ?_)) | (show RunQ _ _ _ _ _ _; first | refine wqb (ht := ?_) (hf := ?_) | refine wqq (h := ?_) | refine wqs (h := ?_)) | refine ev_seq ?_ | refine ev_region ?_ | refine ev_draw (by kernel_rfl) (by kernel_rfl) ?_ | refine qn ?_ | refine run_nil ?_ | refine ev_block ?_ | refine ev_skip ?_ | refine ev_exit ?_ | refine ev_ret ?_ | refine ev_condt rfl ?_ | refine ev_condf rfl ?_ | refine ev_cond rfl (fun _ => ?_) (fun _ => ?_) | (intro h; exfalso; simp at h; done) | (intro _))
      all_goals exact ret2_ib rfl rfl rfl (by simp [atV, h'])
    · have g1 : (0 : Int) ≤ (j : Int) := by omega
      have g2 : (l.map Fact.enc)[(j : Int).toNat]? = some g.enc := by simp [hj]
      have h' : atStep day (l.filter (Fact.hit k known)) none = some g := hI
      repeat' (first | (show RunS _ _ _ _ _ _ _; first | refine wq (h := ?_) | refine we (h := ?_) | refine ws (h := ?_) | refine rg rfl rfl (fun _ => ?_) (fun _ => ?_)) | (show RunQ _ _ _ _ _ _; first | refine wqb (ht := ?_) (hf := ?_) | refine wqq (h := ?_) | refine wqs (h := ?_)) | refine ev_seq ?_ | refine ev_region ?_ | refine ev_draw (by kernel_rfl) (by kernel_rfl) ?_ | refine qn ?_ | refine run_nil ?_ | refine ev_block ?_ | refine ev_skip ?_ | refine ev_exit ?_ | refine ev_ret ?_ | refine ev_condt rfl ?_ | refine ev_condf rfl ?_ | refine ev_cond rfl (fun _ => ?_) (fun _ => ?_) | (intro h; exfalso; simp at h; done) | (intro _))
      all_goals first | (exfalso; rename_i h; simp at h; omega) | exact ret2_ib rfl rfl rfl (by rename_i h; simp at h; simp only [atV, h']; first | rw [if_pos (by omega)] | rw [if_neg (by omega)])

def Supply.fits (w : Wld) (s : Supply) (r : Request) : Bool := s.ok && (r.ok && (usedB w.swaps s.item r.item && (!decide (s.ready > r.due) && !decide (s.expiry < IntKind.i64.wrap (r.due + r.shelf)))))
def fitsV (w : Wld) (s : Supply) (r : Request) (known : Int) : Bool × List Read :=
  bif s.fits w r then
    ((!(atV w.facts ⟨7, r.customer, s.item⟩ r.due known).2) || ((atV w.facts ⟨7, r.customer, s.item⟩ r.due known).1 != 1), [⟨⟨7, r.customer, s.item⟩, r.due, IntKind.i64.wrap (r.due + 1)⟩])
  else (false, [])
end Bf
