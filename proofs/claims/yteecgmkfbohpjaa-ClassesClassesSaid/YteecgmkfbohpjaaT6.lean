import Derived.Test.YteecgmkfbohpjaaT5
namespace Bf
open Go Go.RowKit Go.Proofs
attribute [local irreducible] Quiet Effect RunS Ev PureC Shift RunQ HasF SameF

def Key.eqb (a b : Key) : Bool := a.kind == b.kind && (a.subject == b.subject && (a.object == b.object && true))
theorem Key.eqb_iff {a b : Key} : a.eqb b = true ↔ a = b := by cases a; cases b; simp [Key.eqb]
def Fact.hit (k : Key) (known : Int) (f : Fact) : Bool := f.key.eqb k && decide (f.known ≤ known)
def ofEls (l : List Fact) (k : Key) (known : Int) : List (List V) := (l.filter (Fact.hit k known)).map fun f => [f.enc]
theorem drop_cons {α : Type} {l r : List α} {x : α} {n : Nat} (h : l.drop n = x :: r) : l[n]? = some x ∧ l.drop (n + 1) = r ∧ n < l.length := by
  have hlt : n < l.length := by
    rcases Nat.lt_or_ge n l.length with h' | h'
    · exact h'
    · rw [List.drop_eq_nil_of_le h'] at h; cases h
  rw [List.drop_eq_getElem_cons hlt] at h
  cases h
  exact ⟨List.getElem?_eq_getElem hlt, rfl, hlt⟩

theorem of1_c (l : List Fact) (k : Key) (known : Int) : SeqC Try.prog 60 [.q [.l 8 (l.map Fact.enc)], .q [vi k.kind, vi k.subject, vi k.object], .q [vi known]] (ofEls l k known) := by
  refine seq_intro (N := 30) Try.func60 rfl rfl rfl rfl fun ly is hNN hO hY => ?_
  refine ev_ok (x := .q [.l 8 (l.map Fact.enc)]) 1 rfl fun hL => ?_
  have hla : l.length ≤ maxLen := by simpa using (hL.box (.l 8 (l.map Fact.enc)) (by simp)).len
  repeat' (first | (show RunS _ _ _ _ _ _ _; first | refine wq (h := ?_) | refine we (h := ?_) | refine ws (h := ?_) | refine rg rfl rfl (fun _ => ?_) (fun _ => ?_)) | (show RunQ _ _ _ _ _ _; first | refine wqb (ht := ?_) (hf := ?_) | refine wqq (h := ?_) | refine wqs (h := ?_)) | refine ev_seq ?_ | refine ev_region ?_ | refine ev_draw (by kernel_rfl) (by kernel_rfl) ?_ | refine qn ?_ | refine run_nil ?_ | refine ev_block ?_ | refine ev_skip ?_ | refine ev_exit ?_ | refine ev_ret ?_ | refine ev_condt rfl ?_ | refine ev_condf rfl ?_ | refine ev_cond rfl (fun _ => ?_) (fun _ => ?_) | (intro h; exfalso; simp at h; done) | (intro _))
  refine ev_forG l.length (fun i n => (ofEls l k known).drop n = ofEls (l.drop i) k known ∧ n ≤ (ofEls l k known).length) (fun _ n => (n, false)) [0, 1, 2, 3, 7, 8] (fun i _ => [(9, .v true (.i .i64 (cN i)))]) [] (fun _ _ => []) 0 ⟨by simp, Nat.zero_le _⟩ ?_ fun i n hi hI => ?_
  · (refine atg_shift ?_ ?_ ?_ ?_ rfl rfl <;> repeat (first | refine same1 rfl ?_ | refine has1 rfl rfl ?_ | refine has1 rfl (by simp [normD, *]) ?_ | exact has0 | exact same0))
  refine ev_seq ?_
  repeat (first | (show RunS _ _ _ _ _ _ _; first | refine wq (h := ?_) | refine we (h := ?_) | refine ws (h := ?_)) | (show RunQ _ _ _ _ _ _; first | refine wqb (ht := ?_) (hf := ?_) | refine wqq (h := ?_) | refine wqs (h := ?_)) | refine ev_seq ?_ | refine ev_region ?_ | refine ev_draw (by kernel_rfl) (by kernel_rfl) ?_ | refine qn ?_ | refine run_nil ?_ | refine ev_block ?_ | refine ev_skip ?_ | refine ev_exit ?_ | refine ev_ret ?_)
  refine ev_cond rfl (fun hc => ?_) (fun hc => ?_)
  · obtain ⟨x, h1, h2, h3, h4, h5, h6⟩ := round_in hla hi hc
    rw [h5] at hI
    by_cases hx : x.hit k known = true
    · have h7 : ofEls (x :: l.drop (i + 1)) k known = [x.enc] :: ofEls (l.drop (i + 1)) k known := by simp [ofEls, hx]
      rw [h7] at hI
      obtain ⟨g1, g2, g3⟩ := drop_cons hI.1
      repeat' (first | ((apply run_yields hY; (focus exact rfl); (focus exact rfl); (focus exact rfl); (focus repeat (first | exact CapsOk.nil | (apply CapsOk.v; (focus exact rfl)))); (focus exact rfl); (focus assumption))) | (show RunS _ _ _ _ _ _ _; first | refine wq (h := ?_) | refine we (h := ?_) | refine ws (h := ?_) | refine rg rfl rfl (fun _ => ?_) (fun _ => ?_)) | (show RunQ _ _ _ _ _ _; first | refine wqb (ht := ?_) (hf := ?_) | refine wqq (h := ?_) | refine wqs (h := ?_)) | refine ev_seq ?_ | refine ev_region ?_ | refine ev_draw (by kernel_rfl) (by kernel_rfl) ?_ | refine qn ?_ | refine run_nil ?_ | refine ev_block ?_ | refine ev_skip ?_ | refine ev_exit ?_ | refine ev_ret ?_ | refine ev_condt rfl ?_ | refine ev_condf rfl ?_ | refine ev_cond rfl (fun _ => ?_) (fun _ => ?_) | (intro h; exfalso; simp at h; done) | (intro _))
      all_goals first | (exfalso; simp_all [Fact.hit, Key.eqb]; done) | exact ⟨.inl rfl, rfl, .inr rfl⟩ | exact ⟨n + 1, h1, ⟨g2, by omega⟩, by (refine atg_shift ?_ ?_ ?_ ?_ rfl rfl <;> repeat (first | refine same1 rfl ?_ | refine has1 rfl rfl ?_ | refine has1 rfl (by simp [normD, *]) ?_ | exact has0 | exact same0))⟩
    · have h7 : ofEls (x :: l.drop (i + 1)) k known = ofEls (l.drop (i + 1)) k known := by simp [ofEls, hx]
      rw [h7] at hI
      have hx2 : x.key.eqb k = true → decide (x.known ≤ known) = true → False := fun a b => hx (by rw [Fact.hit, a, b]; rfl)
      repeat' (first | (exact (hx2 (by assumption) (by assumption)).elim) | (show RunS _ _ _ _ _ _ _; first | refine wq (h := ?_) | refine we (h := ?_) | refine ws (h := ?_) | refine rg rfl rfl (fun _ => ?_) (fun _ => ?_)) | (show RunQ _ _ _ _ _ _; first | refine wqb (ht := ?_) (hf := ?_) | refine wqq (h := ?_) | refine wqs (h := ?_)) | refine ev_seq ?_ | refine ev_region ?_ | refine ev_draw (by kernel_rfl) (by kernel_rfl) ?_ | refine qn ?_ | refine run_nil ?_ | refine ev_block ?_ | refine ev_skip ?_ | refine ev_exit ?_ | refine ev_ret ?_ | refine ev_condt rfl ?_ | refine ev_condf rfl ?_ | refine ev_cond rfl (fun _ => ?_) (fun _ => ?_) | (intro h; exfalso; simp at h; done) | (intro _))
      all_goals first | (exfalso; simp_all [Fact.hit, Key.eqb]; done) | exact ⟨n, h1, hI, by (refine atg_shift ?_ ?_ ?_ ?_ rfl rfl <;> repeat (first | refine same1 rfl ?_ | refine has1 rfl rfl ?_ | refine has1 rfl (by simp [normD, *]) ?_ | exact has0 | exact same0))⟩
  · obtain ⟨h1, h2⟩ := round_out hla hi hc
    rw [h2] at hI
    have hn : n = (ofEls l k known).length := by
      have := hI.1
      have h3 : (ofEls l k known).length ≤ n := by simpa [ofEls] using this
      omega
    repeat' (first | (show RunS _ _ _ _ _ _ _; first | refine wq (h := ?_) | refine we (h := ?_) | refine ws (h := ?_) | refine rg rfl rfl (fun _ => ?_) (fun _ => ?_)) | (show RunQ _ _ _ _ _ _; first | refine wqb (ht := ?_) (hf := ?_) | refine wqq (h := ?_) | refine wqs (h := ?_)) | refine ev_seq ?_ | refine ev_region ?_ | refine ev_draw (by kernel_rfl) (by kernel_rfl) ?_ | refine qn ?_ | refine run_nil ?_ | refine ev_block ?_ | refine ev_skip ?_ | refine ev_exit ?_ | refine ev_ret ?_ | refine ev_condt rfl ?_ | refine ev_condf rfl ?_ | refine ev_cond rfl (fun _ => ?_) (fun _ => ?_) | (intro h; exfalso; simp at h; done) | (intro _))
    refine ⟨.inr rfl, rfl, .inl ?_⟩
    exact congrArg (·, false) hn

/-- A function that answers with an iterator. -/
theorem of_c (l : List Fact) (k : Key) (known : Int) : PureC Try.prog false 47 [.l 8 (l.map Fact.enc), k.enc, vi known] (.c 60 [.q [.l 8 (l.map Fact.enc)], .q [vi k.kind, vi k.subject, vi k.object], .q [vi known]]) := by
  refine pure_intro (N := 8) Try.func47 rfl rfl rfl rfl fun C hO => ?_
  repeat' (first | (refine run_shift (shift_freeze 3 (hO _) rfl rfl rfl) ?_) | (refine run_shift (shift_freeze 4 (hO _) rfl rfl rfl) ?_) | (refine run_shift (shift_freeze 5 (hO _) rfl rfl rfl) ?_) | (show RunS _ _ _ _ _ _ _; first | refine wq (h := ?_) | refine we (h := ?_) | refine ws (h := ?_) | refine rg rfl rfl (fun _ => ?_) (fun _ => ?_)) | (show RunQ _ _ _ _ _ _; first | refine wqb (ht := ?_) (hf := ?_) | refine wqq (h := ?_) | refine wqs (h := ?_)) | refine ev_seq ?_ | refine ev_region ?_ | refine ev_draw (by kernel_rfl) (by kernel_rfl) ?_ | refine qn ?_ | refine run_nil ?_ | refine ev_block ?_ | refine ev_skip ?_ | refine ev_exit ?_ | refine ev_ret ?_ | refine ev_condt rfl ?_ | refine ev_condf rfl ?_ | refine ev_cond rfl (fun _ => ?_) (fun _ => ?_) | (intro h; exfalso; simp at h; done) | (intro _))
  all_goals exact ret1 rfl (by simp) rfl rfl
end Bf
