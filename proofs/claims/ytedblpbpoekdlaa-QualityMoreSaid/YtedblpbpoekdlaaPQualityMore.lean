/- Plain law: QualityMore's model is true of all arguments that a machine's words hold. -/
import Derived.Test.YtedblpbpoekdlaaQD
namespace Bf
open Go Go.RowKit Go.Proofs

theorem rise_iff {m : Int} : ∀ {xs : List Int} {last : Int}, rise m last xs = true ↔ (∀ x ∈ xs, last < x ∧ x ≤ m) ∧ xs.Pairwise (· < ·)
  | [], _ => by simp [rise]
  | x :: xs, last => by
    simp only [rise, Bool.and_eq_true, decide_eq_true_eq, rise_iff (xs := xs) (last := x), List.mem_cons, List.pairwise_cons]
    constructor
    · rintro ⟨⟨h1, h2⟩, h3, h4⟩
      exact ⟨fun y hy => by rcases hy with rfl | hy; exact ⟨h1, h2⟩; exact ⟨by have := (h3 y hy).1; omega, (h3 y hy).2⟩, fun y hy => (h3 y hy).1, h4⟩
    · rintro ⟨h1, h2, h3⟩
      exact ⟨h1 x (.inl rfl), fun y hy => ⟨h2 y hy, (h1 y (.inr hy)).2⟩, h3⟩
theorem rise_sub {m last : Int} {xs ys : List Int} (hs : xs.Sublist ys) (h : rise m last ys = true) : rise m last xs = true := by
  rw [rise_iff] at h ⊢
  exact ⟨fun x hx => h.1 x (hs.subset hx), h.2.sublist hs⟩
def codeS (ok : Bool) (st : Int) (late anyh good : Bool) : Int := bif !ok then 3 else bif st == 3 then 3 else bif st == 2 || anyh then 2 else bif st == 1 || late || !good then 1 else 0
theorem stateF_code {fs : List GFact} {lot day kn : Int} {l : List GSpec} {held : List Int} (hv : (!(specsF l && rise 1023 (-1) held) || decide (1024 < held.length)) = false) :
    (stateF fs lot day kn l held).2.2 = 0 ∧ (stateF fs lot day kn l held).1 = codeS (LotF fs lot day kn).2.2 (LotF fs lot day kn).1.state (decide ((LotF fs lot day kn).1.expiry ≤ day)) (held.any fun x => lot == x) (runC fs lot day kn l).2.1 := by
  unfold stateF codeS
  rw [hv]
  simp only [cond_false]
  cases !(LotF fs lot day kn).2.2
  case true => exact ⟨rfl, rfl⟩
  cases (LotF fs lot day kn).1.state == 3
  case true => exact ⟨rfl, rfl⟩
  cases (LotF fs lot day kn).1.state == 2 || (held.any fun x => lot == x)
  case true => exact ⟨rfl, rfl⟩
  cases (LotF fs lot day kn).1.state == 1 || decide ((LotF fs lot day kn).1.expiry ≤ day) || !(runC fs lot day kn l).2.1 <;> exact ⟨rfl, rfl⟩
theorem stateF_bad {fs : List GFact} {lot day kn : Int} {l : List GSpec} {held : List Int} (hv : (!(specsF l && rise 1023 (-1) held) || decide (1024 < held.length)) = true) : (stateF fs lot day kn l held).2.2 = 400 := by
  unfold stateF; rw [hv]; rfl
theorem valid_of {l : List GSpec} {held : List Int} (h1 : specsF l = true) (h2 : rise 1023 (-1) held = true) (h3 : held.length ≤ 1024) : (!(specsF l && rise 1023 (-1) held) || decide (1024 < held.length)) = false := by
  rw [h1, h2, decide_eq_false (by omega)]; rfl
theorem of_valid {l : List GSpec} {held : List Int} (h : (!(specsF l && rise 1023 (-1) held) || decide (1024 < held.length)) = false) : specsF l = true ∧ rise 1023 (-1) held = true ∧ held.length ≤ 1024 := by
  cases h1 : specsF l <;> cases h2 : rise 1023 (-1) held <;> rw [h1, h2] at h <;> simp at h
  exact ⟨rfl, rfl, h⟩
theorem specsF_iff {l : List GSpec} : specsF l = true ↔ (∀ x ∈ l, x.lo ≤ x.hi) ∧ rise 1023 (-1) (l.map GSpec.test) = true ∧ l.length ≤ 16 := by
  unfold specsF lohi
  simp only [Bool.and_eq_true, decide_eq_true_eq, List.all_eq_true, and_assoc]
theorem qualityMore_true (a0 : GWorld) (a1 a2 a3 : Int) (a4 : List GSpec) (a5 : List Int) (a6 a7 : Int) (w6 : (Lit.int .u8 a6).wf = true) : backflushlaw40_QualityMore_m a0 a1 a2 a3 a4 a5 a6 a7 = some true := by
  have h6 : 0 ≤ a6 ∧ a6 ≤ 255 := by
    simp only [Lit.wf, Bool.and_eq_true, decide_eq_true_eq] at w6
    exact w6
  unfold backflushlaw40_QualityMore_m
  rw [bd_some sane40]
  simp only [Bool.not_true, cond_false]
  rw [bd_some (few40 a0 a4 a5)]
  cases hf : decide (a0.facts.length ≤ 60) && decide (a4.length ≤ 20) && decide (a5.length ≤ 20)
  · rfl
  obtain ⟨_, hl, hh⟩ := few_spec hf
  simp only [Bool.not_true, cond_false]
  rw [bd_some (quality_State a0 a1 a2 a3 a4 a5 (by omega))]
  cases hv : (!(specsF a4 && rise 1023 (-1) a5) || decide (1024 < a5.length))
  case true => rw [stateF_bad hv]; rfl
  obtain ⟨hs, hr, _⟩ := of_valid hv
  obtain ⟨e1, e2⟩ := stateF_code (fs := a0.facts) (lot := a1) (day := a2) (kn := a3) hv
  rw [e1]
  simp only [show ((0 : Int) != 0) = false from rfl, cond_false]
  obtain ⟨j, hj, hgoal⟩ : ∃ j : Unit → Option Bool, j () = some true ∧ ∀ k : (Unit → Option Bool) → Option Bool, k j = some true → jn j k = some true := ⟨fun _ => some true, rfl, fun k hk => hk⟩
  clear hgoal hj j
  -- the second half
  have half : ∀ k : (Unit → Option Bool) → Option Bool, (∀ j : Unit → Option Bool, j () = some true → k j = some true) → ∀ j : Unit → Option Bool, j () = some true → jn j k = some true := fun k hk j hj => hk j hj
  refine half _ (fun j hj => ?_) _ ?_
  · -- a further hold
    by_cases hz : a5 = []
    · subst hz
      simp only [List.length_nil, Int.natCast_zero, Int.lt_irrefl, decide_false, bdc, cond_false]
      exact hj
    · obtain ⟨init, y, rfl⟩ : ∃ init y, a5 = init ++ [y] := ⟨a5.dropLast, a5.getLast hz, (List.dropLast_concat_getLast hz).symm⟩
      have hlen : (init ++ [y]).length = init.length + 1 := by simp
      rw [hlen] at hh
      have hpos : decide ((0 : Int) < (((init ++ [y]).length : Nat) : Int)) = true := decide_eq_true (by rw [hlen]; omega)
      have hidx : idx (init ++ [y]) (wr ((((init ++ [y]).length : Nat) : Int) - 1)) = some y := by
        rw [hlen, wr_id (by omega) (by omega), show (((init.length + 1 : Nat) : Int) - 1) = ((init.length : Nat) : Int) by omega, idx_nat]
        simp
      have hy := (rise_iff.1 hr).1 y (by simp)
      rw [bdc_t hpos, bd_some hidx, hpos]
      simp only [cond_true]
      by_cases h1 : y < 1000
      · simp only [h1, decide_true, cond_true]
        rw [bd_some hidx, gd_true (by simp only [decide_eq_true_eq, List.length_nil, hlen]; omega), gd_true (by simp only [decide_eq_true_eq, List.nil_append, hlen, List.length_cons, List.length_nil]; omega)]
        rw [wr_id (show -9223372036854775808 ≤ y + 1 by omega) (by omega)]
        rw [bd_some (quality_State a0 a1 a2 a3 a4 _ (by omega))]
        have hr2 : rise 1023 (-1) ([] ++ (init ++ [y]) ++ [y + 1]) = true := by
          rw [rise_iff] at hr ⊢
          rw [List.nil_append]
          refine ⟨fun x hx => ?_, ?_⟩
          · rcases List.mem_append.1 hx with hx | hx
            · exact hr.1 x hx
            · simp only [List.mem_singleton] at hx; omega
          · rw [List.pairwise_append]
            refine ⟨hr.2, by simp, fun x hx z hz => ?_⟩
            simp only [List.mem_singleton] at hz
            subst hz
            rcases List.mem_append.1 hx with hx | hx
            · have := (List.pairwise_append.1 hr.2).2.2 x hx y (by simp); omega
            · simp only [List.mem_singleton] at hx; omega
        obtain ⟨f1, f2⟩ := stateF_code (fs := a0.facts) (lot := a1) (day := a2) (kn := a3) (valid_of hs hr2 (by simp; omega))
        rw [f1, f2, e2]
        have hany : (([] ++ (init ++ [y]) ++ [y + 1]).any fun x => a1 == x) = (((init ++ [y]).any fun x => a1 == x) || (a1 == y + 1)) := by
          rw [List.nil_append, List.any_append]; simp
        rw [hany]
        generalize ((init ++ [y]).any fun x => a1 == x) = b
        generalize (LotF a0.facts a1 a2 a3).2.2 = ok
        generalize (LotF a0.facts a1 a2 a3).1.state = st
        generalize decide ((LotF a0.facts a1 a2 a3).1.expiry ≤ a2) = late
        generalize (runC a0.facts a1 a2 a3 a4).2.1 = g
        have hc : ∀ b', codeS ok st late (b || b') g = codeS ok st late b g ∨ b' = true := fun b' => by cases b' <;> simp
        by_cases he : y + 1 = a1
        · have hx : (a1 == y + 1) = true := by simp [he]
          have hy2 : ((y + 1) == a1) = true := by simp [he]
          have hy3 : ((y + 1) != a1) = false := by simp [he]
          rw [hx, hy2, hy3]
          have : codeS ok st late (b || true) g = 2 ∨ codeS ok st late (b || true) g = 3 := by
            unfold codeS
            cases ok
            · right; rfl
            · cases st == 3
              · left; cases st == 2 <;> cases b <;> rfl
              · right; rfl
          rcases this with h | h <;> rw [h] <;> exact hj
        · have hx : (a1 == y + 1) = false := by simp; omega
          have hy2 : ((y + 1) == a1) = false := by simp; omega
          have hy3 : ((y + 1) != a1) = true := by simp; omega
          rw [hx, hy2, hy3, Bool.or_false]
          simp only [show ((0 : Int) != 0) = false from rfl, cond_false, cond_true, bne_self_eq_false]
          exact hj
      · simp only [h1, decide_false, cond_false]
        exact hj
  · -- a specification less, and wider bounds
    simp only [cond_or]
    by_cases hz : a4 = []
    · subst hz; rfl
    have hp : 0 < a4.length := List.length_pos_iff.2 hz
    have hne : (((a4.length : Nat) : Int) == 0) = false := by simp; omega
    rw [hne]
    by_cases hb : a7 < 0
    · simp [hb]
    by_cases hb2 : 1000 < a7
    · simp [hb2]
    simp only [hb, hb2, decide_false, Bool.or_false, cond_false]
    rw [show IntKind.i64.wrap a6 = a6 from wr_id (by omega) (by omega)]
    obtain ⟨k, hk, hkl⟩ : ∃ k : Nat, a6.tmod ((a4.length : Nat) : Int) = (k : Int) ∧ k < a4.length := by
      have h1 := Int.tmod_nonneg ((a4.length : Nat) : Int) h6.1
      have h2 := Int.tmod_lt_of_pos a6 (show (0 : Int) < ((a4.length : Nat) : Int) by omega)
      exact ⟨(a6.tmod ((a4.length : Nat) : Int)).toNat, by omega, by omega⟩
    rw [hk]
    have hl16 := (specsF_iff.1 hs).2.2
    have hx : a4[k]? = some a4[k] := List.getElem?_eq_getElem hkl
    simp only [Int.toNat_natCast, List.drop_zero, List.nil_append]
    rw [wr_id (show -9223372036854775808 ≤ (k : Int) + 1 by omega) (by omega), show ((k : Int) + 1).toNat = k + 1 by omega]
    rw [gd_true (by simp only [decide_eq_true_eq]; omega), gd_true (by simp only [decide_eq_true_eq]; omega), gd_true (by simp only [decide_eq_true_eq]; omega), gd_true (by simp only [decide_eq_true_eq, List.length_nil, List.length_take]; omega), gd_true (by simp only [decide_eq_true_eq]; omega), gd_true (by simp only [decide_eq_true_eq]; omega),
      gd_true (by simp only [decide_eq_true_eq, List.length_take, List.length_drop]; omega), gd_true (by simp only [decide_eq_true_eq, List.length_nil]; omega)]
    rw [bd_some (show idx a4 (k : Int) = some a4[k] by rw [idx_nat]; exact hx)]
    by_cases hhi : 1048576 < a4[k].hi
    · simp [hhi]
    by_cases hlo : a4[k].lo < -1048576
    · simp [hlo]
    simp only [hhi, hlo, decide_false, Bool.or_false, cond_false]
    have hlh := (specsF_iff.1 hs).1 a4[k] (List.getElem_mem _)
    rw [wr_id (show -9223372036854775808 ≤ a4[k].lo - a7 by omega) (by omega), wr_id (show -9223372036854775808 ≤ a4[k].hi + a7 by omega) (by omega)]
    rw [bd_some (show idx (a4.set k { a4[k] with lo := a4[k].lo - a7 }) (k : Int) = some { a4[k] with lo := a4[k].lo - a7 } by rw [idx_nat]; exact List.getElem?_set_self hkl)]
    simp only [List.set_set]
    rw [bd_some (quality_State a0 a1 a2 a3 _ a5 (by simp only [List.length_append, List.length_take, List.length_drop]; omega)), bd_some (quality_State a0 a1 a2 a3 _ a5 (by rw [List.length_set]; omega))]
    have hless : a4.take k ++ a4.drop (k + 1) = a4.eraseIdx k := (List.eraseIdx_eq_take_drop_succ a4 k).symm
    rw [hless]
    have hsub : (a4.eraseIdx k).Sublist a4 := List.eraseIdx_sublist a4 k
    have s1 : specsF (a4.eraseIdx k) = true := by
      rw [specsF_iff] at hs ⊢
      exact ⟨fun x hx => hs.1 x (hsub.subset hx), rise_sub (hsub.map _) hs.2.1, Nat.le_trans hsub.length_le hs.2.2⟩
    have hmap : (a4.set k { a4[k] with lo := a4[k].lo - a7, hi := a4[k].hi + a7 }).map GSpec.test = a4.map GSpec.test := by
      rw [List.map_set]
      have : (a4.map GSpec.test)[k]'(by simpa using hkl) = a4[k].test := by simp
      show (a4.map GSpec.test).set k a4[k].test = _
      rw [← this, List.set_getElem_self]
    have s2 : specsF (a4.set k { a4[k] with lo := a4[k].lo - a7, hi := a4[k].hi + a7 }) = true := by
      rw [specsF_iff] at hs ⊢
      refine ⟨fun x hx => ?_, by rw [hmap]; exact hs.2.1, by rw [List.length_set]; exact hs.2.2⟩
      rcases List.mem_or_eq_of_mem_set hx with hx | rfl
      · exact hs.1 x hx
      · show a4[k].lo - a7 ≤ a4[k].hi + a7; omega
    obtain ⟨f1, f2⟩ := stateF_code (fs := a0.facts) (lot := a1) (day := a2) (kn := a3) (valid_of s1 hr (by omega))
    obtain ⟨g1, g2⟩ := stateF_code (fs := a0.facts) (lot := a1) (day := a2) (kn := a3) (valid_of s2 hr (by omega))
    rw [f1, f2, g1, g2, e2]
    simp only [BEq.rfl, cond_true]
    have m1 : (runC a0.facts a1 a2 a3 a4).2.1 = true → (runC a0.facts a1 a2 a3 (a4.eraseIdx k)).2.1 = true := fun h => by
      rw [runC_good, List.all_eq_true] at h ⊢
      exact fun x hx => h x (hsub.subset hx)
    have m2 : (runC a0.facts a1 a2 a3 a4).2.1 = true → (runC a0.facts a1 a2 a3 (a4.set k { a4[k] with lo := a4[k].lo - a7, hi := a4[k].hi + a7 })).2.1 = true := fun h => by
      rw [runC_good, List.all_eq_true] at h ⊢
      intro x hx
      rcases List.mem_or_eq_of_mem_set hx with hx | rfl
      · exact h x hx
      · have := h a4[k] (List.getElem_mem _)
        simp only [Bool.and_eq_true, decide_eq_true_eq] at this ⊢
        refine ⟨⟨this.1.1, ?_⟩, ?_⟩
        · have := this.1.2; show a4[k].lo - a7 ≤ _; omega
        · have := this.2; show _ ≤ a4[k].hi + a7; omega
    revert m1 m2
    generalize (runC a0.facts a1 a2 a3 a4).2.1 = g
    generalize (runC a0.facts a1 a2 a3 (a4.eraseIdx k)).2.1 = g1
    generalize (runC a0.facts a1 a2 a3 (a4.set k { a4[k] with lo := a4[k].lo - a7, hi := a4[k].hi + a7 })).2.1 = g2
    generalize (LotF a0.facts a1 a2 a3).2.2 = ok
    generalize (LotF a0.facts a1 a2 a3).1.state = st
    generalize decide ((LotF a0.facts a1 a2 a3).1.expiry ≤ a2) = late
    generalize (a5.any fun x => a1 == x) = b
    intro m1 m2
    cases g with
    | true => rw [m1 rfl, m2 rfl]; cases h : codeS ok st late b true == 0 <;> simp_all
    | false =>
      have : codeS ok st late b false ≠ 0 := by
        unfold codeS
        cases ok <;> cases st == 3 <;> cases st == 2 <;> cases b <;> cases st == 1 <;> cases late <;> decide
      simp [this]
end Bf
