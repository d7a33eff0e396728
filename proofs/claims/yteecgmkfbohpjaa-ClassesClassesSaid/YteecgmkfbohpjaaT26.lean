import Derived.Test.YteecgmkfbohpjaaT25
namespace Bf
open Go Go.RowKit Go.Proofs

/-! The plain laws of merging: no program in sight. -/
theorem findRow_spec (row : List Bool) : ∀ (ys : List (List Bool)) (k : Nat), (findRow row ys k = k + ys.length ∧ row ∉ ys) ∨ (∃ j, findRow row ys k = k + j ∧ ys[j]? = some row ∧ j < ys.length)
  | [], k => .inl ⟨rfl, by simp⟩
  | z :: ys, k => by
    unfold findRow
    cases h : z == row with
    | true => exact .inr ⟨0, rfl, by simp at h; simp [h], by simp⟩
    | false =>
      have hne : ¬ z = row := by simpa using h
      rcases findRow_spec row ys (k + 1) with ⟨a, b⟩ | ⟨j, a, b, c⟩
      · exact .inl ⟨by simp [a]; omega, by simp [b]; exact fun e => hne e.symm⟩
      · exact .inr ⟨j + 1, by simp [a]; omega, by simpa using b, by simp; omega⟩
theorem mGo_foldl : ∀ (s : List Supply) (fits : List (List Bool)) (a : MA), mGo s fits a = (s.zip fits).foldl (fun a p => mStep p.1 p.2 a) a
  | [], _, _ => by simp [mGo]
  | _ :: _, [], _ => by simp [mGo]
  | x :: s, r :: fits, a => by rw [mGo, mGo_foldl s fits]; rfl
/-- What a class has together. -/
def amt (ps : List (Supply × List Bool)) (of : List Int) (j : Nat) : Int := (ps.zip of).foldl (fun acc q => if q.2 = (j : Int) then IntKind.i64.wrap (acc + q.1.1.amount) else acc) 0
theorem amt_snoc {ps : List (Supply × List Bool)} {of : List Int} (h : of.length = ps.length) (p : Supply × List Bool) (o : Int) (j : Nat) : amt (ps ++ [p]) (of ++ [o]) j = if o = (j : Int) then IntKind.i64.wrap (amt ps of j + p.1.amount) else amt ps of j := by
  unfold amt
  rw [List.zip_append (by rw [h]), List.foldl_append]
  rfl
structure MInv (ps : List (Supply × List Bool)) (a : MA) : Prop where
  len : a.1.length = a.2.1.length
  nodup : a.2.1.Nodup
  ofs : a.2.2.length = ps.length
  cls : ∀ (i : Nat) p, ps[i]? = some p → ∃ j : Nat, a.2.2[i]? = some (j : Int) ∧ a.2.1[j]? = some p.2
  src : ∀ row ∈ a.2.1, ∃ p ∈ ps, p.2 = row
  few : a.2.1.length ≤ ps.length
  am : ∀ (j : Nat) x, a.1[j]? = some x → x.amount = amt ps a.2.2 j ∧ 0 ≤ x.amount ∧ x.amount ≤ ps.length * 1048576
  rest : ∀ (j : Nat), a.1.length ≤ j → amt ps a.2.2 j = 0
theorem MInv.nil : MInv [] ([], [], []) where
  len := rfl
  nodup := .nil
  ofs := rfl
  cls := fun i p h => by simp at h
  src := fun row h => by simp at h
  few := Nat.le_refl _
  am := fun j x h => by simp at h
  rest := fun j _ => rfl
theorem MInv.step {ps : List (Supply × List Bool)} {a : MA} (h : MInv ps a) (x : Supply) (row : List Bool) (hx : 0 ≤ x.amount ∧ x.amount ≤ 1048576) (hn : ps.length ≤ 64) : MInv (ps ++ [(x, row)]) (mStep x row a) := by
  obtain ⟨xs, ys, of⟩ := a
  obtain ⟨h1, h2, h3, h4, h5, h6, h7, h8⟩ := h
  dsimp only at *
  rcases findRow_spec row ys 0 with ⟨e, hni⟩ | ⟨j, e, hj, hjl⟩
  · rw [Nat.zero_add] at e
    have hm : mStep x row (xs, ys, of) = (xs ++ [x], ys ++ [row], of ++ [(ys.length : Int)]) := by simp [mStep, e]
    rw [hm]
    refine ⟨by simp [h1], ?_, by simp [h3], fun i p hp => ?_, fun r hr => ?_, by simp; omega, fun j y hy => ?_, fun j hj => ?_⟩
    · exact List.nodup_append.2 ⟨h2, by simp, fun a ha b hb => by simp at hb; subst hb; exact fun e => hni (e ▸ ha)⟩
    · by_cases hi : i < ps.length
      · rw [List.getElem?_append_left hi] at hp
        obtain ⟨j, g1, g2⟩ := h4 i p hp
        exact ⟨j, by rw [List.getElem?_append_left (by omega)]; exact g1, by rw [List.getElem?_append_left (List.getElem?_eq_some_iff.1 g2).1]; exact g2⟩
      · rw [List.getElem?_append_right (by omega)] at hp
        cases hk : i - ps.length with
        | zero =>
          rw [hk] at hp; simp at hp; subst hp
          have : i = of.length := by omega
          subst this
          exact ⟨ys.length, by simp, by simp⟩
        | succ k => rw [hk] at hp; simp at hp
    · simp only [List.mem_append, List.mem_singleton] at hr
      rcases hr with hr | rfl
      · obtain ⟨p, hp, e⟩ := h5 r hr; exact ⟨p, by simp [hp], e⟩
      · exact ⟨(x, r), by simp, rfl⟩
    · rw [amt_snoc h3]
      by_cases hjx : j < xs.length
      · rw [List.getElem?_append_left hjx] at hy
        obtain ⟨g1, g2, g3⟩ := h7 j y hy
        rw [if_neg (by omega)]
        refine ⟨g1, g2, ?_⟩
        simp only [List.length_append, List.length_singleton]
        omega
      · rw [List.getElem?_append_right (by omega)] at hy
        cases hk : j - xs.length with
        | zero =>
          rw [hk] at hy; simp at hy; subst hy
          have : j = ys.length := by omega
          subst this
          rw [if_pos rfl, h8 _ (by omega), Int.zero_add, IntWalk.i64_in x.amount (by omega)]
          refine ⟨rfl, hx.1, ?_⟩
          simp only [List.length_append, List.length_singleton]
          omega
        | succ k => rw [hk] at hy; simp at hy
    · simp only [List.length_append, List.length_singleton] at hj
      rw [amt_snoc h3, if_neg (by omega)]
      exact h8 j (by omega)
  · rw [Nat.zero_add] at e
    have hm : mStep x row (xs, ys, of) = (xs.modify j (fun t => { t with amount := IntKind.i64.wrap (t.amount + x.amount) }), ys, of ++ [(j : Int)]) := by simp [mStep, e, Nat.ne_of_lt hjl]
    rw [hm]
    refine ⟨by simp [h1], h2, by simp [h3], fun i p hp => ?_, fun r hr => ?_, by simp; omega, fun k y hy => ?_, fun k hk => ?_⟩
    · by_cases hi : i < ps.length
      · rw [List.getElem?_append_left hi] at hp
        obtain ⟨j, g1, g2⟩ := h4 i p hp
        exact ⟨j, by rw [List.getElem?_append_left (by omega)]; exact g1, g2⟩
      · rw [List.getElem?_append_right (by omega)] at hp
        cases hk : i - ps.length with
        | zero =>
          rw [hk] at hp; simp at hp; subst hp
          have : i = of.length := by omega
          subst this
          exact ⟨j, by simp, hj⟩
        | succ k => rw [hk] at hp; simp at hp
    · obtain ⟨p, hp, e⟩ := h5 r hr; exact ⟨p, by simp [hp], e⟩
    · rw [amt_snoc h3]
      rw [List.getElem?_modify] at hy
      cases hxk : xs[k]? with
      | none => rw [hxk] at hy; simp at hy
      | some z =>
        obtain ⟨g1, g2, g3⟩ := h7 k z hxk
        rw [hxk] at hy
        by_cases hjk : j = k
        · subst hjk
          simp at hy
          subst hy
          rw [if_pos rfl, ← g1, IntWalk.i64_in _ (by omega)]
          refine ⟨rfl, by simp only; omega, ?_⟩
          simp only [List.length_append, List.length_singleton]
          omega
        · simp [hjk] at hy
          subst hy
          rw [if_neg (by omega)]
          refine ⟨g1, g2, ?_⟩
          simp only [List.length_append, List.length_singleton]
          omega
    · simp only [List.length_modify] at hk
      rw [amt_snoc h3, if_neg (by omega)]
      exact h8 k hk
theorem MInv.all {s : List Supply} {fits : List (List Bool)} (hs : ∀ x ∈ s, 0 ≤ x.amount ∧ x.amount ≤ 1048576) (hn : s.length ≤ 64) : MInv (s.zip fits) (mGo s fits ([], [], [])) := by
  rw [mGo_foldl]
  have key : ∀ (qs ps : List (Supply × List Bool)) (a : MA), MInv ps a → (∀ q ∈ qs, 0 ≤ q.1.amount ∧ q.1.amount ≤ 1048576) → ps.length + qs.length ≤ 64 → MInv (ps ++ qs) (qs.foldl (fun a p => mStep p.1 p.2 a) a) := by
    intro qs
    induction qs with
    | nil => intro ps a h _ _; simpa using h
    | cons q qs ih =>
      intro ps a h hq hl
      simp only [List.length_cons] at hl
      have := ih (ps ++ [q]) _ (h.step q.1 q.2 (hq q (List.mem_cons_self ..)) (by omega)) (fun z hz => hq z (List.mem_cons_of_mem _ hz)) (by simp; omega)
      simpa using this
  have := key (s.zip fits) [] ([], [], []) MInv.nil (fun q hq => hs q.1 (List.of_mem_zip hq).1) (by simp; omega)
  simpa using this
/-- Different rows: merging changes nothing. -/
theorem mGo_same : ∀ (xs2 : List Supply) (ys2 : List (List Bool)) (xs1 : List Supply) (ys1 : List (List Bool)), xs2.length = ys2.length → (ys1 ++ ys2).Nodup →
    mGo xs2 ys2 (xs1, ys1, (List.range ys1.length).map (fun i : Nat => (i : Int))) = (xs1 ++ xs2, ys1 ++ ys2, (List.range (ys1.length + ys2.length)).map (fun i : Nat => (i : Int)))
  | [], [], xs1, ys1, _, _ => by simp [mGo]
  | x :: xs2, y :: ys2, xs1, ys1, hl, hn => by
    have hni : y ∉ ys1 := by
      intro hy
      exact (List.nodup_append.1 hn).2.2 y hy y (List.mem_cons_self ..) rfl
    have hf : findRow y ys1 0 = ys1.length := by
      rcases findRow_spec y ys1 0 with ⟨e, _⟩ | ⟨j, _, hj, _⟩
      · simpa using e
      · exact absurd (List.mem_of_getElem? hj) hni
    rw [mGo]
    have hm : mStep x y (xs1, ys1, (List.range ys1.length).map (fun i : Nat => (i : Int))) = (xs1 ++ [x], ys1 ++ [y], (List.range (ys1 ++ [y]).length).map (fun i : Nat => (i : Int))) := by
      simp [mStep, hf, List.range_succ]
    rw [hm, mGo_same xs2 ys2 (xs1 ++ [x]) (ys1 ++ [y]) (by simpa using hl) (by simpa using hn)]
    simp [Nat.add_assoc, Nat.add_comm 1]
end Bf
