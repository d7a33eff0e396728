/- Plain law: StockUsable's model is true of all arguments. -/
import Derived.Test.YtedblpbpoekdlaaUG
import Derived.Test.YtedblpbpoekdlaaK2U
namespace Bf
open Go Go.RowKit Go.Proofs

/-! #### All lots have different numbers, which rise -/
def noLt (a b : GLot) : Prop := a.no_ < b.no_
theorem lotF_no {fs : List GFact} {no d t : Int} (h : (lotF fs no d t).2.2 = true) : (lotF fs no d t).1.no_ = no := by
  unfold lotF lotG at h ⊢
  revert h
  generalize rightF _ = b
  cases (atF fs ⟨1, no, 0⟩ d t).2 <;> cases (atF fs ⟨1, no, 1⟩ d t).2 <;> cases (atF fs ⟨1, no, 2⟩ d t).2 <;> cases (atF fs ⟨1, no, 3⟩ d t).2 <;> cases (atF fs ⟨1, no, 4⟩ d t).2 <;> cases b <;> simp
theorem lotsGo_rise (fs : List GFact) (d t : Int) : ∀ (n : Nat) (i : Int) (s : List GLot × List GRead), s.1.Pairwise noLt → (∀ x ∈ s.1, x.no_ < i) → (lotsGo fs d t n i s).1.Pairwise noLt
  | 0, _, _, h, _ => h
  | n + 1, i, s, h, hi => by
    rw [lotsGo]
    refine lotsGo_rise fs d t n (i + 1) _ ?_ ?_
    · simp only
      cases hc : (lotF fs i d t).2.2
      · exact h
      · simp only [cond_true]
        refine List.pairwise_append.2 ⟨h, List.pairwise_singleton _ _, fun a ha b hb => ?_⟩
        rw [List.mem_singleton] at hb
        subst hb
        unfold noLt
        rw [lotF_no hc]
        exact hi a ha
    · intro x hx
      simp only at hx
      cases hc : (lotF fs i d t).2.2
      · rw [hc] at hx; have := hi x hx; omega
      · rw [hc] at hx
        simp only [cond_true] at hx
        rcases List.mem_append.1 hx with hx | hx
        · have := hi x hx; omega
        · rw [List.mem_singleton] at hx
          subst hx
          rw [lotF_no hc]; omega
theorem LotsF_rise (fs : List GFact) (d t : Int) : (LotsF fs d t).1.Pairwise noLt := by
  unfold LotsF
  cases decide (0 ≤ d) && decide (d < 1024)
  · exact List.Pairwise.nil
  · exact lotsGo_rise fs d t _ 0 _ List.Pairwise.nil (fun x hx => by cases hx)

/-! #### The order of what is put in order -/
def ordR (a b : GLot) : Prop := a.expiry < b.expiry ∨ (a.expiry = b.expiry ∧ a.no_ < b.no_)
theorem insAt_prop {l : List GLot} {x : GLot} (hs : l.Pairwise ordR) : ∀ j, j ≤ l.length → (∀ m y, m < insAt l x j → l[m]? = some y → y.expiry ≤ x.expiry) ∧ (∀ m y, insAt l x j ≤ m → m < j → l[m]? = some y → x.expiry < y.expiry)
  | 0, _ => ⟨fun m y h => by simp [insAt] at h, fun m y _ h => by omega⟩
  | j + 1, hj => by
    have e : l[j]? = some (l[j]'(by omega)) := List.getElem?_eq_getElem _
    rw [insAt, e]
    simp only
    by_cases h : x.expiry < (l[j]'(by omega)).expiry
    · rw [if_pos h]
      obtain ⟨h1, h2⟩ := insAt_prop (x := x) hs j (by omega)
      refine ⟨h1, fun m y hm hmj hy => ?_⟩
      by_cases e2 : m = j
      · subst e2; rw [e] at hy; cases hy; exact h
      · exact h2 m y hm (by omega) hy
    · rw [if_neg h]
      refine ⟨fun m y hm hy => ?_, fun m y hm hmj _ => by omega⟩
      by_cases e2 : m = j
      · subst e2; rw [e] at hy; cases hy; omega
      · obtain ⟨hm1, hm2⟩ := List.getElem?_eq_some_iff.1 hy
        have := List.pairwise_iff_getElem.1 hs m j hm1 (by omega) (by omega)
        rw [hm2] at this
        unfold ordR at this
        omega
theorem insE_ord {l : List GLot} {x : GLot} (hs : l.Pairwise ordR) (hx : ∀ y ∈ l, y.no_ < x.no_) : (insE l x).Pairwise ordR := by
  unfold insE
  have hle := insAt_le l x l.length
  obtain ⟨h1, h2⟩ := insAt_prop (x := x) hs l.length (Nat.le_refl _)
  generalize insAt l x l.length = a at *
  have ht : ∀ y ∈ l.take a, y.expiry ≤ x.expiry := fun y hy => by
    obtain ⟨m, hm⟩ := List.getElem?_of_mem hy
    rw [List.getElem?_take] at hm
    split at hm
    · exact h1 m y (by assumption) hm
    · cases hm
  have hd : ∀ y ∈ l.drop a, x.expiry < y.expiry := fun y hy => by
    obtain ⟨m, hm⟩ := List.getElem?_of_mem hy
    rw [List.getElem?_drop] at hm
    exact h2 (a + m) y (by omega) (List.getElem?_eq_some_iff.1 hm).1 hm
  refine List.pairwise_append.2 ⟨hs.sublist (List.take_sublist _ _), List.pairwise_cons.2 ⟨fun y hy => .inl (hd y hy), hs.sublist (List.drop_sublist _ _)⟩, fun y hy z hz => ?_⟩
  have hyl := hx y (List.mem_of_mem_take hy)
  have hye := ht y hy
  rcases List.mem_cons.1 hz with rfl | hz
  · unfold ordR; omega
  · have := hd z hz
    exact .inl (by omega)
theorem foldl_ord : ∀ (xs l : List GLot), l.Pairwise ordR → xs.Pairwise noLt → (∀ y ∈ l, ∀ x ∈ xs, y.no_ < x.no_) → (xs.foldl insE l).Pairwise ordR
  | [], _, h, _, _ => h
  | x :: xs, l, h, hx, hl => by
    rw [List.foldl_cons]
    rw [List.pairwise_cons] at hx
    refine foldl_ord xs _ (insE_ord h fun y hy => hl y hy x List.mem_cons_self) hx.2 fun y hy z hz => ?_
    rcases List.mem_cons.1 ((insE_perm l x).mem_iff.1 hy) with rfl | hy
    · exact hx.1 z hz
    · exact hl y hy z (List.mem_cons_of_mem _ hz)
theorem sortF_ord {l : List GLot} (h : l.Pairwise noLt) : (sortF l).Pairwise ordR := foldl_ord l [] List.Pairwise.nil h (fun y hy => by cases hy)

/-! #### Numbers that were seen -/
def seenL (l : List GLot) : List (Int × Bool) := l.map fun x => (x.no_, true)
theorem seen_find (l : List GLot) (n : Int) : (mfind eqI (seenL l) n).isSome = l.any (fun x => n == x.no_) := by
  induction l with
  | nil => rfl
  | cons x l ih =>
    unfold mfind seenL at ih ⊢
    rw [List.map_cons, List.findIdx?_cons, List.any_cons]
    show (if (n == x.no_) = true then some 0 else _).isSome = _
    cases n == x.no_
    · simp only [Bool.false_eq_true, if_false, Option.isSome_map, Bool.false_or]; exact ih
    · rfl
theorem seen_get (l : List GLot) (n : Int) : mget eqI (seenL l) false n = l.any (fun x => n == x.no_) := by
  rw [← seen_find]
  unfold mget
  cases h : mfind eqI (seenL l) n with
  | none => rfl
  | some j =>
    unfold mfind at h
    have := (List.findIdx?_eq_some_iff_getElem.1 h).1
    have hm : (seenL l)[j] ∈ seenL l := List.getElem_mem this
    simp only [List.getElem?_eq_getElem this]
    obtain ⟨y, _, hy⟩ := List.mem_map.1 hm
    rw [← hy]
    rfl
theorem seen_put {l : List GLot} {x : GLot} (h : l.any (fun y => x.no_ == y.no_) = false) : mput eqI (seenL l) x.no_ true = seenL (l ++ [x]) := by
  have := seen_find l x.no_
  rw [h] at this
  unfold mput
  cases hf : mfind eqI (seenL l) x.no_ with
  | some j => rw [hf] at this; cases this
  | none => simp [seenL]
theorem nos_diff {l : List GLot} (h : l.Pairwise noLt) {a b : GLot} (ha : a ∈ l) (hb : b ∈ l) (e : a.no_ = b.no_) : a = b := by
  obtain ⟨i, hi, rfl⟩ := List.getElem_of_mem ha
  obtain ⟨j, hj, rfl⟩ := List.getElem_of_mem hb
  have hp := List.pairwise_iff_getElem.1 h
  rcases Nat.lt_trichotomy i j with h1 | h1 | h1
  · have := hp i j hi hj h1; unfold noLt at this; omega
  · subst h1; rfl
  · have := hp j i hj hi h1; unfold noLt at this; omega
theorem useP_iff {line : GLine} {day : Int} {x : GLot} : useP line day x = true ↔ x.item = line.item ∧ x.plant = line.plant ∧ x.state = 0 ∧ day < x.expiry := by
  unfold useP
  simp only [Bool.and_eq_true, beq_iff_eq, decide_eq_true_eq, and_assoc]
theorem GLine.eqb_iff (x y : GLine) : GLine.eqb x y = true ↔ x = y := by
  cases x; cases y; simp [GLine.eqb]
theorem usable_mem {fs : List GFact} {line : GLine} {day kn : Int} (h : fewF fs = true) (x : GLot) : x ∈ (UsableF fs line day kn).1 ↔ line.config = 0 ∧ x ∈ (LotsF fs day kn).1 ∧ useP line day x = true := by
  unfold UsableF
  by_cases hc : line.config = 0
  · rw [show (line.config != 0) = false by simp [hc]]
    simp only [cond_false]
    have hlen := LotsF_len h day kn
    rw [sortU_eq _ (Nat.le_trans (List.length_filter_le _ _) (by omega)), (sortF_perm _).mem_iff, List.mem_filter]
    simp [hc]
  · rw [show (line.config != 0) = true by simp [hc]]
    simp [hc]
theorem usable_ord {fs : List GFact} {line : GLine} {day kn : Int} (h : fewF fs = true) : (UsableF fs line day kn).1.Pairwise ordR := by
  unfold UsableF
  cases line.config != 0
  · simp only [cond_false]
    have hlen := LotsF_len h day kn
    rw [sortU_eq _ (Nat.le_trans (List.length_filter_le _ _) (by omega))]
    exact sortF_ord ((LotsF_rise fs day kn).sublist List.filter_sublist)
  · exact List.Pairwise.nil
theorem first_go {l : List GLot} {B : Nat → GLot → List (Int × Bool) → (List (Int × Bool) → Option Bool) → Option Bool} {K : List (Int × Bool) → Option Bool} (hB : ∀ (pre : List GLot) x rest c, l = pre ++ x :: rest → B pre.length x (seenL pre) c = c (seenL (pre ++ [x]))) : ∀ (xs pre : List GLot), l = pre ++ xs → forLg B K pre.length xs (seenL pre) = K (seenL l)
  | [], pre, h => by rw [h, List.append_nil]; rfl
  | x :: xs, pre, h => by
    rw [forLg, hB pre x xs _ h]
    have := first_go (K := K) hB xs (pre ++ [x]) (by rw [h]; simp)
    rw [List.length_append] at this
    exact this
theorem all_go {B : Nat → GLot → Unit → (Unit → Option Bool) → Option Bool} {K : Unit → Option Bool} : ∀ (xs : List GLot) (k : Nat), (∀ k x c, x ∈ xs → B k x () c = c ()) → forLg B K k xs () = K ()
  | [], _, _ => rfl
  | x :: xs, k, h => by
    rw [forLg, h k x _ List.mem_cons_self]
    exact all_go xs (k + 1) fun k y c hy => h k y c (List.mem_cons_of_mem _ hy)
theorem stockUsable_true (a0 : GWorld) (a1 a2 : GLine) (a3 a4 : Int) (w0 : GWorld.wf a0) : backflushlaw18_StockUsable_m a0 a1 a2 a3 a4 = some true := by
  have hlen : a0.facts.length ≤ 9223372036854775807 := w0.2.1
  unfold backflushlaw18_StockUsable_m
  rw [bd_some sane18]
  simp only [Bool.not_true, cond_false]
  rw [bd_some (few18 a0 hlen)]
  cases hf : fewF a0.facts
  · rfl
  simp only [Bool.not_true, cond_false]
  rw [bd_some (stock_Usable a0 a1 a3 a4 hf), bd_some (stock_Usable a0 a2 a3 a4 hf), bd_some (stock_Lots a0 a3 a4)]
  simp only [forL]
  have hmem := fun x => usable_mem (line := a1) (day := a3) (kn := a4) hf x
  have hord := usable_ord (line := a1) (day := a3) (kn := a4) hf
  have hrise := LotsF_rise a0.facts a3 a4
  have hUl : (UsableF a0.facts a1 a3 a4).1.length ≤ 8 := by
    have hl := LotsF_len hf a3 a4
    unfold UsableF
    cases a1.config != 0
    · simp only [cond_false]
      rw [sortU_eq _ (Nat.le_trans (List.length_filter_le _ _) (by omega)), (sortF_perm _).length_eq]
      exact Nat.le_trans (List.length_filter_le _ _) hl
    · simp
  have hmem2 := fun x => usable_mem (line := a2) (day := a3) (kn := a4) hf x
  generalize (UsableF a0.facts a2 a3 a4).1 = U2 at hmem2 ⊢
  generalize (UsableF a0.facts a1 a3 a4).1 = U at hmem hord hUl ⊢
  generalize (LotsF a0.facts a3 a4).1 = Ls at hmem hmem2 hrise ⊢
  refine (first_go (l := U) (fun pre x rest c hl => ?_) U [] rfl).trans ?_
  · have hx := (hmem x).1 (by rw [hl]; simp)
    obtain ⟨c0, hxl, hu⟩ := hx
    obtain ⟨u1, u2, u3, u4⟩ := useP_iff.1 hu
    have hpx : ∀ y ∈ pre, ordR y x := fun y hy => by
      rw [hl] at hord
      exact (List.pairwise_append.1 hord).2.2 y hy x List.mem_cons_self
    have hany : pre.any (fun y => x.no_ == y.no_) = false := by
      rw [List.any_eq_false]
      intro y hy he
      have hyl := ((hmem y).1 (by rw [hl]; simp [hy])).2.1
      have := nos_diff hrise hxl hyl (by simpa using he)
      subst this
      have := hpx x hy
      unfold ordR at this
      omega
    rw [show (a1.config != 0) = false by simp [c0], show (x.item != a1.item) = false by simp [u1], show (x.plant != a1.plant) = false by simp [u2], show (x.state != 0) = false by simp [u3], decide_eq_false (show ¬ x.expiry ≤ a3 by omega), seen_get, hany, seen_put hany]
    simp only [cond_false]
    cases hp : pre.getLast? with
    | none =>
      have : pre = [] := by simpa using hp
      subst this
      rfl
    | some y =>
      have hpl : pre.length ≤ 8 := by rw [hl] at hUl; simp at hUl; omega
      have hpos : 0 < pre.length := by
        cases pre with
        | nil => cases hp
        | cons _ _ => simp
      have hy : y ∈ pre := List.mem_of_getLast? hp
      have ei : idx U (wr (((pre.length : Nat) : Int) - 1)) = some y := by
        rw [wr_id (by omega) (by omega), show ((pre.length : Nat) : Int) - 1 = ((pre.length - 1 : Nat) : Int) by omega, idx_nat, hl, List.getElem?_append_left (by omega), ← List.getLast?_eq_getElem?]
        exact hp
      rw [decide_eq_true (show (0 : Int) < ((pre.length : Nat) : Int) by omega), bdc_t rfl, bd_some ei]
      have ho := hpx y hy
      unfold ordR at ho
      have hn : ¬ x.expiry < y.expiry := by omega
      rw [decide_eq_false hn, bdc_t (show (true && !false) = true from rfl), bd_some ei]
      by_cases he : y.expiry = x.expiry
      · rw [show (y.expiry == x.expiry) = true by simp [he], bdc_t (show (true && !false && true) = true from rfl), bd_some ei, decide_eq_false (show ¬ x.no_ < y.no_ by omega)]
        rfl
      · rw [show (y.expiry == x.expiry) = false by simp [he], bdc_f (show (true && !false && false) = false from rfl)]
        rfl
  rw [all_go U2 0 (fun k x c hx => ?_), all_go Ls 0 (fun k x c hx => ?_)]
  · simp [seenL]
  · rw [seen_get]
    have : (bif bif bif bif a1.config == 0 then x.item == a1.item else false then x.plant == a1.plant else false then x.state == 0 else false then decide (a3 < x.expiry) else false) = U.any (fun y => x.no_ == y.no_) := by
      simp only [cond_and]
      rw [Bool.eq_iff_iff, List.any_eq_true]
      simp only [Bool.and_eq_true, beq_iff_eq, decide_eq_true_eq]
      constructor
      · rintro ⟨⟨⟨⟨h1, h2⟩, h3⟩, h4⟩, h5⟩
        exact ⟨x, (hmem x).2 ⟨h1, hx, useP_iff.2 ⟨h2, h3, h4, h5⟩⟩, rfl⟩
      · rintro ⟨y, hy, he⟩
        obtain ⟨h1, h2, h3⟩ := (hmem y).1 hy
        have := nos_diff hrise hx h2 he
        subst this
        obtain ⟨u1, u2, u3, u4⟩ := useP_iff.1 h3
        exact ⟨⟨⟨⟨h1, u1⟩, u2⟩, u3⟩, u4⟩
    rw [this, bne_self_eq_false]
    rfl
  · rw [seen_get]
    cases ha : U.any (fun y => x.no_ == y.no_)
    · rfl
    · simp only [cond_true]
      rw [List.any_eq_true] at ha
      obtain ⟨y, hy, he⟩ := ha
      obtain ⟨h1, h2, h3⟩ := (hmem y).1 hy
      obtain ⟨g1, g2, g3⟩ := (hmem2 x).1 hx
      have := nos_diff hrise g2 h2 (by simpa using he)
      subst this
      obtain ⟨u1, u2, u3, u4⟩ := useP_iff.1 h3
      obtain ⟨v1, v2, v3, v4⟩ := useP_iff.1 g3
      have : a1 = a2 := by
        cases a1; cases a2
        simp only at *
        subst h1 g1
        rw [← u1, ← u2, ← v1, ← v2]
      rw [(GLine.eqb_iff _ _).2 this]
      rfl
end Bf
