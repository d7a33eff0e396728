/- Plain laws: a key's values on all days, and what is read alike (facts). -/
import Derived.Test.YtedblpbpoekdlaaUB
namespace Bf
open Go Go.RowKit Go.Proofs

def Rep (s : List GFact × List Bool) (g : Nat → Option GFact) : Prop :=
  s.1.length = 1024 ∧ s.2.length = 1024 ∧ ∀ d, d < 1024 → (g d = none → s.2[d]? = some false) ∧ (∀ f, g d = some f → s.2[d]? = some true ∧ s.1[d]? = some f)
def dayV : Option GFact → Int
  | none => -1
  | some f => max f.value (-1)
theorem Rep.start : Rep (List.replicate 1024 (⟨⟨0, 0, 0⟩, 0, ⟨0, 0⟩, 0, 0⟩ : GFact), List.replicate 1024 false) (fun _ => none) :=
  ⟨List.length_replicate, List.length_replicate, fun d hd => ⟨fun _ => by rw [List.getElem?_replicate, if_pos hd], fun f h => nomatch h⟩⟩
theorem Rep.set {s : List GFact × List Bool} {g : Nat → Option GFact} (h : Rep s g) (n : Nat) (x : GFact) : Rep (s.1.set n x, s.2.set n true) (fun d => if d = n then some x else g d) := by
  obtain ⟨h1, h2, h3⟩ := h
  refine ⟨by simp [h1], by simp [h2], fun d hd => ?_⟩
  by_cases e : d = n
  · subst e
    refine ⟨fun h => ?_, fun f hf => ?_⟩
    · simp at h
    · simp only [if_true, Option.some.injEq] at hf
      subst hf
      exact ⟨by rw [List.getElem?_set_self (by rw [h2]; exact hd)], by rw [List.getElem?_set_self (by rw [h1]; exact hd)]⟩
  · have e' : n ≠ d := fun h => e h.symm
    simp only [if_neg e, List.getElem?_set_ne e']
    exact h3 d hd
theorem Rep.congr {s : List GFact × List Bool} {g g' : Nat → Option GFact} (h : Rep s g) (he : ∀ d, d < 1024 → g d = g' d) : Rep s g' :=
  ⟨h.1, h.2.1, fun d hd => by rw [← he d hd]; exact h.2.2 d hd⟩
theorem Rep.get {s : List GFact × List Bool} {g : Nat → Option GFact} (h : Rep s g) {d : Nat} (hd : d < 1024) : ∃ f, s.2[d]? = some (g d).isSome ∧ s.1[d]? = some f ∧ ∀ f', g d = some f' → f' = f := by
  obtain ⟨h1, h2, h3⟩ := h
  have hx : s.1[d]? = some s.1[d] := List.getElem?_eq_getElem (by rw [h1]; exact hd)
  obtain ⟨a1, a2⟩ := h3 d hd
  cases e : g d with
  | none => exact ⟨_, a1 e, hx, fun f' h => by cases h⟩
  | some f => exact ⟨f, (a2 f e).1, (a2 f e).2, fun f' h => by cases h; rfl⟩

/-- One fact, gone over all days. -/
theorem values_inner {R : Type} (x : GFact) (s : List GFact × List Bool) (g : Nat → Option GFact) (hr : Rep s g) {B : Int → List GFact × List Bool → (List GFact × List Bool → Option R) → Option R}
    (hB : ∀ k20 s18 loop19, B k20 s18 loop19 = jn (fun (p32 : List GFact) (p33 : List Bool) => loop19 (p32, p33)) fun j31 => bd (idx s18.2 k20) fun x34 => gd (decide (k20 < 1024)) <| bdc (!(!x34)) (idx s18.1 k20) fun x36 => gdc (!(!x34)) (decide (k20 < 1024)) <| bdc (!(!x34)) (facts_compare_m x x36) fun x38 => bif bif !x34 then true else decide (0 ≤ x38) then (bd (idx s18.1 k20) fun x39 => gd (decide (k20 < 1024)) <| gd (decide (k20 < 1024)) <| j31 ((s18.1).set (k20).toNat x) ((s18.2).set (k20).toNat true)) else (j31 s18.1 s18.2)) :
    ∃ s', (∀ kk, forN (max 0 x.valid.from_) (min x.valid.to_ 1024) B kk s = kk s') ∧ Rep s' (fun d => better (d : Int) (g d) x) := by
  refine Exists.elim (forN_ex (body := B) (lo := max 0 x.valid.from_) (hi := min x.valid.to_ 1024) (fun i s => Rep s (fun d => if max 0 x.valid.from_ ≤ (d : Int) ∧ (d : Int) < i then better (d : Int) (g d) x else g d)) s (by omega) (by omega) (fun j s hj hj2 hP => ?step) (hr.congr fun d hd => by rw [if_neg (by omega)])) (fun s' h12 => ?main)
  case main =>
    obtain ⟨h1, h2⟩ := h12
    refine ⟨s', h1, h2.congr fun d hd => ?_⟩
    by_cases hin : max 0 x.valid.from_ ≤ (d : Int) ∧ (d : Int) < max (max 0 x.valid.from_) (min x.valid.to_ 1024)
    · rw [if_pos hin]
    · rw [if_neg hin]
      unfold better inR
      have : (decide (x.valid.from_ ≤ (d : Int)) && decide ((d : Int) < x.valid.to_)) = false := by
        rw [Bool.and_eq_false_iff, decide_eq_false_iff_not, decide_eq_false_iff_not]
        omega
      rw [this]; rfl
  case step =>
    obtain ⟨n, rfl⟩ : ∃ n : Nat, j = (n : Int) := ⟨j.toNat, by omega⟩
    have hn : n < 1024 := by omega
    obtain ⟨f, e1, e2, e3⟩ := hP.get hn
    have hg : (if max 0 x.valid.from_ ≤ (n : Int) ∧ (n : Int) < (n : Int) then better (n : Int) (g n) x else g n) = g n := by rw [if_neg (by omega)]
    rw [hg] at e1 e3
    have hin : inR x (n : Int) = true := by
      unfold inR
      simp only [Bool.and_eq_true, decide_eq_true_eq]
      omega
    have hlt : decide ((n : Int) < 1024) = true := decide_eq_true (by omega)
    have fin : ∀ s'' : List GFact × List Bool, Rep s'' (fun d => if d = n then better (n : Int) (g n) x else (if max 0 x.valid.from_ ≤ (d : Int) ∧ (d : Int) < (n : Int) then better (d : Int) (g d) x else g d)) → Rep s'' (fun d => if max 0 x.valid.from_ ≤ (d : Int) ∧ (d : Int) < (n : Int) + 1 then better (d : Int) (g d) x else g d) := fun s'' h => h.congr fun d _ => by
      by_cases e : d = n
      · subst e; rw [if_pos rfl, if_pos (by omega)]
      · rw [if_neg e]
        by_cases e2 : max 0 x.valid.from_ ≤ (d : Int) ∧ (d : Int) < (n : Int)
        · rw [if_pos e2, if_pos (by omega)]
        · rw [if_neg e2, if_neg (by omega)]
    cases hgn : g n with
    | none =>
      rw [hgn] at e1
      refine ⟨(s.1.set n x, s.2.set n true), fun c => ?_, fin _ ?_⟩
      · rw [hB]
        simp only [idx_nat, e1, e2, bd, jn, Option.isSome_none, hlt, gd_true rfl, Bool.not_false, Bool.not_true, bdc, gdc, cond_true, cond_false, Bool.false_and, Int.toNat_natCast]
      · have := hP.set n x
        refine this.congr fun d _ => ?_
        by_cases e : d = n
        · rw [if_pos e, if_pos e]; unfold better; rw [hin, hgn]; rfl
        · rw [if_neg e, if_neg e]
    | some f' =>
      obtain rfl := e3 f' hgn
      rw [hgn] at e1
      obtain ⟨m, c1, c2⟩ := compare_spec x f'
      by_cases hm : 0 ≤ m
      · refine ⟨(s.1.set n x, s.2.set n true), fun c => ?_, fin _ ?_⟩
        · rw [hB]
          simp only [idx_nat, e1, e2, bd, jn, Option.isSome_some, hlt, gd_true rfl, Bool.not_false, Bool.not_true, bdc, gdc, cond_true, cond_false, Bool.and_false, c1, hm, decide_true, Int.toNat_natCast]
        · have := hP.set n x
          refine this.congr fun d _ => ?_
          by_cases e : d = n
          · rw [if_pos e, if_pos e]; unfold better; rw [hin, hgn]; simp only [c2.1 hm]; rfl
          · rw [if_neg e, if_neg e]
      · have hb : befo x f' = true := by
          cases h : befo x f' with
          | true => rfl
          | false => exact absurd (c2.2 h) hm
        refine ⟨s, fun c => ?_, fin _ ?_⟩
        · rw [hB]
          simp only [idx_nat, e1, e2, bd, jn, Option.isSome_some, hlt, gd_true rfl, Bool.not_false, Bool.not_true, bdc, gdc, cond_true, cond_false, Bool.and_false, c1, hm, decide_false]
        · refine hP.congr fun d _ => ?_
          by_cases e : d = n
          · subst e; rw [if_pos rfl, if_neg (by omega)]; unfold better; rw [hin, hgn]; simp only [hb]; rfl
          · rw [if_neg e]
theorem values_last {R : Type} (s : List GFact × List Bool) (g : Nat → Option GFact) (hr : Rep s g) {B : Int → List Int → (List Int → Option R) → Option R}
    (hB : ∀ k44 s42 loop43, B k44 s42 loop43 = jn (fun (p55 : List Int) => loop43 p55) fun j54 => bd (idx s42 k44) fun x56 => gd (decide (k44 < 1024)) <| bd (idx s.2 k44) fun x58 => gd (decide (k44 < 1024)) <| bif x58 then (bd (idx s.1 k44) fun x60 => gd (decide (k44 < 1024)) <| bd (idx ((s42).set (k44).toNat (-1)) k44) fun x62 => gd (decide (k44 < 1024)) <| j54 (((s42).set (k44).toNat (-1)).set (k44).toNat (max x60.value (-1)))) else (j54 ((s42).set (k44).toNat (-1)))) :
    ∃ vs : List Int, (∀ kk, forN 0 1024 B kk (List.replicate 1024 0) = kk vs) ∧ vs.length = 1024 ∧ ∀ d : Nat, d < 1024 → vs[d]? = some (dayV (g d)) := by
  refine Exists.elim (forN_ex (body := B) (lo := 0) (hi := 1024) (fun i vs => vs.length = 1024 ∧ ∀ d : Nat, d < 1024 → (d : Int) < i → vs[d]? = some (dayV (g d))) (List.replicate 1024 (0 : Int)) (by decide) (by decide) (fun j vs hj hj2 hP => ?step) ⟨List.length_replicate, fun d _ h => by omega⟩) (fun vs h12 => ?main)
  case main =>
    obtain ⟨h1, h2, h3⟩ := h12
    exact ⟨vs, h1, h2, fun d hd => h3 d hd (by omega)⟩
  case step =>
    obtain ⟨n, rfl⟩ : ∃ n : Nat, j = (n : Int) := ⟨j.toNat, by omega⟩
    have hn : n < 1024 := by omega
    obtain ⟨hl, hv⟩ := hP
    obtain ⟨f, e1, e2, e3⟩ := hr.get hn
    have hlt : decide ((n : Int) < 1024) = true := decide_eq_true (by omega)
    have hx : vs[n]? = some (vs[n]'(by omega)) := List.getElem?_eq_getElem _
    have hx2 : (vs.set n (-1))[n]? = some (-1) := List.getElem?_set_self (by omega)
    have old : ∀ (us : List Int) (v : Int), (∀ d : Nat, d ≠ n → us[d]? = vs[d]?) → us[n]? = some v → v = dayV (g n) → ∀ d : Nat, d < 1024 → (d : Int) < (n : Int) + 1 → us[d]? = some (dayV (g d)) := fun us v ho hs hd d hd2 hd3 => by
      by_cases e : d = n
      · subst e; rw [hs, hd]
      · rw [ho d e]; exact hv d hd2 (by omega)
    cases hgn : g n with
    | none =>
      rw [hgn] at e1
      refine ⟨vs.set n (-1), fun c => ?_, by rw [List.length_set]; exact hl, old _ (-1) (fun d hd => List.getElem?_set_ne (fun e => hd e.symm)) hx2 (by rw [hgn]; rfl)⟩
      rw [hB]
      simp only [idx_nat, hx, e1, bd, jn, Option.isSome_none, hlt, gd_true rfl, cond_false, Int.toNat_natCast]
    | some f' =>
      obtain rfl := e3 f' hgn
      rw [hgn] at e1
      refine ⟨(vs.set n (-1)).set n (max f'.value (-1)), fun c => ?_, by rw [List.length_set, List.length_set]; exact hl, old _ (max f'.value (-1)) (fun d hd => by rw [List.getElem?_set_ne (fun e => hd e.symm), List.getElem?_set_ne (fun e => hd e.symm)]) (List.getElem?_set_self (by rw [List.length_set]; omega)) (by rw [hgn]; rfl)⟩
      rw [hB]
      simp only [idx_nat, hx, hx2, e1, e2, bd, jn, Option.isSome_some, hlt, gd_true rfl, cond_true, Int.toNat_natCast]
theorem bd_ex {α β : Type} {o : Option α} {x : α} (h : o = some x) {k : α → Option β} {Q : Option β → Prop} (hq : Q (k x)) : Q (bd o k) := by rw [h]; exact hq
theorem values_go {B : Nat → GFact → List GFact × List Bool → (List GFact × List Bool → Option (List Int)) → Option (List Int)} {K : List GFact × List Bool → Option (List Int)}
    (hB : ∀ j x s g, Rep s g → ∃ s', (∀ c, B j x s c = c s') ∧ Rep s' (fun d => better (d : Int) (g d) x))
    (hK : ∀ s g, Rep s g → ∃ vs, K s = some vs ∧ vs.length = 1024 ∧ ∀ d : Nat, d < 1024 → vs[d]? = some (dayV (g d))) (fs : List GFact) :
    ∃ vs, forLg B K 0 fs (List.replicate 1024 (⟨⟨0, 0, 0⟩, 0, ⟨0, 0⟩, 0, 0⟩ : GFact), List.replicate 1024 false) = some vs ∧ vs.length = 1024 ∧ ∀ d : Nat, d < 1024 → vs[d]? = some (dayV (fs.foldl (better (d : Int)) none)) := by
  refine Exists.elim (forLg_ex (body := B) (kk := K) (fun pre s => Rep s (fun d => pre.foldl (better (d : Int)) none)) fs [] 0 (List.replicate 1024 (⟨⟨0, 0, 0⟩, 0, ⟨0, 0⟩, 0, 0⟩ : GFact), List.replicate 1024 false) ?step Rep.start) (fun s' h12 => ?main)
  case main =>
    obtain ⟨h1, h2⟩ := h12
    obtain ⟨vs, e1, e2, e3⟩ := hK s' _ h2
    exact ⟨vs, h1.trans e1, e2, e3⟩
  case step =>
    intro j pre x s _ hP
    obtain ⟨s', g1, g2⟩ := hB j x s _ hP
    exact ⟨s', g1, by simpa [List.foldl_append] using g2⟩
theorem facts_values (fs : List GFact) (k : GKey) (kn : Int) : ∃ vs, facts_values_m fs k kn = some vs ∧ vs.length = 1024 ∧ ∀ d : Nat, d < 1024 → vs[d]? = some (dayV (bestF fs k (d : Int) kn)) := by
  unfold facts_values_m facts_of_m
  refine bd_ex (Q := fun o => ∃ vs : List Int, o = some vs ∧ vs.length = 1024 ∧ ∀ d : Nat, d < 1024 → vs[d]? = some (dayV (bestF fs k (d : Int) kn))) rfl ?_
  refine bd_ex (Q := fun o => ∃ vs : List Int, o = some vs ∧ vs.length = 1024 ∧ ∀ d : Nat, d < 1024 → vs[d]? = some (dayV (bestF fs k (d : Int) kn))) (of_filter fs k kn) ?_
  refine values_go (fun j x s g hr => ?_) (fun s g hr => ?_) (fs.filter (keyR · k kn))
  · obtain ⟨s', g1, g2⟩ := values_inner (R := List Int) x s g hr (fun _ _ _ => rfl)
    exact ⟨s', fun c => g1 _, g2⟩
  · obtain ⟨vs, e1, e2, e3⟩ := values_last (R := List Int) s g hr (fun _ _ _ => rfl)
    exact ⟨vs, (e1 _).trans (gd_true (decide_eq_true e2)), e2, e3⟩

/-! #### Points of one day; what is alike -/
theorem dayV_at (b : Option GFact) : (0 ≤ dayV b ↔ (valF b).2 = true) ∧ (0 ≤ dayV b → dayV b = (valF b).1) := by
  cases b with
  | none => simp [dayV, valF]
  | some f =>
    show (0 ≤ max f.value (-1) ↔ (if f.value < 0 then ((0 : Int), false) else (f.value, true)).2 = true) ∧ (0 ≤ max f.value (-1) → max f.value (-1) = (if f.value < 0 then ((0 : Int), false) else (f.value, true)).1)
    by_cases h : f.value < 0
    · rw [if_pos h, show max f.value (-1) = -1 by omega]; simp
    · rw [if_neg h, show max f.value (-1) = f.value by omega]; simp; omega
/-- What is known of one day. -/
def ptF (fs : List GFact) (k : GKey) (day kn : Int) : List GPoint := bif (atF fs k day kn).2 then [⟨day, (atF fs k day kn).1⟩] else []
theorem points_day (fs : List GFact) (k : GKey) (day kn : Int) (h0 : 0 ≤ day) (h1 : day < 1024) : facts_Points_m fs k day (day + 1) kn = some (ptF fs k day kn) := by
  obtain ⟨vs, e1, e2, e3⟩ := facts_values fs k kn
  unfold facts_Points_m
  rw [bd_some e1, gd_true (decide_eq_true List.length_replicate), gd_true (decide_eq_true e2)]
  rw [show max 0 day = day by omega, show min (day + 1) 1024 = day + 1 by omega]
  unfold forN
  rw [gd_true (by simp only [decide_eq_true_eq]; omega), show (day + 1 - day).toNat = 1 by omega]
  obtain ⟨n, rfl⟩ : ∃ n : Nat, day = (n : Int) := ⟨day.toNat, by omega⟩
  have hv := e3 n (by omega)
  have hd := dayV_at (bestF fs k (n : Int) kn)
  simp only [forNg, jn, idx_nat, hv, bd]
  have hlt : decide ((n : Int) < 1024) = true := decide_eq_true h1
  rw [gd_true hlt]
  unfold ptF atF
  by_cases h : 0 ≤ dayV (bestF fs k (n : Int) kn)
  · rw [hd.1.1 h, ← hd.2 h, decide_eq_true h]
    simp only [cond_true]
    rw [gd_true hlt, gd_true (by simp)]
    rfl
  · have : (valF (bestF fs k (n : Int) kn)).2 = false := by
      cases e : (valF (bestF fs k (n : Int) kn)).2 with
      | false => rfl
      | true => exact absurd (hd.1.2 e) h
    rw [this, decide_eq_false h]
    rfl
theorem GPoint.eqb_iff' (x y : GPoint) : GPoint.eqb x y = true ↔ x = y := by
  cases x; cases y; simp [GPoint.eqb]
theorem equal_points' (xs ys : List GPoint) : slices_Equal_Point_m xs ys = some (decide (xs = ys)) := list_eq GPoint.eqb_iff' xs ys
theorem ptF_at {fs : List GFact} {k : GKey} {day a b : Int} (hr : ∀ kn, (atF fs k day kn).2 = false → (atF fs k day kn).1 = 0) : ptF fs k day a = ptF fs k day b ↔ atF fs k day a = atF fs k day b := by
  unfold ptF
  constructor
  · intro h
    cases e1 : (atF fs k day a).2 <;> cases e2 : (atF fs k day b).2 <;> rw [e1, e2] at h <;> simp only [cond_true, cond_false] at h
    · exact Prod.ext ((hr a e1).trans (hr b e2).symm) (e1.trans e2.symm)
    · cases h
    · cases h
    · simp only [List.cons.injEq, GPoint.mk.injEq, true_and, and_true] at h
      exact Prod.ext h (e1.trans e2.symm)
  · intro h; rw [h]
theorem atF_zero (fs : List GFact) (k : GKey) (day kn : Int) (h : (atF fs k day kn).2 = false) : (atF fs k day kn).1 = 0 := by
  unfold atF at h ⊢
  cases e : bestF fs k day kn with
  | none => rfl
  | some f =>
    rw [e] at h
    simp only [valF] at h ⊢
    by_cases hv : f.value < 0
    · rw [if_pos hv]
    · rw [if_neg hv] at h; cases h
/-- All that was read, each on one day. -/
def dayReads (day : Int) (rs : List GRead) : Prop := ∀ r ∈ rs, r.from_ = day ∧ r.to_ = wr (day + 1)
theorem alike (fs : List GFact) (rs : List GRead) (day a b : Int) (h0 : 0 ≤ day) (h1 : day < 1024) (hr : dayReads day rs) : ∃ v, facts_Alike_m fs rs a b = some v ∧ (v = true ↔ ∀ r ∈ rs, atF fs r.key day a = atF fs r.key day b) := by
  unfold facts_Alike_m
  simp only [forL]
  rw [forLg_any (p := fun r => !decide (ptF fs r.key day a = ptF fs r.key day b)) (r := some false) 0 (fun k x c hx => ?_)]
  · cases e : rs.any (fun r => !decide (ptF fs r.key day a = ptF fs r.key day b)) with
    | true =>
      refine ⟨false, rfl, ⟨fun h => (by cases h), fun h => ?_⟩⟩
      obtain ⟨r, hr1, hr2⟩ := List.any_eq_true.1 e
      simp only [Bool.not_eq_true', decide_eq_false_iff_not] at hr2
      exact absurd ((ptF_at (fun kn => atF_zero fs r.key day kn)).2 (h r hr1)) hr2
    | false =>
      refine ⟨true, rfl, ⟨fun _ r hr1 => ?_, fun _ => rfl⟩⟩
      have := List.any_eq_false.1 e r hr1
      simp only [Bool.not_eq_true, Bool.not_eq_false', decide_eq_true_eq] at this
      exact (ptF_at (fun kn => atF_zero fs r.key day kn)).1 this
  · obtain ⟨e1, e2⟩ := hr x hx
    rw [e1, e2, wr_id (by omega) (by omega), points_day _ _ _ _ h0 h1, points_day _ _ _ _ h0 h1]
    simp only [bd, equal_points']
end Bf
