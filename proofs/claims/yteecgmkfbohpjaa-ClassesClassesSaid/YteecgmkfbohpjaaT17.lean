import Derived.Test.YteecgmkfbohpjaaT16
import Derived.IntWalk
namespace Bf
open Go Go.RowKit Go.Proofs
attribute [local irreducible] Quiet Effect RunS Ev PureC Shift RunQ HasF SameF

theorem rng_get {α : Type} (g : Nat → α) {n i : Nat} (h : i < n) : ((List.range n).map g)[i]? = some (g i) := by simp [h]
theorem rng_set {α : Type} (g : Nat → α) (n i : Nat) (v : α) : ((List.range n).map g).set i v = (List.range n).map (fun d => if d = i then v else g d) := by
  apply List.ext_getElem?
  intro j
  rw [List.getElem?_set]
  by_cases e : i = j
  · subst e
    by_cases h : i < n <;> simp [h]
  · have e' : ¬ j = i := fun h => e h.symm
    by_cases h : j < n <;> simp [e, e', h]
theorem rng_const {α : Type} (n : Nat) (v : α) : List.replicate n v = (List.range n).map (fun _ => v) := by
  apply List.ext_getElem?
  intro j
  by_cases h : j < n <;> simp [h]
/-- What is known best on a day, behind one fact more. -/
def stepD (day : Int) (f : Fact) (b : Option Fact) : Option Fact := bif f.on day && (match b with | none => true | some g => decide (f.cmp g ≥ 0)) then some f else b
theorem atStep_cons (day : Int) (f : Fact) (fs : List Fact) (b : Option Fact) : atStep day (f :: fs) b = atStep day fs (stepD day f b) := rfl
def dayV (l : List Fact) (k : Key) (known : Int) (d : Nat) : Int := match atStep d (l.filter (Fact.hit k known)) none with | none => -1 | some f => max f.value (-1)
def rowV1 (l : List Fact) (k : Key) (known : Int) : List Int := (List.range 1024).map (dayV l k known)
def zeroF : Fact := ⟨⟨0, 0, 0⟩, 0, 0, 0, 0, 0⟩
def bestE (s : Nat → Option Fact) : List V := (List.range 1024).map fun d => ((s d).getD zeroF).enc
def someE (s : Nat → Option Fact) : List V := (List.range 1024).map fun d => vb (s d).isSome
theorem st_row (g : Nat → Int) : ∀ x ∈ (List.range 1024).map (fun d => vi (g d)), x.isSt = false := by simp [V.isSt]

theorem best0 {v : V} {t : Nat} (h : v = zeroF.enc) : Blk.sl true t 8 (List.replicate 1024 v) = Blk.sl true t 8 (bestE fun _ => none) := by subst h; unfold bestE; exact congrArg (Blk.sl true t 8) (rng_const 1024 _)
theorem some0 {v : V} {t : Nat} (h : v = vb false) : Blk.sl true t 1 (List.replicate 1024 v) = Blk.sl true t 1 (someE fun _ => none) := by subst h; unfold someE; exact congrArg (Blk.sl true t 1) (rng_const 1024 _)
theorem row0 {v : V} {t : Nat} (h : v = vi 0) (g : Nat → Int) : Blk.sl true t 1 (List.replicate 1024 v) = Blk.sl true t 1 ((List.range 1024).map fun d => vi (if d < 0 then g d else 0)) := by subst h; exact congrArg (Blk.sl true t 1) (rng_const 1024 _)
theorem best_set {t : Nat} {a b : Nat → Option Fact} {i : Nat} {j : Int} {x : Fact} {v : V} (hj : j.toNat = i) (hv : v = x.enc) (hb : ∀ d, b d = if d = i then some x else a d) : Blk.sl true t 8 ((bestE a).set j.toNat v) = Blk.sl true t 8 (bestE b) := by
  refine congrArg (Blk.sl true t 8) ?_
  unfold bestE
  rw [hj, hv, rng_set]
  refine List.map_congr_left fun d _ => ?_
  rw [hb d]; split <;> rfl
theorem some_set {t : Nat} {a b : Nat → Option Fact} {i : Nat} {j : Int} {x : Fact} {v : V} (hj : j.toNat = i) (hv : v = vb true) (hb : ∀ d, b d = if d = i then some x else a d) : Blk.sl true t 1 ((someE a).set j.toNat v) = Blk.sl true t 1 (someE b) := by
  refine congrArg (Blk.sl true t 1) ?_
  unfold someE
  rw [hj, hv, rng_set]
  refine List.map_congr_left fun d _ => ?_
  rw [hb d]; split <;> rfl

theorem someE_get {a : Nat → Option Fact} {i : Nat} (h : i < 1024) : (someE a)[i]? = some (vb (a i).isSome) := by unfold someE; exact rng_get (fun d => vb (a d).isSome) h
theorem bestE_get {a : Nat → Option Fact} {i : Nat} (h : i < 1024) : (bestE a)[i]? = some ((a i).getD zeroF).enc := by unfold bestE; exact rng_get (fun d => ((a d).getD zeroF).enc) h
theorem stepD_yes {day : Int} {f : Fact} {b : Option Fact} (h : f.on day = true) (hb : b.isSome = false ∨ decide (0 ≤ f.cmp (b.getD zeroF)) = true) : stepD day f b = some f := by
  unfold stepD
  rw [h]
  cases b with
  | none => rfl
  | some g =>
    rcases hb with hb | hb
    · cases hb
    · have : 0 ≤ f.cmp g := by simpa using hb
      simp [this]
theorem stepD_no {day : Int} {f : Fact} {b : Option Fact} (hb : b.isSome = true) (hg : decide (0 ≤ f.cmp (b.getD zeroF)) = false) : stepD day f b = b := by
  unfold stepD
  cases b with
  | none => cases hb
  | some g =>
    have : ¬ 0 ≤ f.cmp g := by simpa using hg
    simp [this]
theorem stepD_off {day : Int} {f : Fact} {b : Option Fact} (h : f.on day = false) : stepD day f b = b := by simp [stepD, h]
def rowJ (g : Nat → Int) : List V := (List.range 1024).map fun d => vi (g d)
theorem rowJ_get {g : Nat → Int} {i : Nat} (h : i < 1024) : (rowJ g)[i]? = some (vi (g i)) := rng_get (fun d => vi (g d)) h
theorem rowJ_len (g : Nat → Int) : (rowJ g).length = 1024 := by simp [rowJ]
theorem rowJ_set (g : Nat → Int) (i : Nat) (v : Int) : (rowJ g).set i (vi v) = rowJ fun d => if d = i then v else g d := by
  unfold rowJ
  rw [rng_set]
  refine List.map_congr_left fun d _ => ?_
  by_cases e : d = i <;> simp [e]
theorem rowJ_zero {v : V} {t : Nat} (h : v = vi 0) (g : Nat → Int) : Blk.sl true t 1 (List.replicate 1024 v) = Blk.sl true t 1 (rowJ fun d => if d < 0 then g d else 0) := by
  subst h
  refine congrArg (Blk.sl true t 1) ((rng_const 1024 _).trans ?_)
  unfold rowJ
  exact List.map_congr_left fun d _ => by simp
theorem rowJ_next {t : Nat} {g : Nat → Int} {j : Nat} {i : Int} {v : V} (hi : i.toNat = j) (hv : v = vi (g j)) : Blk.sl true t 1 ((rowJ fun d => if d < j then g d else 0).set i.toNat v) = Blk.sl true t 1 (rowJ fun d => if d < j + 1 then g d else 0) := by
  refine congrArg (Blk.sl true t 1) ?_
  rw [hi, hv, rowJ_set]
  refine List.map_congr_left fun d _ => ?_
  dsimp only
  by_cases e : d = j
  · subst e; simp
  · rw [if_neg e]
    by_cases e2 : d < j
    · rw [if_pos e2, if_pos (by omega)]
    · rw [if_neg e2, if_neg (by omega)]
theorem rowJ_next2 {t : Nat} {g : Nat → Int} {j : Nat} {i : Int} {v u : V} (hi : i.toNat = j) (hv : v = vi (g j)) : Blk.sl true t 1 (((rowJ fun d => if d < j then g d else 0).set i.toNat u).set i.toNat v) = Blk.sl true t 1 (rowJ fun d => if d < j + 1 then g d else 0) := by
  rw [List.set_set]
  exact rowJ_next hi hv
theorem rowJ_st (g : Nat → Int) : ∀ x ∈ rowJ g, x.isSt = false := by simp [rowJ, V.isSt]
theorem rowJ_pl (g : Nat → Int) : ∀ x ∈ rowJ g, x.isSt = false ∧ x.plain = true := by simp [rowJ, V.isSt, V.plain]
theorem rowJ_ext {g g' : Nat → Int} (h : ∀ d, d < 1024 → g d = g' d) : rowJ g = rowJ g' := List.map_congr_left fun d hd => by rw [h d (by simpa using hd)]
theorem retm_a {P : Program} {t ty z k ty' : Nat} {xs ys : List V} {σ : St} {hp' : Nat → Option Blk} (hu : Unmark σ.hp σ.df hp') (ha : isAggB P ty true = true) (hz : hasSize P ty z = true) (h : σ.fr t = some (.p k 0)) (hk : hp' k = some (.sl true ty' 1 xs)) (hl : xs.length = z) (ho : ∀ x ∈ xs, x.isSt = false) (hx : xs = ys) :
    RetQ P [.cell t ty] true (.st ys) .ret σ := by
  subst hx
  exact ⟨.inl rfl, hp', hu, [_], rfl, .cons (.cellA ha hz h hk hl ho (fun _ => rfl)) .nil⟩
attribute [local irreducible] bestE someE rowJ
set_option maxRecDepth 20000 in
theorem values_c (l : List Fact) (k : Key) (known : Int) : PureC Try.prog true 63 [.l 8 (l.map Fact.enc), k.enc, vi known] (.st ((rowV1 l k known).map vi)) := by
  refine pure_intro (N := 63) Try.func63 rfl rfl rfl rfl fun C hO => ?_
  repeat' (first | (refine run_shift (shift_freeze 4 (hO _) rfl rfl rfl) ?_) | (show RunS _ _ _ _ _ _ _; first | refine wq (h := ?_) | refine wc (of_c _ _ _) (h := ?_) | refine wca (of_c _ _ _) (h := ?_) | refine we (h := ?_) | refine ws (h := ?_) | refine rg rfl rfl (fun _ => ?_) (fun _ => ?_)) | (show RunQ _ _ _ _ _ _; first | refine wqb (ht := ?_) (hf := ?_) | refine wqbc (of_c _ _ _) (ht := ?_) (hff := ?_) | refine wqq (h := ?_) | refine wqc (of_c _ _ _) (h := ?_) | refine wqca (of_c _ _ _) (h := ?_) | refine wqs (h := ?_)) | refine ev_seq ?_ | refine ev_region ?_ | refine ev_draw (by kernel_rfl) (by kernel_rfl) ?_ | refine qn ?_ | refine run_nil ?_ | refine ev_block ?_ | refine ev_skip ?_ | refine ev_exit ?_ | refine ev_ret ?_ | refine ev_condt rfl ?_ | refine ev_condf rfl ?_ | refine ev_cond rfl (fun _ => ?_) (fun _ => ?_) | (intro h; exfalso; simp at h; done) | (intro _))
  refine ev_rangeA (α := Nat → Option Fact) rfl inferInstance (of1_c l k known) 1000 1001 [6, 7, 8] rfl (by decide) (fun n args h => ?_)
    (fun n s => ∀ d : Nat, d < 1024 → atStep d (l.filter (Fact.hit k known)) none = atStep d ((l.filter (Fact.hit k known)).drop n) (s d))
    [6] (fun n s => [(7, .sl true 121 8 (bestE s)), (8, .sl true 122 1 (someE s))]) (fun _ => none) (fun _ _ => rfl) (fun _ _ => rfl) (fun dk ly L => ?_) (fun dk ly L n s args val is hN he hI hcl => ?_) (fun dk ly L s hI => ?_)
  · simp only [ofEls, List.getElem?_map, Option.map_eq_some_iff] at h
    obtain ⟨x, _, rfl⟩ := h
    rfl
  · refine at_le ?_ ?_ ?_ ?_ rfl rfl <;> repeat (first | refine same1 rfl ?_ | refine has1 rfl rfl ?_ | refine has1 rfl (best0 rfl) ?_ | refine has1 rfl (some0 rfl) ?_ | exact has0 | exact same0)
  · clear hcl
    simp only [ofEls, List.getElem?_map, Option.map_eq_some_iff] at he
    obtain ⟨f, hx, rfl⟩ := he
    rw [List.drop_eq_getElem_cons (List.getElem?_eq_some_iff.1 hx).1, (List.getElem?_eq_some_iff.1 hx).2] at hI
    simp only [atStep_cons] at hI
    repeat' (first | (show RunS _ _ _ _ _ _ _; first | refine wq (h := ?_) | refine we (h := ?_) | refine ws (h := ?_) | refine rg rfl rfl (fun _ => ?_) (fun _ => ?_)) | (show RunQ _ _ _ _ _ _; first | refine wqb (ht := ?_) (hf := ?_) | refine wqq (h := ?_) | refine wqs (h := ?_)) | refine ev_seq ?_ | refine ev_region ?_ | refine ev_draw (by kernel_rfl) (by kernel_rfl) ?_ | refine qn ?_ | refine run_nil ?_ | refine ev_block ?_ | refine ev_skip ?_ | refine ev_exit ?_ | refine ev_ret ?_ | refine ev_condt rfl ?_ | refine ev_condf rfl ?_ | refine ev_cond rfl (fun _ => ?_) (fun _ => ?_) | (intro h; exfalso; simp at h; done) | (intro _))
    refine ⟨rfl, ?_⟩
    repeat' (first | (show RunS _ _ _ _ _ _ _; first | refine wq (h := ?_) | refine we (h := ?_) | refine ws (h := ?_) | refine rg rfl rfl (fun _ => ?_) (fun _ => ?_)) | (show RunQ _ _ _ _ _ _; first | refine wqb (ht := ?_) (hf := ?_) | refine wqq (h := ?_) | refine wqs (h := ?_)) | refine ev_seq ?_ | refine ev_region ?_ | refine ev_draw (by kernel_rfl) (by kernel_rfl) ?_ | refine qn ?_ | refine run_nil ?_ | refine ev_block ?_ | refine ev_skip ?_ | refine ev_exit ?_ | refine ev_ret ?_ | refine ev_condt rfl ?_ | refine ev_condf rfl ?_ | refine ev_cond rfl (fun _ => ?_) (fun _ => ?_) | (intro h; exfalso; simp at h; done) | (intro _))
    generalize hd0 : (max 0 f.from_).toNat = d0
    have hd0' : max 0 f.from_ = (d0 : Int) := by omega
    refine ev_forA (α := Nat → Option Fact) (1024 - d0) (fun j a => ∀ d, d < 1024 → a d = if d < d0 + j then stepD d f (s d) else s d) [6, 7, 8, 9] (fun j a => [(10, .v true (.i .i64 ((d0 + j : Nat) : Int)))]) [6, 9, 1000, 1001]
      (fun j a => [(7, .sl true 121 8 (bestE a)), (8, .sl true 122 1 (someE a))]) s (fun d _ => ?_) ?_ fun j a hj hJ => ?_
    · split
      · have : f.on (d : Int) = false := by simp only [Fact.on, Bool.and_eq_false_iff, decide_eq_false_iff_not]; omega
        simp [stepD, this]
      · rfl
    · (refine at_shift ?_ ?_ ?_ ?_ rfl rfl <;> repeat (first | refine same1 rfl ?_ | refine has1 rfl rfl ?_ | refine has1 rfl (by simp [normD, hd0']) ?_ | exact has0 | exact same0))
    refine ev_seq ?_
    repeat (first | (show RunS _ _ _ _ _ _ _; first | refine wq (h := ?_) | refine we (h := ?_) | refine ws (h := ?_)) | (show RunQ _ _ _ _ _ _; first | refine wqb (ht := ?_) (hf := ?_) | refine wqq (h := ?_) | refine wqs (h := ?_)) | refine ev_seq ?_ | refine ev_region ?_ | refine ev_draw (by kernel_rfl) (by kernel_rfl) ?_ | refine qn ?_ | refine run_nil ?_ | refine ev_block ?_ | refine ev_skip ?_ | refine ev_exit ?_ | refine ev_ret ?_)
    refine ev_cond rfl (fun hc => ?_) (fun hc => ?_)
    · have hlt : ((d0 + j : Nat) : Int) < f.to ∧ d0 + j < 1024 := by have := of_decide_eq_true hc; omega
      have g0 : (0 : Int) ≤ ((d0 + j : Nat) : Int) := by omega
      have g1 : ((d0 + j : Nat) : Int) < ((1024 : Nat) : Int) := by omega
      have g2 : (someE a)[(((d0 + j : Nat) : Int)).toNat]? = some (vb (a (d0 + j)).isSome) := by rw [Int.toNat_natCast]; exact someE_get hlt.2
      have g3 : (bestE a)[(((d0 + j : Nat) : Int)).toNat]? = some ((a (d0 + j)).getD zeroF).enc := by rw [Int.toNat_natCast]; exact bestE_get hlt.2
      have hon : f.on ((d0 + j : Nat) : Int) = true := by simp only [Fact.on, Bool.and_eq_true, decide_eq_true_eq]; omega
      have ha0 : a (d0 + j) = s (d0 + j) := by rw [hJ _ hlt.2, if_neg (by omega)]
      have hw : IntKind.i64.wrap (((d0 + j : Nat) : Int) + 1) = ((d0 + (j + 1) : Nat) : Int) := by rw [IntWalk.i64_in _ (by omega)]; omega
      repeat' (first | (show RunS _ _ _ _ _ _ _; first | refine wq (h := ?_) | refine wc (compare_c _ _) (h := ?_) | refine wca (compare_c _ _) (h := ?_) | refine we (h := ?_) | refine ws (h := ?_) | refine rg rfl rfl (fun _ => ?_) (fun _ => ?_)) | (show RunQ _ _ _ _ _ _; first | refine wqb (ht := ?_) (hf := ?_) | refine wqbc (compare_c _ _) (ht := ?_) (hff := ?_) | refine wqq (h := ?_) | refine wqc (compare_c _ _) (h := ?_) | refine wqca (compare_c _ _) (h := ?_) | refine wqs (h := ?_)) | refine ev_seq ?_ | refine ev_region ?_ | refine ev_draw (by kernel_rfl) (by kernel_rfl) ?_ | refine qn ?_ | refine run_nil ?_ | refine ev_block ?_ | refine ev_skip ?_ | refine ev_exit ?_ | refine ev_ret ?_ | refine ev_condt rfl ?_ | refine ev_condf rfl ?_ | refine ev_cond rfl (fun _ => ?_) (fun _ => ?_) | (intro h; exfalso; simp at h; done) | (intro _))
      · rename_i h
        refine ⟨fun d => if d = d0 + j then some f else a d, by omega, fun d hd => ?_, ?_⟩
        · by_cases e : d = d0 + j
          · subst e
            dsimp only
            rw [if_pos rfl, if_pos (by omega), ← ha0, stepD_yes hon (.inl (by simpa using h))]
          · dsimp only
            rw [if_neg e, hJ d hd]
            by_cases e2 : d < d0 + j
            · rw [if_pos e2, if_pos (by omega)]
            · rw [if_neg e2, if_neg (by omega)]
        · (refine at_shift ?_ ?_ ?_ ?_ rfl rfl <;> repeat (first | refine same1 rfl ?_ | refine has1 rfl rfl ?_ | refine has1 rfl (by first | (exact congrArg (fun z => D.v true (V.i .i64 z)) hw) | (exact best_set (x := f) (Int.toNat_natCast _) rfl (fun d => rfl)) | (exact some_set (x := f) (Int.toNat_natCast _) rfl (fun d => rfl))) ?_ | exact has0 | exact same0))
      · rename_i h
        refine ⟨fun d => if d = d0 + j then some f else a d, by omega, fun d hd => ?_, ?_⟩
        · by_cases e : d = d0 + j
          · subst e
            dsimp only
            rw [if_pos rfl, if_pos (by omega), ← ha0, stepD_yes hon (.inr h)]
          · dsimp only
            rw [if_neg e, hJ d hd]
            by_cases e2 : d < d0 + j
            · rw [if_pos e2, if_pos (by omega)]
            · rw [if_neg e2, if_neg (by omega)]
        · (refine at_shift ?_ ?_ ?_ ?_ rfl rfl <;> repeat (first | refine same1 rfl ?_ | refine has1 rfl rfl ?_ | refine has1 rfl (by first | (exact congrArg (fun z => D.v true (V.i .i64 z)) hw) | (exact best_set (x := f) (Int.toNat_natCast _) rfl (fun d => rfl)) | (exact some_set (x := f) (Int.toNat_natCast _) rfl (fun d => rfl))) ?_ | exact has0 | exact same0))
      · rename_i h2 h
        refine ⟨a, by omega, fun d hd => ?_, ?_⟩
        · by_cases e : d = d0 + j
          · subst e
            rw [if_pos (by omega), ← ha0, stepD_no (by simpa using h2) h]
          · rw [hJ d hd]
            by_cases e2 : d < d0 + j
            · rw [if_pos e2, if_pos (by omega)]
            · rw [if_neg e2, if_neg (by omega)]
        · (refine at_shift ?_ ?_ ?_ ?_ rfl rfl <;> repeat (first | refine same1 rfl ?_ | refine has1 rfl rfl ?_ | refine has1 rfl (by exact congrArg (fun z => D.v true (V.i .i64 z)) hw) ?_ | exact has0 | exact same0))
    · have hge : ¬ ((d0 + j : Nat) : Int) < min f.to 1024 := of_decide_eq_false hc
      repeat' (first | (show RunS _ _ _ _ _ _ _; first | refine wq (h := ?_) | refine we (h := ?_) | refine ws (h := ?_) | refine rg rfl rfl (fun _ => ?_) (fun _ => ?_)) | (show RunQ _ _ _ _ _ _; first | refine wqb (ht := ?_) (hf := ?_) | refine wqq (h := ?_) | refine wqs (h := ?_)) | refine ev_seq ?_ | refine ev_region ?_ | refine ev_draw (by kernel_rfl) (by kernel_rfl) ?_ | refine qn ?_ | refine run_nil ?_ | refine ev_block ?_ | refine ev_skip ?_ | refine ev_exit ?_ | refine ev_ret ?_ | refine ev_condt rfl ?_ | refine ev_condf rfl ?_ | refine ev_cond rfl (fun _ => ?_) (fun _ => ?_) | (intro h; exfalso; simp at h; done) | (intro _))
      refine ⟨rfl, _, ⟨a, fun d hd => ?_, rfl⟩, ?_⟩
      · rw [hI d hd, hJ d hd]
        by_cases e2 : d < d0 + j
        · rw [if_pos e2]
        · rw [if_neg e2, stepD_off (by simp only [Fact.on, Bool.and_eq_false_iff, decide_eq_false_iff_not]; omega)]
      · (refine at_cov ?_ ?_ ?_ rfl <;> repeat (first | refine same1 rfl ?_ | refine has1 rfl rfl ?_ | refine has1 rfl (by simp [*]) ?_ | exact has0 | exact same0))
  · have hfin : ∀ d, d < 1024 → dayV l k known d = match s d with | none => -1 | some f => max f.value (-1) := fun d hd => by
      unfold dayV
      rw [hI d hd]
      simp [ofEls, atStep]
    repeat' (first | (show RunS _ _ _ _ _ _ _; first | refine wq (h := ?_) | refine we (h := ?_) | refine ws (h := ?_) | refine rg rfl rfl (fun _ => ?_) (fun _ => ?_)) | (show RunQ _ _ _ _ _ _; first | refine wqb (ht := ?_) (hf := ?_) | refine wqq (h := ?_) | refine wqs (h := ?_)) | refine ev_seq ?_ | refine ev_region ?_ | refine ev_draw (by kernel_rfl) (by kernel_rfl) ?_ | refine qn ?_ | refine run_nil ?_ | refine ev_block ?_ | refine ev_skip ?_ | refine ev_exit ?_ | refine ev_ret ?_ | refine ev_condt rfl ?_ | refine ev_condf rfl ?_ | refine ev_cond rfl (fun _ => ?_) (fun _ => ?_) | (intro h; exfalso; simp at h; done) | (intro _))
    refine ev_forP 1024 (fun _ => True) [6, 7, 8] (fun j => [(46, .v true (.i .i64 (cN j)))]) [1000] (fun j => [(7, .sl true 121 8 (bestE s)), (8, .sl true 122 1 (someE s)), (6, .sl true 115 1 (rowJ fun d => if d < j then dayV l k known d else 0))]) trivial ?_ fun j hj _ => ?_
    · (refine at_shift ?_ ?_ ?_ ?_ rfl rfl <;> repeat (first | refine same1 rfl ?_ | refine has1 rfl rfl ?_ | refine has1 rfl (by exact rowJ_zero rfl _) ?_ | exact has0 | exact same0))
    have hcn := cN_eq (k := j) (by unfold maxLen; omega)
    refine ev_seq ?_
    repeat (first | (show RunS _ _ _ _ _ _ _; first | refine wq (h := ?_) | refine we (h := ?_) | refine ws (h := ?_)) | (show RunQ _ _ _ _ _ _; first | refine wqb (ht := ?_) (hf := ?_) | refine wqq (h := ?_) | refine wqs (h := ?_)) | refine ev_seq ?_ | refine ev_region ?_ | refine ev_draw (by kernel_rfl) (by kernel_rfl) ?_ | refine qn ?_ | refine run_nil ?_ | refine ev_block ?_ | refine ev_skip ?_ | refine ev_exit ?_ | refine ev_ret ?_)
    refine ev_cond rfl (fun hc => ?_) (fun hc => ?_)
    · have hlt : j < 1024 := by have := of_decide_eq_true hc; omega
      have g0 : (0 : Int) ≤ cN j := by omega
      have g1 : cN j < ((1024 : Nat) : Int) := by omega
      have g2 : (someE s)[(cN j).toNat]? = some (vb (s j).isSome) := by rw [hcn, Int.toNat_natCast]; exact someE_get hlt
      have g3 : (bestE s)[(cN j).toNat]? = some ((s j).getD zeroF).enc := by rw [hcn, Int.toNat_natCast]; exact bestE_get hlt
      have g4 : (rowJ fun d => if d < j then dayV l k known d else 0)[(cN j).toNat]? = some (vi 0) := by rw [hcn, Int.toNat_natCast, rowJ_get hlt, if_neg (by omega)]
      have g5 : ((rowJ fun d => if d < j then dayV l k known d else 0).set (cN j).toNat (vi (-1)))[(cN j).toNat]? = some (vi (-1)) := by rw [List.getElem?_set_self (by rw [rowJ_len]; omega)]
      have hfj := hfin j hlt
      cases hs : s j with
      | none =>
        rw [hs] at g2 g3 hfj
        repeat' (first | (show RunS _ _ _ _ _ _ _; first | refine wq (h := ?_) | refine we (h := ?_) | refine ws (h := ?_) | refine rg rfl rfl (fun _ => ?_) (fun _ => ?_)) | (show RunQ _ _ _ _ _ _; first | refine wqb (ht := ?_) (hf := ?_) | refine wqq (h := ?_) | refine wqs (h := ?_)) | refine ev_seq ?_ | refine ev_region ?_ | refine ev_draw (by kernel_rfl) (by kernel_rfl) ?_ | refine qn ?_ | refine run_nil ?_ | refine ev_block ?_ | refine ev_skip ?_ | refine ev_exit ?_ | refine ev_ret ?_ | refine ev_condt rfl ?_ | refine ev_condf rfl ?_ | refine ev_cond rfl (fun _ => ?_) (fun _ => ?_) | (intro h; exfalso; simp at h; done) | (intro _))
        exact ⟨hlt, trivial, by (refine at_shift ?_ ?_ ?_ ?_ rfl rfl <;> repeat (first | refine same1 rfl ?_ | refine has1 rfl rfl ?_ | refine has1 rfl (by first | (exact rowJ_next (by omega) (congrArg vi hfj.symm))) ?_ | exact has0 | exact same0))⟩
      | some f =>
        rw [hs] at g2 g3 hfj
        repeat' (first | (show RunS _ _ _ _ _ _ _; first | refine wq (h := ?_) | refine we (h := ?_) | refine ws (h := ?_) | refine rg rfl rfl (fun _ => ?_) (fun _ => ?_)) | (show RunQ _ _ _ _ _ _; first | refine wqb (ht := ?_) (hf := ?_) | refine wqq (h := ?_) | refine wqs (h := ?_)) | refine ev_seq ?_ | refine ev_region ?_ | refine ev_draw (by kernel_rfl) (by kernel_rfl) ?_ | refine qn ?_ | refine run_nil ?_ | refine ev_block ?_ | refine ev_skip ?_ | refine ev_exit ?_ | refine ev_ret ?_ | refine ev_condt rfl ?_ | refine ev_condf rfl ?_ | refine ev_cond rfl (fun _ => ?_) (fun _ => ?_) | (intro h; exfalso; simp at h; done) | (intro _))
        exact ⟨hlt, trivial, by (refine at_shift ?_ ?_ ?_ ?_ rfl rfl <;> repeat (first | refine same1 rfl ?_ | refine has1 rfl rfl ?_ | refine has1 rfl (by first | (exact rowJ_next2 (by omega) (congrArg vi hfj.symm))) ?_ | exact has0 | exact same0))⟩
    · have hje : j = 1024 := by have := of_decide_eq_false hc; omega
      have g0 := rowJ_len fun d => if d < j then dayV l k known d else 0
      have g1 := rowJ_st fun d => if d < j then dayV l k known d else 0
      have g2 := rowJ_pl fun d => if d < j then dayV l k known d else 0
      repeat' (first | (show RunS _ _ _ _ _ _ _; first | refine wq (h := ?_) | refine we (h := ?_) | refine ws (h := ?_) | refine rg rfl rfl (fun _ => ?_) (fun _ => ?_)) | (show RunQ _ _ _ _ _ _; first | refine wqb (ht := ?_) (hf := ?_) | refine wqq (h := ?_) | refine wqs (h := ?_)) | refine ev_seq ?_ | refine ev_region ?_ | refine ev_draw (by kernel_rfl) (by kernel_rfl) ?_ | refine qn ?_ | refine run_nil ?_ | refine ev_block ?_ | refine ev_skip ?_ | refine ev_exit ?_ | refine ev_ret ?_ | refine ev_condt rfl ?_ | refine ev_condf rfl ?_ | refine ev_cond rfl (fun _ => ?_) (fun _ => ?_) | (intro h; exfalso; simp at h; done) | (intro _))
      refine retm_a (.cons 1000 dk rfl (.nil _)) TAgg.h TSz.h rfl rfl g0 g1 ?_
      rw [rowJ_ext (g' := dayV l k known) (fun d hd => if_pos (by omega))]
      simp [rowV1, rowJ]
end Bf
