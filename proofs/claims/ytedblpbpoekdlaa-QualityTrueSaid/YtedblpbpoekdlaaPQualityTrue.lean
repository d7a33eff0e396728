/- Plain law: QualityTrue's model is true of all arguments. -/
import Derived.Test.YtedblpbpoekdlaaQD
namespace Bf
open Go Go.RowKit Go.Proofs
theorem pre_snoc {α : Type} [DecidableEq α] [Inhabited α] (p l : List α) (x : α) : decide (p ++ [x] <+: l) = (decide (p <+: l) && decide (p.length < l.length) && decide ((l[p.length]?.getD default) = x)) := by
  by_cases h : p <+: l
  · obtain ⟨t, rfl⟩ := h
    cases t with
    | nil =>
      have h1 : ¬ p ++ [x] <+: p ++ [] := fun h => by have := h.length_le; simp only [List.length_append, List.length_cons, List.length_nil] at this; omega
      rw [show decide (p ++ [x] <+: p ++ []) = false from decide_eq_false h1]
      simp
    | cons y t =>
      by_cases hxy : y = x
      · subst hxy
        have h1 : p ++ [y] <+: p ++ y :: t := ⟨t, by simp⟩
        rw [show decide (p ++ [y] <+: p ++ y :: t) = true from decide_eq_true h1]
        simp
      · have h1 : ¬ p ++ [x] <+: p ++ y :: t := fun ⟨u, hu⟩ => by
          rw [List.append_assoc] at hu
          have := List.append_cancel_left hu
          simp at this
          exact hxy this.1.symm
        rw [show decide (p ++ [x] <+: p ++ y :: t) = false from decide_eq_false h1]
        simp [hxy]
  · have h1 : ¬ p ++ [x] <+: l := fun h2 => h ((List.prefix_append p [x]).trans h2)
    rw [show decide (p ++ [x] <+: l) = false from decide_eq_false h1, show decide (p <+: l) = false from decide_eq_false h]
    simp
theorem pre_full {α : Type} [DecidableEq α] (p l : List α) : (decide (p <+: l) && decide (p.length = l.length)) = decide (p = l) := by
  rw [Bool.eq_iff_iff]
  simp only [Bool.and_eq_true, decide_eq_true_eq]
  constructor
  · rintro ⟨h1, h2⟩; exact h1.eq_of_length h2
  · rintro rfl; exact ⟨List.prefix_refl _, rfl⟩
def resOk (fs : List GFact) (lot day kn : Int) (x : GSpec) : Bool := (atF fs ⟨8, lot, x.test⟩ day kn).2 && decide (0 ≤ (atF fs ⟨8, lot, x.test⟩ day kn).1)
def stepT (fs : List GFact) (lot day kn : Int) (cs : List GPoint) (s : List GPoint × Bool) (x : GSpec) : List GPoint × Bool :=
  bif resOk fs lot day kn x then (s.1 ++ [⟨x.test, (atF fs ⟨8, lot, x.test⟩ day kn).1⟩], s.2 && decide (x.lo ≤ (atF fs ⟨8, lot, x.test⟩ day kn).1) && decide ((atF fs ⟨8, lot, x.test⟩ day kn).1 ≤ x.hi)) else (s.1, false)
theorem stepC_T {fs : List GFact} {lot day kn : Int} (h0 : 0 ≤ day) (h1 : day < 1024) (cs : List GPoint) : ∀ (l : List GSpec) (s : CS), ((l.foldl (stepC fs lot day kn) s).2.2, (l.foldl (stepC fs lot day kn) s).2.1) = l.foldl (stepT fs lot day kn cs) (s.2.2, s.2.1)
  | [], _ => rfl
  | x :: l, s => by
    rw [List.foldl_cons, List.foldl_cons, stepC_T h0 h1 cs l]
    congr 1
    have hr := resF_at (fs := fs) (lot := lot) (test := x.test) (kn := kn) h0 h1 x.lo x.hi
    have h2 : (resF fs lot x.test day kn).2.2 = resOk fs lot day kn x ∧ (resOk fs lot day kn x = true → (resF fs lot x.test day kn).1 = (atF fs ⟨8, lot, x.test⟩ day kn).1) := by
      unfold resF resOk
      simp only [h0, h1, decide_true, Bool.and_true, Bool.not_true, cond_false]
      cases h2 : (atF fs ⟨8, lot, x.test⟩ day kn).2
      · simp
      · by_cases h3 : (atF fs ⟨8, lot, x.test⟩ day kn).1 < 0
        · have : ¬ 0 ≤ (atF fs ⟨8, lot, x.test⟩ day kn).1 := by omega
          simp [h3, this]
        · have : 0 ≤ (atF fs ⟨8, lot, x.test⟩ day kn).1 := by omega
          simp [h3, this]
    unfold stepC stepT
    simp only [h2.1]
    cases h3 : resOk fs lot day kn x
    · simp
    · rw [h2.2 h3]; simp
def eqP (p cs : List GPoint) : Bool := decide (p = cs)
theorem true_go {fs : List GFact} {lot day kn : Int} {cs : List GPoint} {cg V : Bool} {B : Nat → GSpec → Bool × Int × Bool → (Bool × Int × Bool → Option Bool) → Option Bool} {K : Bool × Int × Bool → Option Bool}
    (hB : ∀ k8 x13 s6 loop7, B k8 x13 s6 loop7 = jn (fun (p17 : Bool) (p18 : Int) (p19 : Bool) => loop7 (p17, p18, p19)) fun j16 => bd (facts_At_m fs (⟨8, lot, x13.test⟩ : GKey) day kn) fun x21 => bif (!x21.2) || decide (x21.1 < 0) then (j16 false s6.2.1 s6.2.2) else (bdc (s6.2.2 && decide (s6.2.1 < ((cs.length : Nat) : Int))) (idx cs s6.2.1) fun x22 => j16 (s6.1 && decide (x13.lo ≤ x21.1) && decide (x21.1 ≤ x13.hi)) (wr (s6.2.1 + 1)) (s6.2.2 && decide (s6.2.1 < ((cs.length : Nat) : Int)) && GPoint.eqb x22 (⟨x13.test, x21.1⟩ : GPoint))))
    (hK : ∀ s6, K s6 = some (V == (s6.2.2 && (s6.2.1 == ((cs.length : Nat) : Int)) && (cg == s6.1)))) : ∀ (xs : List GSpec) (k : Nat) (p : List GPoint) (g : Bool), p.length + xs.length ≤ 1000 →
      forLg B K k xs (g, ((p.length : Nat) : Int), decide (p <+: cs)) = some (V == (eqP (xs.foldl (stepT fs lot day kn cs) (p, g)).1 cs && (cg == (xs.foldl (stepT fs lot day kn cs) (p, g)).2))) := by
  intro xs
  induction xs with
  | nil =>
    intro k p g _
    rw [forLg, hK, List.foldl_nil]
    have h := pre_full p cs
    unfold eqP
    simp only
    rw [← h, show ((((p.length : Nat) : Int) == ((cs.length : Nat) : Int))) = decide (p.length = cs.length) by rw [Bool.eq_iff_iff, beq_iff_eq, decide_eq_true_eq]; omega]
  | cons x xs ih =>
    intro k p g hp
    rw [forLg, hB]
    simp only [jn]
    rw [facts_At]
    simp only [bd]
    rw [List.foldl_cons]
    simp only [List.length_cons] at hp
    have hx : ((!(atF fs ⟨8, lot, x.test⟩ day kn).2) || decide ((atF fs ⟨8, lot, x.test⟩ day kn).1 < 0)) = !(resOk fs lot day kn x) := by
      unfold resOk
      by_cases h : (atF fs ⟨8, lot, x.test⟩ day kn).1 < 0
      · have : ¬ 0 ≤ (atF fs ⟨8, lot, x.test⟩ day kn).1 := by omega
        simp [h, this]
      · have : 0 ≤ (atF fs ⟨8, lot, x.test⟩ day kn).1 := by omega
        simp [h, this]
    rw [hx]
    cases hk : resOk fs lot day kn x
    · have e1 : stepT fs lot day kn cs (p, g) x = (p, false) := by unfold stepT; rw [hk]; rfl
      rw [e1]
      simp only [Bool.not_false, cond_true]
      exact ih (k + 1) p false (by omega)
    · have e1 : stepT fs lot day kn cs (p, g) x = (p ++ [⟨x.test, (atF fs ⟨8, lot, x.test⟩ day kn).1⟩], g && decide (x.lo ≤ (atF fs ⟨8, lot, x.test⟩ day kn).1) && decide ((atF fs ⟨8, lot, x.test⟩ day kn).1 ≤ x.hi)) := by unfold stepT; rw [hk]; rfl
      rw [e1]
      simp only [Bool.not_true, cond_false]
      have ih2 := ih (k + 1) (p ++ [⟨x.test, (atF fs ⟨8, lot, x.test⟩ day kn).1⟩]) (g && decide (x.lo ≤ (atF fs ⟨8, lot, x.test⟩ day kn).1) && decide ((atF fs ⟨8, lot, x.test⟩ day kn).1 ≤ x.hi)) (by simp; omega)
      rw [← ih2, pre_snoc]
      have hlt : decide (((p.length : Nat) : Int) < ((cs.length : Nat) : Int)) = decide (p.length < cs.length) := decide_eq_decide.2 (by omega)
      rw [hlt, wr_id (by omega) (by omega), show (((p ++ [(⟨x.test, (atF fs ⟨8, lot, x.test⟩ day kn).1⟩ : GPoint)]).length : Nat) : Int) = ((p.length : Nat) : Int) + 1 by simp]
      cases hb : decide (p <+: cs) && decide (p.length < cs.length)
      · simp only [bdc, cond_false, Bool.false_and]
      · have hlt2 : p.length < cs.length := by simp only [Bool.and_eq_true, decide_eq_true_eq] at hb; exact hb.2
        have hg : cs[p.length]? = some cs[p.length] := List.getElem?_eq_getElem hlt2
        rw [bdc_t rfl, bd_some (show idx cs ((p.length : Nat) : Int) = some cs[p.length] by rw [idx_nat]; exact hg)]
        rw [hg]
        simp only [Option.getD_some, Bool.true_and]
        have he : GPoint.eqb cs[p.length] ⟨x.test, (atF fs ⟨8, lot, x.test⟩ day kn).1⟩ = decide (cs[p.length] = ⟨x.test, (atF fs ⟨8, lot, x.test⟩ day kn).1⟩) := by rw [Bool.eq_iff_iff, GPoint.eqb_iff, decide_eq_true_eq]
        rw [he]
theorem qualityTrue_true (a0 : GWorld) (a1 : GCertificate) (a2 a3 : Int) (a4 : List GSpec) : backflushlaw40_QualityTrue_m a0 a1 a2 a3 a4 = some true := by
  unfold backflushlaw40_QualityTrue_m
  rw [sane40, few40]
  simp only [bd, Bool.not_true, cond_false]
  cases hf : decide (a0.facts.length ≤ 60) && decide (a4.length ≤ 20) && decide (([] : List Int).length ≤ 20)
  · rfl
  obtain ⟨_, hl, _⟩ := few_spec hf
  simp only [Bool.not_true, cond_or, Bool.false_or, cond_and]
  by_cases hc : a1.results.length ≤ 20
  case neg =>
    have : (20 : Int) < ((a1.results.length : Nat) : Int) := by omega
    simp [this]
  have hc' : ¬ (20 : Int) < ((a1.results.length : Nat) : Int) := by omega
  simp only [hc', decide_false, cond_false]
  rw [quality_Check _ _ _ _ _ (by omega)]
  simp only
  unfold checkF
  rcases certF_cases a0.facts a1.lot a2 a3 a4 with e | ⟨h1, h2, e⟩
  · rw [e]; rfl
  obtain ⟨d0, d1, _⟩ := LotF_ok h2
  rw [e]
  simp only [show ((0 : Int) != 0) = false from rfl, cond_false]
  obtain ⟨lot, cs, cg⟩ := a1
  simp only at hc h2 e ⊢
  have hrun : ((runC a0.facts lot a2 a3 a4).2.2, (runC a0.facts lot a2 a3 a4).2.1) = a4.foldl (stepT a0.facts lot a2 a3 cs) ([], true) := stepC_T d0 d1 cs a4 _
  simp only [forL]
  have hfin := true_go (fs := a0.facts) (lot := lot) (day := a2) (kn := a3) (cs := cs) (cg := cg) (V := decide ((⟨lot, (runC a0.facts lot a2 a3 a4).2.2, (runC a0.facts lot a2 a3 a4).2.1⟩ : GCertificate) = ⟨lot, cs, cg⟩)) (fun _ _ _ _ => rfl) (fun _ => rfl) a4 0 [] true (by simp; omega)
  have hnil : decide (([] : List GPoint) <+: cs) = true := decide_eq_true (List.nil_prefix)
  rw [hnil] at hfin
  refine hfin.trans ?_
  rw [← hrun]
  simp only [eqP]
  congr 1
  rw [beq_iff_eq, Bool.eq_iff_iff]
  simp only [decide_eq_true_eq, GCertificate.mk.injEq, true_and, Bool.and_eq_true, beq_iff_eq]
  constructor
  · rintro ⟨h1, h2⟩; exact ⟨h1, h2.symm⟩
  · rintro ⟨h1, h2⟩; exact ⟨h1, h2.symm⟩
end Bf
