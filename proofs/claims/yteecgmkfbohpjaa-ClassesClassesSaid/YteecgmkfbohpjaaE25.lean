/- The engine, part 25: drawn regions with operations that lay blocks, and a tail whose order is forced. No program is named here. -/
import Derived.Test.YteecgmkfbohpjaaE24
namespace Bf
open Go Go.RowKit
section
variable {P : Program} {N : Rm} {ops : Array Oper} {md : Region.Mode} {H : Nat → Nat → Bool} {ks : Nat → Option Nat} {σ σ' : St} {o oi oj : Oper} {r r' : RO} {C : Ctx} {rd : Option Nat}
def AnyM (P : Program) (N : Rm) (md : Region.Mode) (ops : Array Oper) (H : Nat → Nat → Bool) (ks : Nat → Option Nat) (n : Nat) (L : Array Bool → St → Prop) : Nat → Array Bool → St → Prop
  | 0, listed, σ => L listed σ
  | f + 1, listed, σ => Region.ready md ops listed ≠ [] ∧ ∀ i ∈ Region.ready md ops listed, i < n ∧ EOp P N ops H ks i (AnyM P N md ops H ks n L f (listed.setIfInBounds i true)) σ

theorem AnyM_first {n i : Nat} {L : Array Bool → St → Prop} (hi : ops[i]? = some oi)
    (hs : Region.sinkB md ops n = true) (hc : Region.chainB md ops n = true) (hn : n < ops.size) (hin : i < n)
    (hdone : ∀ listed σ, L listed σ → ∀ j ∈ Region.ready md ops listed, n ≤ j) :
    ∀ (f : Nat) (listed : Array Bool) (σ : St), HeadInv md ops n listed →
      (∀ j oj, ops[j]? = some oj → j ≠ i → listed.getD j true = false → (∀ e ∈ oj.after, Region.binds md e = true → e.on ≠ i) → oi.apart ops oj = true) →
      (∀ j listed', j ≠ i → Down md ops listed' → i ∈ Region.ready md ops listed' → j ∈ Region.ready md ops listed' → (∀ k, ks i = some k → H j k = true) ∧ (∀ k, ks j = some k → H i k = true)) →
      i ∈ Region.ready md ops listed → YE P N ops H ks i σ oi r →
      AnyM P N md ops H ks n L f (listed.setIfInBounds i true) (outE ops oi σ r) → AnyM P N md ops H ks n L (f + 1) listed σ := by
  intro f
  induction f with
  | zero =>
    intro listed σ inv _ _ hr hy HH
    have hun := (mem_ready.1 hr).1
    refine ⟨fun h => (by rw [h] at hr; cases hr), fun j hj => ?_⟩
    have hjn : j < n := by
      rcases Nat.lt_or_ge j n with h | h
      · exact h
      · exact absurd hj (tail_waits hs hc hn inv _ i rfl hin hun j h)
    refine ⟨hjn, ?_⟩
    by_cases hji : j = i
    · subst hji; unfold EOp; simp only [hi]; exact ⟨r, hy, HH⟩
    · have := hdone _ _ HH j (ready_mono hj hji)
      omega
  | succ f ih =>
    intro listed σ inv hfree hkey hr hy HH
    have hun := (mem_ready.1 hr).1
    refine ⟨fun h => (by rw [h] at hr; cases hr), fun j hj => ?_⟩
    have hjn : j < n := by
      rcases Nat.lt_or_ge j n with h | h
      · exact h
      · exact absurd hj (tail_waits hs hc hn inv _ i rfl hin hun j h)
    refine ⟨hjn, ?_⟩
    by_cases hji : j = i
    · subst hji; unfold EOp; simp only [hi]; exact ⟨r, hy, HH⟩
    · have h1 := (HH.2 j (ready_mono hj hji)).2
      obtain ⟨hjun, oj, hoj, hall⟩ := mem_ready.1 hj
      have hnot : ∀ e ∈ oj.after, Region.binds md e = true → e.on ≠ i := fun e he hb heq => by
        have h1 := hall e he hb
        rw [heq, getD_both hun] at h1
        cases h1
      obtain ⟨f2, f3⟩ := hkey j listed hji inv.closed hr hj
      have h2 := EOp_put hi hoj (hfree j oj hoj hji hjun hnot) f2 f3 hy h1
      have hfree' : ∀ k ok, ops[k]? = some ok → k ≠ i → (listed.setIfInBounds j true).getD k true = false →
          (∀ e ∈ ok.after, Region.binds md e = true → e.on ≠ i) → oi.apart ops ok = true := fun k ok hk hki hun hno => by
        refine hfree k ok hk hki ?_ hno
        by_cases hjk : j = k
        · subst hjk; exact hjun
        · rw [getD_set_ne true hjk] at hun; exact hun
      refine h2.mono (fun σ' h3 => ih (listed.setIfInBounds j true) σ' (inv.set hj hjn) hfree' hkey (ready_mono hr (Ne.symm hji)) h3.1 ?_)
      rw [Array.setIfInBounds_comm _ _ hji]
      exact h3.2

theorem AnyM_lex {n g : Nat} {Lq : St → Prop} (hkb : keysB md ops H ks = true) (hs : Region.sinkB md ops n = true) (hc : Region.chainB md ops n = true) (hn : n < ops.size) :
    ∀ (l : List Oper) (k : Nat) (listed : Array Bool) (σ : St), (∀ j, j < l.length → l[j]? = ops[k + j]?) → k + l.length = n → HeadInv md ops n listed →
    Region.lexHead md ops g l.length k listed = true → RunE P N ops H ks Lq k l σ →
    AnyM P N md ops H ks n (fun listed' σ' => Region.seqB md ops g n listed' = true ∧ Lq σ') l.length listed σ
  | [], k, listed, σ, _, hk, _, hB, h => by
    have : k = n := by simpa using hk
    subst this
    exact ⟨by simpa [Region.lexHead] using hB, h⟩
  | o :: l, k, listed, σ, hl, hk, inv, hB, h => by
    have h0 : ops[k]? = some o := by simpa using (hl 0 (by simp)).symm
    simp only [List.length_cons, Region.lexHead, Bool.and_eq_true] at hB
    obtain ⟨⟨hr, hf⟩, hB'⟩ := hB
    have hkn : k < n := by simp only [List.length_cons] at hk; omega
    have hr' : k ∈ Region.ready md ops listed := by simpa using hr
    obtain ⟨r, hy, hK⟩ := h
    exact AnyM_first h0 hs hc hn hkn (fun listed' a' hL => seqB_ready hL.1) l.length listed σ inv (Region.free_spec h0 hf) (fun j listed' hji hd hi hj => keysB_pair hkb hji hd hi hj) hr' hy
      (AnyM_lex hkb hs hc hn l (k + 1) _ _ (fun j hj => by have := hl (j + 1) (by simp; omega); simpa [Nat.add_assoc, Nat.add_comm 1 j] using this) (by simp only [List.length_cons] at hk; omega) (inv.set hr' hkn) hB' hK)

theorem AnyM.sound {n g : Nat} {L : Array Bool → St → Prop} {Q' : Exit → Act → World → Prop} (hL : ∀ listed σ φ I a w, L listed σ → Holds C σ φ I a w → wpAnyIn (fenceOf rd) 0 P md ops Q' g listed a w) :
    ∀ (f : Nat) (listed : Array Bool) (σ : St) (φ : Phi) (I : Nat → Prop) (a : Act) (w : World), Holds C σ φ I a w → AnyM P C.N md ops H ks n L f listed σ → wpAnyIn (fenceOf rd) 0 P md ops Q' (f + g) listed a w
  | 0, listed, σ, φ, I, a, w, hh, h => by rw [Nat.zero_add]; exact hL _ _ _ _ _ _ h hh
  | f + 1, listed, σ, φ, I, a, w, hh, h => by
    rw [show f + 1 + g = (f + g) + 1 by omega]
    exact ⟨fun h0 => absurd h0 h.1, fun i hi => (h.2 i hi).2.sound hh fun σ' φ' I' a' w' hK hh' => AnyM.sound hL f _ σ' φ' I' a' w' hh' hK⟩

end
section
variable {P : Program} {X : Cx} {rd : Option Nat} {σ : St}
/-- A region that draws its order: quiet operations, then a tail whose order is forced. -/
theorem ev_drawEt {id : Nat} {l : List Oper} {Q : Exit → St → Prop} (H : Nat → Nat → Bool) (ks : Nat → Option Nat) (n : Nat) (hm : P.follows .mixedOrders = true) (hB : Region.lexTailB .any l.toArray n = true) (hk : keysB .any l.toArray H ks = true)
    (h : RunE P X.N l.toArray H ks (fun σ' => RunS X rd P l.toArray (l.drop n) σ' Q) 0 (l.take n) σ) : Ev X rd P (.region id l.toArray true) σ Q := by
  intro C φ I a w hC hh
  have hN := X.hN _ _ hC
  simp only [Region.lexTailB, Bool.and_eq_true, decide_eq_true_eq] at hB
  obtain ⟨⟨⟨⟨_, hn⟩, hs⟩, hc⟩, hlex⟩ := hB
  have hn' : n < l.length := by simpa using hn
  have htl : (l.take n).length = n := by simp; omega
  have hdl : (l.drop n).length = l.toArray.size - n := by simp
  have inv0 : HeadInv .any l.toArray n (Array.replicate l.toArray.size false) :=
    ⟨by simp, fun j oj _ hl => (by rw [getD_replicate_false] at hl; cases hl), fun t _ ht => getD_in (by simpa using ht) (getD_replicate_false _ _)⟩
  rw [← hN] at h
  have h := RunE_gh (g := σ.gh) rfl h
  have H := AnyM_lex (md := .any) (g := l.toArray.size - n) hk hs hc hn (l.take n) 0 _ σ (fun j hj => by
    have hj' : j < n := by rw [htl] at hj; exact hj
    simp [hj']) (by simpa using htl) inv0 (by rw [htl]; exact hlex) h
  refine wpIn_region_any hm ?_
  have := AnyM.sound (rd := rd) (Q' := Lift X Q) (g := l.toArray.size - n) (fun listed σ' φ' I' a' w' hL hh' => by
    have := wpAnyIn_of_seq (rd := rd) (md := .any) (Q' := Lift X Q) (l.drop n) n listed a' w' (fun j => by simp [List.getElem?_drop]) (by rw [hdl]; exact hL.1) (hL.2.2 C φ' I' a' w' (hL.2.1 ▸ hC) hh')
    rwa [hdl] at this) _ _ σ φ I a { w with drawn := w.drawn + 1 } hh.drew H
  rw [htl, show n + (l.toArray.size - n) = l.toArray.size by omega] at this
  exact this
end
end Bf
