/- The engine, part 16: regions that draw their order and hold operations with effects. No program is named here. -/
import Derived.Test.YtedblpbpoekdlaaF15
namespace Bf
open Go Go.RowKit

/-- What an operation with an effect writes: names' blocks, and its slot. -/
structure Dl where
  hs : List (Nat × Nat × Option (Pl × Blk))
  d : D
  ov : List (Nat × (Nat → Option (Pl × Blk)))
def setsH : List (Nat × Nat × Option (Pl × Blk)) → Hp → Hp
  | [], h => h
  | (k, i, x) :: l, h => setsH l (set2 h k i x)
/-- Names that stand for other blocks altogether. -/
def ovH : List (Nat × (Nat → Option (Pl × Blk))) → Hp → Hp
  | [], h => h
  | (k, f) :: l, h => fun j i => bif Nat.beq j k then f i else ovH l h j i
theorem ovH_out {L : Nat → Bool} : ∀ {l : List (Nat × (Nat → Option (Pl × Blk)))} {h : Hp}, (∀ e ∈ l, L e.1 = true) → ∀ k i, L k = false → ovH l h k i = h k i
  | [], _, _, _, _, _ => rfl
  | (a, f) :: l, h, hl, k, i, hk => by
    simp only [ovH]
    cases e : Nat.beq k a with
    | true => have := hl (a, f) (by simp); rw [← Nat.eq_of_beq_eq_true e, hk] at this; cases this
    | false => exact ovH_out (fun e he => hl e (by simp [he])) k i hk
def St.app (σ : St) (dst : Option Nat) (δ : Dl) : St := ({ σ with hp := ovH δ.ov (setsH δ.hs σ.hp) } : St).put dst δ.d
def Dl.within (L : Nat → Bool) (δ : Dl) : Prop := (∀ e ∈ δ.hs, L e.1 = true) ∧ ∀ e ∈ δ.ov, L e.1 = true

theorem setsH_out {L : Nat → Bool} : ∀ {hs : List (Nat × Nat × Option (Pl × Blk))} {h : Hp}, (∀ e ∈ hs, L e.1 = true) → ∀ k i, L k = false → setsH hs h k i = h k i
  | [], _, _, _, _, _ => rfl
  | (a, b, x) :: l, h, hl, k, i, hk => by
    simp only [setsH]
    rw [setsH_out (fun e he => hl e (by simp [he])) k i hk]
    exact set2_other _ _ fun e => by have := hl (a, b, x) (by simp); rw [e.1] at hk; rw [hk] at this; cases this

/-- The blocks that an operation does not look at. -/
def hideH (F : Nat → Bool) (h : Hp) : Hp := fun k i => bif F k then none else h k i
def St.hideN (F : Nat → Bool) (σ : St) : St := { σ with hp := hideH F σ.hp }
theorem hideH_setsH {F : Nat → Bool} {hs : List (Nat × Nat × Option (Pl × Blk))} {ov : List (Nat × (Nat → Option (Pl × Blk)))} {h : Hp} (hl : ∀ e ∈ hs, F e.1 = true) (hl2 : ∀ e ∈ ov, F e.1 = true) : hideH F (ovH ov (setsH hs h)) = hideH F h := by
  funext k i
  unfold hideH
  cases hk : F k with
  | true => rfl
  | false => exact (ovH_out hl2 k i hk).trans (setsH_out hl k i hk)

theorem WOk.sub {C : Ctx} {hp hp' : Hp} {I : Nat → Prop} {w : World} (h : WOk C hp I w) (hl : ∀ k i b, hp' k i = some b → hp k i = some b) : WOk C hp' I w :=
  { h with
    own := fun k i pl blk hb => h.own k i pl blk (hl k i _ hb)
    inj := fun k i k' i' b n n' blk blk' h1 h2 => h.inj k i k' i' b n n' blk blk' (hl _ _ _ h1) (hl _ _ _ h2)
    owned := fun k i b n blk hb => h.owned k i b n blk (hl _ _ _ hb)
    lo := fun k i b n blk hb => h.lo k i b n blk (hl _ _ _ hb) }
theorem Quiet.more {P : Program} {hp hp' : Hp} {ev : Operand → Option D} {o : Oper} {d : D} (h : Quiet P hp' ev o d) (hl : ∀ k i b, hp' k i = some b → hp k i = some b) : Quiet P hp ev o d :=
  ⟨h.1, fun C I w ρ hw hρ => h.2 C I w ρ (hw.sub hl) hρ⟩
theorem hideH_le (F : Nat → Bool) (h : Hp) : ∀ k i b, hideH F h k i = some b → h k i = some b := fun k i b e => by
  unfold hideH at e
  cases hk : F k with
  | true => rw [hk] at e; cases e
  | false => rw [hk] at e; exact e
theorem YS.more {P : Program} {N : Rm} {ops : Array Oper} {F : Nat → Bool} {σ : St} {o : Oper} {r : Option D} (h : YS P N ops (σ.hideN F) o r) : YS P N ops σ o r := by
  cases r with
  | none => exact h
  | some d =>
    obtain ⟨h1, h2⟩ := h
    refine ⟨h1, ?_⟩
    rcases h2 with ⟨h2, h3⟩ | ⟨l, c, d0, e, hl, h3, h4, h5, h6⟩
    · exact .inl ⟨h2, h3.more (hideH_le F σ.hp)⟩
    · exact .inr ⟨l, c, d0, e, hl, h3, h4, fun hc => (h5 hc).more (hideH_le F σ.hp), h6⟩

/-- An operation with an effect, in whatever state agrees on what it looks at. -/
def LocEff (P : Program) (N : Rm) (ops : Array Oper) (o : Oper) (L : Nat → Bool) (σ : St) (A : Dl → Prop) : Prop :=
  (∀ δ, A δ → δ.within L) ∧ ∀ τ : St, (∀ t ∈ o.looksAt ops, τ.fr t = σ.fr t) → (∀ k i, L k = true → τ.hp k i = σ.hp k i) → guardOk N.n ops τ o.guard = true ∧ Eff P N o τ (fun τ' => ∃ δ, A δ ∧ τ' = τ.app o.dst δ)

def XOp (P : Program) (N : Rm) (ops : Array Oper) (W : Nat → Nat → Bool) (i : Nat) (K : St → Prop) (σ : St) : Prop :=
  match ops[i]? with
  | none => K σ
  | some o => (∃ r, YS P N ops σ o r ∧ K (outS σ o.dst r)) ∨ ∃ A, LocEff P N ops o (W i) σ A ∧ ∀ δ, A δ → K (σ.app o.dst δ)
def AnyX (P : Program) (N : Rm) (md : Region.Mode) (ops : Array Oper) (W : Nat → Nat → Bool) (Q : St → Prop) : Nat → Array Bool → St → Prop
  | 0, listed, σ => Region.ready md ops listed = [] ∧ Q σ
  | fuel + 1, listed, σ => (Region.ready md ops listed = [] → Q σ) ∧ ∀ i ∈ Region.ready md ops listed, XOp P N ops W i (AnyX P N md ops W Q fuel (listed.setIfInBounds i true)) σ

/-! #### What stands behind an operation -/
def dependsOn (md : Region.Mode) (ops : Array Oper) (S : List Nat) (j : Nat) : Bool := match ops[j]? with | some o => o.after.any fun e => Region.binds md e && memN e.on S | none => false
def laterF (md : Region.Mode) (ops : Array Oper) : List Nat → List Nat → List Nat
  | [], S => S
  | j :: js, S => laterF md ops js (bif dependsOn md ops S j then j :: S else S)
def later (md : Region.Mode) (ops : Array Oper) (i : Nat) : List Nat := laterF md ops (List.range ops.size) [i]
def Closed (md : Region.Mode) (ops : Array Oper) (listed : Array Bool) : Prop := ∀ j o, listed.getD j false = true → ops[j]? = some o → ∀ e ∈ o.after, Region.binds md e = true → listed.getD e.on false = true

section
variable {P : Program} {N : Rm} {ops : Array Oper} {md : Region.Mode} {W : Nat → Nat → Bool} {σ σ' : St} {o oi oj : Oper} {r r' : Option D}

theorem laterF_inv {listed : Array Bool} {i : Nat} (hc : Closed md ops listed) : ∀ (js S : List Nat), (∀ j ∈ S, (listed.getD j false = true → listed.getD i false = true) ∧ (j ∈ Region.ready md ops listed → j ≠ i → listed.getD i false = true)) →
    ∀ j ∈ laterF md ops js S, (listed.getD j false = true → listed.getD i false = true) ∧ (j ∈ Region.ready md ops listed → j ≠ i → listed.getD i false = true)
  | [], S, hS, j, hj => hS j hj
  | q :: js, S, hS, j, hj => by
    simp only [laterF] at hj
    refine laterF_inv hc js _ (fun p hp => ?_) j hj
    cases hd : dependsOn md ops S q with
    | false => rw [hd] at hp; exact hS p hp
    | true =>
      rw [hd] at hp
      simp only [cond_true] at hp
      rcases List.mem_cons.1 hp with rfl | hp
      · unfold dependsOn at hd
        cases ho : ops[p]? with
        | none => rw [ho] at hd; cases hd
        | some o =>
          rw [ho] at hd
          simp only at hd
          rw [Array.any_eq_true'] at hd
          obtain ⟨e, he, hb⟩ := hd
          simp only [Bool.and_eq_true] at hb
          have hmem := of_memN hb.2
          refine ⟨fun hl => (hS e.on hmem).1 (hc p o hl ho e he hb.1), fun hr _ => ?_⟩
          obtain ⟨_, o', ho', hall⟩ := mem_ready.1 hr
          rw [ho] at ho'; cases ho'
          exact (hS e.on hmem).1 (hall e he hb.1)
      · exact hS p hp
theorem later_ready {listed : Array Bool} {i j : Nat} (hc : Closed md ops listed) (hj : j ∈ later md ops i) (hr : j ∈ Region.ready md ops listed) (hne : j ≠ i) : listed.getD i false = true :=
  (laterF_inv hc _ _ (fun p hp => by simp at hp; subst hp; exact ⟨fun h => h, fun _ h => absurd rfl h⟩) j hj).2 hr hne
theorem Closed.set {listed : Array Bool} {i : Nat} (hc : Closed md ops listed) (hi : i ∈ Region.ready md ops listed) : Closed md ops (listed.setIfInBounds i true) := fun j o hj ho e he hb => by
  refine getD_set_true ?_
  by_cases h : i = j
  · subst h
    obtain ⟨_, o', ho', hall⟩ := mem_ready.1 hi
    rw [ho] at ho'; cases ho'
    exact hall e he hb
  · rw [getD_set_ne false h] at hj
    exact hc j o hj ho e he hb
theorem Closed.start (n : Nat) : Closed md ops (Array.replicate n false) := fun j o hj => by
  simp [Array.getD_eq_getD_getElem?, Array.getElem?_replicate] at hj
  split at hj <;> simp at hj

/-- An operation stands apart from all that may come before it. -/
def freeX (md : Region.Mode) (ops : Array Oper) (W : Nat → List Nat) (F : List Nat) (i : Nat) (listed : Array Bool) : Bool :=
  match ops[i]? with
  | none => false
  | some oi => (List.range ops.size).all fun j => Nat.beq j i || listed.getD j true || memN j (later md ops i) || match ops[j]? with | some oj => oi.apart ops oj && subN (W j) F | none => true
theorem freeX_spec {Wl : Nat → List Nat} {F : List Nat} {i : Nat} {listed : Array Bool} (hi : ops[i]? = some oi) (h : freeX md ops Wl F i listed = true) :
    ∀ j oj, ops[j]? = some oj → j ≠ i → listed.getD j true = false → j ∉ later md ops i → oi.apart ops oj = true ∧ ∀ k ∈ Wl j, k ∈ F := by
  intro j oj hj hne hun hl
  unfold freeX at h
  rw [hi] at h
  simp only [List.all_eq_true, List.mem_range] at h
  have hlt : j < ops.size := (Array.getElem?_eq_some_iff.1 hj).1
  have := h j hlt
  rw [hj] at this
  simp only [Bool.or_eq_true, Bool.and_eq_true] at this
  rcases this with ((h1 | h1) | h1) | h1
  · exact absurd (Nat.eq_of_beq_eq_true h1) hne
  · rw [hun] at h1; cases h1
  · exact absurd (of_memN h1) hl
  · exact ⟨h1.1, fun k hk => of_subN h1.2 k hk⟩

theorem XOp.mono {i : Nat} {K K' : St → Prop} (h : ∀ σ, K σ → K' σ) (hh : XOp P N ops W i K σ) : XOp P N ops W i K' σ := by
  unfold XOp at *
  split
  · rename_i ho; simp only [ho] at hh; exact h _ hh
  · rename_i o ho
    simp only [ho] at hh
    rcases hh with ⟨r, h1, h2⟩ | ⟨A, h1, h2⟩
    · exact .inl ⟨r, h1, h _ h2⟩
    · exact .inr ⟨A, h1, fun δ hδ => h _ (h2 δ hδ)⟩

theorem app_out {dst d2 : Option Nat} {δ : Dl} (h : ∀ d, dst = some d → d2 ≠ some d) (r : Option D) : (outS σ dst r).app d2 δ = outS (σ.app d2 δ) dst r := by
  simp only [outS_put]
  unfold St.app
  cases dst with
  | none => rfl
  | some s =>
    cases d2 with
    | none => rfl
    | some s2 =>
      have hne : s2 ≠ s := fun e => h s rfl (by rw [e])
      simp only [St.put]
      congr 1
      funext j
      unfold upd
      by_cases e1 : j = s
      · have e2 : Nat.beq j s2 = false := beq_ne (fun e => hne (by rw [← e, ← e1]))
        rw [e2]; subst e1; simp
      · rw [beq_ne e1]; rfl
theorem app_fr {d2 : Option Nat} {δ : Dl} {t : Nat} (h : ∀ d, d2 = some d → d ≠ t) : (σ.app d2 δ).fr t = σ.fr t := by
  unfold St.app
  cases d2 with
  | none => rfl
  | some s =>
    show upd σ.fr s _ t = σ.fr t
    unfold upd
    rw [beq_ne (fun e => h s rfl e.symm)]
    rfl
theorem app_hp (d2 : Option Nat) (δ : Dl) : (σ.app d2 δ).hp = ovH δ.ov (setsH δ.hs σ.hp) := by unfold St.app; cases d2 <;> rfl
theorem hideN_outS (F : Nat → Bool) (dst : Option Nat) (r : Option D) : (outS σ dst r).hideN F = outS (σ.hideN F) dst r := by cases r <;> cases dst <;> rfl

theorem XOp_put {i j : Nat} {F : Nat → Bool} (hj : ops[j]? = some oj) (hap : oi.apart ops oj = true) (hWF : ∀ k, W j k = true → F k = true) {K : St → Prop} (hy : YS P N ops (σ.hideN F) oi r) (h : XOp P N ops W j K (outS σ oi.dst r)) :
    XOp P N ops W j (fun σ' => YS P N ops (σ'.hideN F) oi r ∧ K (outS σ' oi.dst r)) σ := by
  obtain ⟨h1, h2, h3⟩ := Oper.apart_spec hap
  unfold XOp at *
  simp only [hj] at *
  rcases h with ⟨r', hy', hK⟩ | ⟨A, ⟨hA, hE⟩, hK⟩
  · refine .inl ⟨r', hy'.congr (outS_hp _ _).symm (fun t ht => ?_), hy.congr ?_ (fun t ht => ?_), ?_⟩
    · exact (outS_fr (fun d hd e => h1 d hd (e ▸ ht)) r).symm
    · rw [hideN_outS, outS_hp]
    · rw [hideN_outS]; exact outS_fr (fun d hd e => h3 d hd (e ▸ ht)) r'
    · rw [outS_comm (fun d hd e => h2 d e hd)]; exact hK
  · refine .inr ⟨A, ⟨hA, fun τ hf hh => hE τ (fun t ht => ?_) (fun k i hk => ?_)⟩, fun δ hδ => ⟨hy.congr ?_ (fun t ht => ?_), ?_⟩⟩
    · rw [hf t ht]; exact (outS_fr (fun d hd e => h1 d hd (e ▸ ht)) r).symm
    · rw [hh k i hk, outS_hp]
    · show hideH F (σ.app oj.dst δ).hp = hideH F σ.hp
      rw [app_hp]
      exact hideH_setsH (fun e he => hWF _ ((hA δ hδ).1 e he)) (fun e he => hWF _ ((hA δ hδ).2 e he))
    · show (σ.app oj.dst δ).fr t = σ.fr t
      exact app_fr (fun d hd e => h3 d hd (e ▸ ht))
    · have := hK δ hδ
      rwa [app_out (fun d hd e => h2 d hd e)] at this

theorem AnyX_first {Q : St → Prop} {i : Nat} {F : Nat → Bool} (hi : ops[i]? = some oi) :
    ∀ (fuel : Nat) (listed : Array Bool) (σ : St), Closed md ops listed →
      (∀ j oj, ops[j]? = some oj → j ≠ i → listed.getD j true = false → j ∉ later md ops i → oi.apart ops oj = true ∧ ∀ k, W j k = true → F k = true) →
      i ∈ Region.ready md ops listed → YS P N ops (σ.hideN F) oi r →
      AnyX P N md ops W Q fuel (listed.setIfInBounds i true) (outS σ oi.dst r) → AnyX P N md ops W Q (fuel + 1) listed σ := by
  intro fuel
  induction fuel with
  | zero =>
    intro listed σ _ _ hr hy H
    refine ⟨fun h => (by rw [h] at hr; cases hr), fun j hj => ?_⟩
    by_cases hji : j = i
    · subst hji; unfold XOp; simp only [hi]; exact .inl ⟨r, hy.more, H⟩
    · have := ready_mono hj hji
      rw [H.1] at this
      cases this
  | succ fuel ih =>
    intro listed σ hcl hfree hr hy H
    refine ⟨fun h => (by rw [h] at hr; cases hr), fun j hj => ?_⟩
    by_cases hji : j = i
    · subst hji; unfold XOp; simp only [hi]; exact .inl ⟨r, hy.more, H⟩
    · have h1 := H.2 j (ready_mono hj hji)
      obtain ⟨hjun, oj, hoj, hall⟩ := mem_ready.1 hj
      have hnot : j ∉ later md ops i := fun hm => by
        have h1 := later_ready hcl hm hj hji
        have h0 := getD_both (mem_ready.1 hr).1
        rw [h0] at h1; cases h1
      obtain ⟨f1, f2⟩ := hfree j oj hoj hji hjun hnot
      have h2 := XOp_put (i := i) hoj f1 f2 hy h1
      have hfree' : ∀ k ok, ops[k]? = some ok → k ≠ i → (listed.setIfInBounds j true).getD k true = false → k ∉ later md ops i → oi.apart ops ok = true ∧ ∀ q, W k q = true → F q = true := fun k ok hk hki hun hno => by
        refine hfree k ok hk hki ?_ hno
        by_cases hjk : j = k
        · subst hjk; exact hjun
        · rw [getD_set_ne true hjk] at hun; exact hun
      refine h2.mono (fun σ' h3 => ih (listed.setIfInBounds j true) σ' (hcl.set hj) hfree' (ready_mono hr (Ne.symm hji)) h3.1 ?_)
      rw [Array.setIfInBounds_comm _ _ hji]
      exact h3.2

variable {X : Cx} {C : Ctx} {rd : Option Nat}
theorem XOp.sound {i : Nat} {K : St → Prop} {K' : Act → World → Prop} {Q' : Exit → Act → World → Prop} {I : Nat → Prop} {a : Act} {w : World} (hh : Holds C σ I a w) (hq : XOp P C.N ops W i K σ)
    (h : ∀ σ' I' a' w', K σ' → σ'.gh = σ.gh → Holds C σ' I' a' w' → K' a' w') : wpOpIn (fenceOf rd) 0 P ops Q' i K' a w := by
  unfold XOp at hq
  cases ho : ops[i]? with
  | none =>
    rw [ho] at hq
    unfold wpOpIn
    rw [ho]
    exact h _ _ _ _ hq rfl hh
  | some o =>
    rw [ho] at hq
    simp only at hq
    rcases hq with ⟨r, hy, hK⟩ | ⟨A, ⟨hA, hE⟩, hK⟩
    · have hq' : QOp P C.N ops i (fun σ' => K σ' ∧ σ'.gh = σ.gh) σ := by
        unfold QOp
        rw [ho]
        exact ⟨r, hy, hK, outS_gh ..⟩
      exact hq'.sound hh fun σ' I' a' w' hk hh' => h σ' I' a' w' hk.1 hk.2 hh'
    · obtain ⟨hg, he⟩ := hE σ (fun _ _ => rfl) (fun _ _ _ => rfl)
      unfold wpOpIn
      rw [ho]
      simp only
      have hw : Region.wanted o (yielded ops a.tmps) = true := by
        rcases guardOk_inv (dst := o.dst) (op := o.op) (tt := o.type) (pos := o.pos) (af := o.after) hg with h1 | ⟨s, want, f, h1, h2, h3⟩
        · simp [Region.wanted, h1]
        · rw [wanted_of hh (show guardSlot ops o = some (s, want) from h1) h2 (by simpa using h3)]
          simp
      rw [hw, if_pos rfl]
      exact Eff.wp he hh fun σ' I' a' w' ⟨δ, hδ, e⟩ hh' => h σ' I' a' w' (e ▸ hK δ hδ) (he.2.1 σ' ⟨δ, hδ, e⟩) hh'
theorem AnyX.sound {Q : St → Prop} {Q' : Exit → Act → World → Prop} {gh : Nat × Bool} (hQ : ∀ σ I a w, Q σ → σ.gh = gh → Holds C σ I a w → Q' .normal a w) : ∀ (fuel : Nat) (listed : Array Bool) (σ : St) (I : Nat → Prop) (a : Act) (w : World), σ.gh = gh → Holds C σ I a w →
    AnyX P C.N md ops W Q fuel listed σ → wpAnyIn (fenceOf rd) 0 P md ops Q' fuel listed a w
  | 0, _, _, _, _, _, hg, hh, h => ⟨h.1, hQ _ _ _ _ h.2 hg hh⟩
  | fuel + 1, _, _, _, _, _, hg, hh, h => ⟨fun h0 => hQ _ _ _ _ (h.1 h0) hg hh, fun i hi => (h.2 i hi).sound hh fun σ' I' a' w' hK hg' hh' => AnyX.sound hQ fuel _ σ' I' a' w' (hg'.trans hg) hh' hK⟩

/-- A region that draws its order. -/
theorem ev_drawX {id : Nat} {l : List Oper} {Q : Exit → St → Prop} (W : Nat → List Nat) (hm : P.follows .mixedOrders = true) (h : AnyX P X.N .any l.toArray (fun i k => memN k (W i)) (fun σ' => Q .normal σ') l.length (Array.replicate l.length false) σ) : Ev X rd P (.region id l.toArray true) σ Q := by
  intro C I a w hC hh
  have hN := X.hN _ _ hC
  refine wpIn_region_any hm ?_
  rw [← hN] at h
  have h2 := AnyX.sound (rd := rd) (Q' := Lift X Q) (Q := fun σ' => Q .normal σ') (C := C) (gh := σ.gh) (fun σ' I a w hq hg hh => ⟨C, σ', I, hg.symm ▸ hC, hq, hh⟩) _ _ σ I a { w with drawn := w.drawn + 1 } rfl hh.drew h
  simpa using h2

/-- A quiet operation is taken first. -/
theorem xq {Q : St → Prop} {Wl : Nat → List Nat} {fuel : Nat} {listed listed' : Array Bool} (F : List Nat) (i : Nat) (hcl : Closed md ops listed) (hi : ops[i]? = some oi) (hr : memN i (Region.ready md ops listed) = true) (hf : freeX md ops Wl F i listed = true) (hy : YS P N ops (σ.hideN fun k => memN k F) oi r)
    (hl : listed.setIfInBounds i true = listed') (h : Closed md ops listed' → AnyX P N md ops (fun i k => memN k (Wl i)) Q fuel listed' (outS σ oi.dst r)) : AnyX P N md ops (fun i k => memN k (Wl i)) Q (fuel + 1) listed σ := by
  subst hl
  refine AnyX_first (F := fun k => memN k F) hi fuel listed σ hcl (fun j oj hj hne hun hno => ?_) (of_memN hr) hy (h (hcl.set (of_memN hr)))
  obtain ⟨g1, g2⟩ := freeX_spec hi hf j oj hj hne hun hno
  refine ⟨g1, fun k hk => ?_⟩
  have := g2 k (of_memN hk)
  cases hm : memN k F with
  | true => rfl
  | false =>
    exfalso
    have key : ∀ {l : List Nat}, k ∈ l → memN k l = true := fun {l} => by
      induction l with
      | nil => intro h; cases h
      | cons a l ih =>
        intro h
        simp only [memN, Bool.or_eq_true]
        rcases List.mem_cons.1 h with rfl | h
        · exact .inl (Nat.beq_refl k)
        · exact .inr (ih h)
    rw [key this] at hm; cases hm
/-- One operation alone is ready, or several are: each of them in turn. -/
theorem xb {Q : St → Prop} {fuel : Nat} {listed : Array Bool} {l : List Nat} (hcl : Closed md ops listed) (hr : Region.ready md ops listed = l) (hne : l ≠ []) (h : ∀ i ∈ l, Closed md ops (listed.setIfInBounds i true) → XOp P N ops W i (AnyX P N md ops W Q fuel (listed.setIfInBounds i true)) σ) : AnyX P N md ops W Q (fuel + 1) listed σ := by
  subst hr
  exact ⟨fun e => absurd e hne, fun i hi => h i hi (hcl.set hi)⟩
theorem xe {i : Nat} {K : St → Prop} {A : Dl → Prop} (hi : ops[i]? = some o) (h : LocEff P N ops o (W i) σ A) (hK : ∀ δ, A δ → K (σ.app o.dst δ)) : XOp P N ops W i K σ := by
  unfold XOp; rw [hi]; exact .inr ⟨A, h, hK⟩
theorem xy {i : Nat} {K : St → Prop} (hi : ops[i]? = some o) (h : YS P N ops σ o r) (hK : K (outS σ o.dst r)) : XOp P N ops W i K σ := by
  unfold XOp; rw [hi]; exact .inl ⟨r, h, hK⟩
theorem xn {Q : St → Prop} {listed : Array Bool} (hr : Region.ready md ops listed = []) (h : Q σ) : AnyX P N md ops W Q 0 listed σ := ⟨hr, h⟩
end
end Bf
