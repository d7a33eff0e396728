/- The engine, part 13: regions that draw their order: one walk in the text's order serves every order. No program is named here. -/
import Derived.StillTail
import Derived.Test.YtedblpbpoekdlaaF10
namespace Bf
open Go Go.RowKit

/-- What an operation of a drawing region comes to: a datum, or it is passed over. -/
def YS (P : Program) (N : Rm) (ops : Array Oper) (σ : St) (o : Oper) : Option D → Prop
  | some d => dstOk N o.dst = true ∧ ((guardOk N.n ops σ o.guard = true ∧ Quiet P σ.hp σ.ev o d) ∨ ∃ l c d0, d = .cnd c d0 ∧ (∀ t ∈ l, t ∈ o.looksAt ops) ∧ CondOk P N.n ops σ o l c d0)
  | none => guardNo N.n ops σ o.guard = true ∧ dstOk N o.dst = true
def outS (σ : St) (dst : Option Nat) : Option D → St
  | some d => σ.put dst d
  | none => σ.skip dst
def QOp (P : Program) (N : Rm) (ops : Array Oper) (i : Nat) (K : St → Prop) (σ : St) : Prop :=
  match ops[i]? with
  | none => K σ
  | some o => ∃ r, YS P N ops σ o r ∧ K (outS σ o.dst r)
/-- The operations in the text's order. -/
def RunQ (P : Program) (N : Rm) (ops : Array Oper) (K : St → Prop) : List Oper → St → Prop
  | [], σ => K σ
  | o :: rest, σ => ∃ r, YS P N ops σ o r ∧ RunQ P N ops K rest (outS σ o.dst r)
def AnyQ (P : Program) (N : Rm) (md : Region.Mode) (ops : Array Oper) (Q : St → Prop) : Nat → Array Bool → St → Prop
  | 0, listed, σ => Region.ready md ops listed = [] ∧ Q σ
  | fuel + 1, listed, σ => (Region.ready md ops listed = [] → Q σ) ∧ ∀ i ∈ Region.ready md ops listed, QOp P N ops i (AnyQ P N md ops Q fuel (listed.setIfInBounds i true)) σ

section
variable {P : Program} {N : Rm} {ops : Array Oper} {md : Region.Mode} {σ σ' : St} {o oi oj : Oper} {r r' : Option D}

theorem Quiet.congr {hp : Hp} {ev ev' : Operand → Option D} {d : D} (h : Quiet P hp ev o d) (he : ∀ x ∈ o.op.operands, ev' x = ev x) : Quiet P hp ev' o d :=
  ⟨h.1, fun C I w ρ hw hρ => h.2 C I w ρ hw fun x hx d' hd => hρ x hx d' ((he x hx).trans hd)⟩

theorem guardOk_congr {g : Option (Nat × Bool)} (h : ∀ j w s, g = some (j, w) → (ops[j]?).bind (·.dst) = some s → σ'.fr s = σ.fr s) : guardOk N.n ops σ' g = guardOk N.n ops σ g := by
  unfold guardOk
  cases g with
  | none => rfl
  | some p =>
    obtain ⟨j, w⟩ := p
    simp only
    cases hj : (ops[j]?).bind (·.dst) with
    | none => rfl
    | some s => simp only; rw [h j w s rfl hj]
theorem guardNo_congr {g : Option (Nat × Bool)} (h : ∀ j w s, g = some (j, w) → (ops[j]?).bind (·.dst) = some s → σ'.fr s = σ.fr s) : guardNo N.n ops σ' g = guardNo N.n ops σ g := by
  unfold guardNo
  cases g with
  | none => rfl
  | some p =>
    obtain ⟨j, w⟩ := p
    simp only
    cases hj : (ops[j]?).bind (·.dst) with
    | none => rfl
    | some s => simp only; rw [h j w s rfl hj]

theorem condsL_congr {ev ev' : Operand → Option D} {c : Bool} : ∀ {l : List Nat}, (∀ t ∈ l, ev' (.tmp t) = ev (.tmp t)) → condsL ev c l → condsL ev' c l
  | [], _, _ => trivial
  | t :: l, he, h => ⟨by rw [he t (by simp)]; exact h.1, condsL_congr (fun t ht => he t (by simp [ht])) h.2⟩
theorem YS.congr (h : YS P N ops σ o r) (hp : σ'.hp = σ.hp) (hf : ∀ t ∈ o.looksAt ops, σ'.fr t = σ.fr t) : YS P N ops σ' o r := by
  have hg : ∀ j w s, o.guard = some (j, w) → (ops[j]?).bind (·.dst) = some s → σ'.fr s = σ.fr s := fun j w s hgd hs => hf s (by
    unfold Oper.looksAt
    rw [hgd]
    exact List.mem_append_right _ (by simp [hs]))
  have hop : ∀ t, .tmp t ∈ o.op.operands → σ'.fr t = σ.fr t := fun t hx => hf t (by
    unfold Oper.looksAt
    exact List.mem_append_left _ (List.mem_filterMap.2 ⟨.tmp t, by simpa using hx, rfl⟩))
  cases r with
  | none => exact ⟨(guardNo_congr hg).trans h.1, h.2⟩
  | some d =>
    obtain ⟨h2, h3⟩ := h
    refine ⟨h2, ?_⟩
    rcases h3 with ⟨h1, h3⟩ | ⟨l, c, d0, rfl, hl, ⟨s, want, ds, g1, g2, g3, g4⟩, g5, g6, g7⟩
    · refine .inl ⟨(guardOk_congr hg).trans h1, ?_⟩
      rw [hp]
      refine h3.congr fun x hx => ?_
      cases x with
      | tmp t => exact hop t hx
      | const v => rfl
      | global g => rfl
      | func f => rfl
    · refine .inr ⟨l, c, d0, rfl, hl, ⟨s, want, ds, g1, ?_, g3, g4⟩, g5, fun hc => ?_, condsL_congr (ev := σ.ev) (ev' := σ'.ev) (fun t ht => hf t (hl t ht)) g7⟩
      · rw [← g2]
        unfold guardSlot at g1
        cases hgd : o.guard with
        | none => rw [hgd] at g1; cases g1
        | some p =>
          obtain ⟨j, wt⟩ := p
          rw [hgd] at g1
          simp only at g1
          cases hj : (ops[j]?).bind (·.dst) with
          | none => rw [hj] at g1; cases g1
          | some s' => rw [hj] at g1; simp at g1; rw [← g1.1]; exact hg j wt s' hgd hj
      · rw [hp]
        refine (g6 hc).congr fun x hx => ?_
        cases x with
        | tmp t =>
          have : σ'.ev (.tmp t) = σ.ev (.tmp t) := hop t hx
          simp only [evl, this]
        | const v => rfl
        | global g => rfl
        | func f => rfl

theorem outS_put (σ : St) (dst : Option Nat) (r : Option D) : outS σ dst r = σ.put dst (r.getD (.v true (.t []))) := by cases r <;> rfl
theorem outS_hp (dst : Option Nat) (r : Option D) : (outS σ dst r).hp = σ.hp := by cases r <;> cases dst <;> rfl
theorem outS_fr {dst : Option Nat} {t : Nat} (h : ∀ d, dst = some d → d ≠ t) (r : Option D) : (outS σ dst r).fr t = σ.fr t := by
  rw [outS_put]
  cases dst with
  | none => rfl
  | some s =>
    have hne : Nat.beq t s = false := beq_ne (fun e => h s rfl e.symm)
    show upd σ.fr s _ t = σ.fr t
    unfold upd
    rw [hne]
    rfl
theorem outS_comm {d1 d2 : Option Nat} (h : ∀ d, d1 = some d → d2 ≠ some d) (r1 r2 : Option D) : outS (outS σ d1 r1) d2 r2 = outS (outS σ d2 r2) d1 r1 := by
  simp only [outS_put]
  cases d1 with
  | none => cases d2 <;> rfl
  | some s1 =>
    cases d2 with
    | none => rfl
    | some s2 =>
      have hne : s2 ≠ s1 := fun e => h s1 rfl (by rw [e])
      simp only [St.put]
      congr 1
      funext j
      unfold upd
      by_cases e1 : j = s1
      · have e2 : Nat.beq j s2 = false := beq_ne (fun e => hne (by rw [← e, ← e1]))
        rw [e2]
        subst e1
        simp
      · rw [beq_ne e1]; rfl

theorem QOp.mono {i : Nat} {K K' : St → Prop} (h : ∀ σ, K σ → K' σ) (hh : QOp P N ops i K σ) : QOp P N ops i K' σ := by
  unfold QOp at *
  split
  · rename_i ho; simp only [ho] at hh; exact h _ hh
  · rename_i o ho; simp only [ho] at hh; obtain ⟨r, h1, h2⟩ := hh; exact ⟨r, h1, h _ h2⟩

theorem QOp_put {j : Nat} (hj : ops[j]? = some oj) (hap : oi.apart ops oj = true) {K : St → Prop} (hy : YS P N ops σ oi r) (h : QOp P N ops j K (outS σ oi.dst r)) :
    QOp P N ops j (fun σ' => YS P N ops σ' oi r ∧ K (outS σ' oi.dst r)) σ := by
  obtain ⟨h1, h2, h3⟩ := Oper.apart_spec hap
  unfold QOp at *
  simp only [hj] at *
  obtain ⟨r', hy', hK⟩ := h
  refine ⟨r', hy'.congr (outS_hp _ _).symm (fun t ht => ?_), hy.congr (outS_hp _ _) (fun t ht => ?_), ?_⟩
  · exact (outS_fr (fun d hd e => h1 d hd (e ▸ ht)) r).symm
  · exact outS_fr (fun d hd e => h3 d hd (e ▸ ht)) r'
  · rw [outS_comm (fun d hd e => h2 d e hd)]
    exact hK

theorem AnyQ_first {Q : St → Prop} {i : Nat} (hi : ops[i]? = some oi) :
    ∀ (fuel : Nat) (listed : Array Bool) (σ : St),
      (∀ j oj, ops[j]? = some oj → j ≠ i → listed.getD j true = false → (∀ e ∈ oj.after, Region.binds md e = true → e.on ≠ i) → oi.apart ops oj = true) →
      i ∈ Region.ready md ops listed → YS P N ops σ oi r →
      AnyQ P N md ops Q fuel (listed.setIfInBounds i true) (outS σ oi.dst r) → AnyQ P N md ops Q (fuel + 1) listed σ := by
  intro fuel
  induction fuel with
  | zero =>
    intro listed σ _ hr hy H
    refine ⟨fun h => (by rw [h] at hr; cases hr), fun j hj => ?_⟩
    by_cases hji : j = i
    · subst hji; unfold QOp; simp only [hi]; exact ⟨r, hy, H⟩
    · have := ready_mono hj hji
      rw [H.1] at this
      cases this
  | succ fuel ih =>
    intro listed σ hfree hr hy H
    refine ⟨fun h => (by rw [h] at hr; cases hr), fun j hj => ?_⟩
    by_cases hji : j = i
    · subst hji; unfold QOp; simp only [hi]; exact ⟨r, hy, H⟩
    · have h1 := H.2 j (ready_mono hj hji)
      obtain ⟨hjun, oj, hoj, hall⟩ := mem_ready.1 hj
      have hnot : ∀ e ∈ oj.after, Region.binds md e = true → e.on ≠ i := fun e he hb heq => by
        have h1 := hall e he hb
        have h0 := (mem_ready.1 hr).1
        rw [heq] at h1
        rcases Nat.lt_or_ge i listed.size with h' | h'
        · simp [h'] at h0 h1; rw [h0] at h1; cases h1
        · simp [Array.getElem?_eq_none h'] at h1
      have h2 := QOp_put hoj (hfree j oj hoj hji hjun hnot) hy h1
      have hfree' : ∀ k ok, ops[k]? = some ok → k ≠ i → (listed.setIfInBounds j true).getD k true = false →
          (∀ e ∈ ok.after, Region.binds md e = true → e.on ≠ i) → oi.apart ops ok = true := fun k ok hk hki hun hno => by
        refine hfree k ok hk hki ?_ hno
        by_cases hjk : j = k
        · subst hjk; exact hjun
        · rw [getD_set_ne true hjk] at hun; exact hun
      refine h2.mono (fun σ' h3 => ih (listed.setIfInBounds j true) σ' hfree' (ready_mono hr (Ne.symm hji)) h3.1 ?_)
      rw [Array.setIfInBounds_comm _ _ hji]
      exact h3.2

theorem AnyQ_lex {Q : St → Prop} : ∀ (l : List Oper) (k : Nat) (listed : Array Bool) (σ : St), (∀ j, l[j]? = ops[k + j]?) →
    Region.lexFrom md ops l.length k listed = true → RunQ P N ops Q l σ → AnyQ P N md ops Q l.length listed σ
  | [], _, _, _, _, hB, h => ⟨by simpa [Region.lexFrom] using hB, h⟩
  | o :: l, k, listed, σ, hl, hB, h => by
    have h0 : ops[k]? = some o := by simpa using (hl 0).symm
    simp only [List.length_cons, Region.lexFrom, Bool.and_eq_true] at hB
    obtain ⟨⟨hr, hf⟩, hB'⟩ := hB
    obtain ⟨r, hy, hK⟩ := h
    exact AnyQ_first h0 l.length listed σ (Region.free_spec h0 hf) (by simpa using hr) hy
      (AnyQ_lex l (k + 1) _ _ (fun j => by have := hl (j + 1); simpa [Nat.add_assoc, Nat.add_comm 1 j] using this) hB' hK)

variable {X : Cx} {C : Ctx} {rd : Option Nat}

theorem QOp.sound {i : Nat} {K : St → Prop} {K' : Act → World → Prop} {Q' : Exit → Act → World → Prop} {I : Nat → Prop} {a : Act} {w : World} (hh : Holds C σ I a w) (hq : QOp P C.N ops i K σ)
    (h : ∀ σ' I' a' w', K σ' → Holds C σ' I' a' w' → K' a' w') : wpOpIn (fenceOf rd) 0 P ops Q' i K' a w := by
  unfold QOp at hq
  unfold wpOpIn
  split
  · rename_i ho; simp only [ho] at hq; exact h _ _ _ _ hq hh
  · rename_i o ho
    simp only [ho] at hq
    obtain ⟨r, hy, hK⟩ := hq
    cases r with
    | none =>
      rw [guardNo_inv hy.1 hh]
      exact ⟨fun _ _ => trivial, h _ _ _ _ hK (hh.skip _ (fun s e => by have := hy.2; rw [e] at this; exact this))⟩
    | some d =>
      obtain ⟨hd, hq⟩ := hy
      have hd' : ∀ s, o.dst = some s → C.N.can s = true := fun s e => by rw [e] at hd; simpa [dstOk] using hd
      rcases hq with ⟨hg, hq⟩ | ⟨l, c, d0, rfl, _, hq⟩
      · have hw : Region.wanted o (yielded ops a.tmps) = true := by
          rcases guardOk_inv (dst := o.dst) (op := o.op) (tt := o.type) (pos := o.pos) (af := o.after) hg with h1 | ⟨s, want, f, h1, h2, h3⟩
          · simp [Region.wanted, h1]
          · rw [wanted_of hh (show guardSlot ops o = some (s, want) from h1) h2 (by simpa using h3)]
            simp
        rw [hw, if_pos rfl]
        exact hq.wp hh hd' fun I' v w' hh' => h _ _ _ _ hK hh'
      · have hw := CondOk.wp (rd := rd) (Q := Q') (K := K') hq hh hd' fun I' a' w' hh' => h _ _ _ _ hK hh'
        by_cases hwt : Region.wanted o (yielded ops a.tmps) = true
        · rw [if_pos hwt] at hw ⊢; exact hw
        · rw [if_neg hwt] at hw ⊢; exact ⟨fun _ _ => trivial, hw (by simpa using hwt)⟩

theorem AnyQ.sound {Q : St → Prop} {Q' : Exit → Act → World → Prop} (hQ : ∀ σ I a w, Q σ → Holds C σ I a w → Q' .normal a w) : ∀ (fuel : Nat) (listed : Array Bool) (σ : St) (I : Nat → Prop) (a : Act) (w : World), Holds C σ I a w →
    AnyQ P C.N md ops Q fuel listed σ → wpAnyIn (fenceOf rd) 0 P md ops Q' fuel listed a w
  | 0, _, _, _, _, _, hh, h => ⟨h.1, hQ _ _ _ _ h.2 hh⟩
  | fuel + 1, _, _, _, _, _, hh, h => ⟨fun h0 => hQ _ _ _ _ (h.1 h0) hh, fun i hi => (h.2 i hi).sound hh fun σ' I' a' w' hK hh' => AnyQ.sound hQ fuel _ σ' I' a' w' hh' hK⟩

theorem outS_gh (σ : St) (dst : Option Nat) (r : Option D) : (outS σ dst r).gh = σ.gh := by cases r <;> cases dst <;> rfl
theorem RunQ_gh {K : St → Prop} {g : Nat × Bool} : ∀ {l : List Oper} {σ : St}, σ.gh = g → RunQ P N ops K l σ → RunQ P N ops (fun σ' => σ'.gh = g ∧ K σ') l σ
  | [], _, hg, h => ⟨hg, h⟩
  | _ :: _, _, hg, ⟨r, h1, h2⟩ => ⟨r, h1, RunQ_gh ((outS_gh _ _ _).trans hg) h2⟩

/-- A region that draws its order, all of whose operations are quiet. -/
theorem ev_draw {id : Nat} {l : List Oper} {Q : Exit → St → Prop} (hm : P.follows .mixedOrders = true) (hB : Region.lexB .any l.toArray = true) (h : RunQ P X.N l.toArray (fun σ' => Q .normal σ') l σ) : Ev X rd P (.region id l.toArray true) σ Q := by
  intro C I a w hC hh
  have hN := X.hN _ _ hC
  simp only [Region.lexB, Bool.and_eq_true] at hB
  refine wpIn_region_any hm ?_
  rw [← hN] at h
  have h1 := AnyQ_lex (P := P) (N := C.N) (md := .any) (Q := fun σ' => σ'.gh = σ.gh ∧ Q .normal σ') l 0 (Array.replicate l.toArray.size false) σ (by simp) (by simpa using hB.2) (RunQ_gh rfl h)
  have h2 := AnyQ.sound (rd := rd) (Q' := Lift X Q) (Q := fun σ' => σ'.gh = σ.gh ∧ Q .normal σ') (C := C) (fun σ' I a w hq hh => ⟨C, σ', I, hq.1 ▸ hC, hq.2, hh⟩) _ _ σ I a { w with drawn := w.drawn + 1 } hh.drew h1
  simpa using h2

/-! #### With a tail whose order is forced -/
def AnyL (P : Program) (N : Rm) (md : Region.Mode) (ops : Array Oper) (n : Nat) (L : Array Bool → St → Prop) : Nat → Array Bool → St → Prop
  | 0, listed, σ => L listed σ
  | f + 1, listed, σ => Region.ready md ops listed ≠ [] ∧ ∀ i ∈ Region.ready md ops listed, i < n ∧ QOp P N ops i (AnyL P N md ops n L f (listed.setIfInBounds i true)) σ

theorem AnyL_first {n i : Nat} {L : Array Bool → St → Prop} (hi : ops[i]? = some oi)
    (hs : Region.sinkB md ops n = true) (hc : Region.chainB md ops n = true) (hn : n < ops.size) (hin : i < n)
    (hdone : ∀ listed σ, L listed σ → ∀ j ∈ Region.ready md ops listed, n ≤ j) :
    ∀ (f : Nat) (listed : Array Bool) (σ : St), HeadInv md ops n listed →
      (∀ j oj, ops[j]? = some oj → j ≠ i → listed.getD j true = false → (∀ e ∈ oj.after, Region.binds md e = true → e.on ≠ i) → oi.apart ops oj = true) →
      i ∈ Region.ready md ops listed → YS P N ops σ oi r →
      AnyL P N md ops n L f (listed.setIfInBounds i true) (outS σ oi.dst r) → AnyL P N md ops n L (f + 1) listed σ := by
  intro f
  induction f with
  | zero =>
    intro listed σ inv _ hr hy H
    have hun := (mem_ready.1 hr).1
    refine ⟨fun h => (by rw [h] at hr; cases hr), fun j hj => ?_⟩
    have hjn : j < n := by
      rcases Nat.lt_or_ge j n with h | h
      · exact h
      · exact absurd hj (tail_waits hs hc hn inv _ i rfl hin hun j h)
    refine ⟨hjn, ?_⟩
    by_cases hji : j = i
    · subst hji; unfold QOp; simp only [hi]; exact ⟨r, hy, H⟩
    · have := hdone _ _ H j (ready_mono hj hji)
      omega
  | succ f ih =>
    intro listed σ inv hfree hr hy H
    have hun := (mem_ready.1 hr).1
    refine ⟨fun h => (by rw [h] at hr; cases hr), fun j hj => ?_⟩
    have hjn : j < n := by
      rcases Nat.lt_or_ge j n with h | h
      · exact h
      · exact absurd hj (tail_waits hs hc hn inv _ i rfl hin hun j h)
    refine ⟨hjn, ?_⟩
    by_cases hji : j = i
    · subst hji; unfold QOp; simp only [hi]; exact ⟨r, hy, H⟩
    · have h1 := (H.2 j (ready_mono hj hji)).2
      obtain ⟨hjun, oj, hoj, hall⟩ := mem_ready.1 hj
      have hnot : ∀ e ∈ oj.after, Region.binds md e = true → e.on ≠ i := fun e he hb heq => by
        have h1 := hall e he hb
        rw [heq, getD_both hun] at h1
        cases h1
      have h2 := QOp_put hoj (hfree j oj hoj hji hjun hnot) hy h1
      have hfree' : ∀ k ok, ops[k]? = some ok → k ≠ i → (listed.setIfInBounds j true).getD k true = false →
          (∀ e ∈ ok.after, Region.binds md e = true → e.on ≠ i) → oi.apart ops ok = true := fun k ok hk hki hun hno => by
        refine hfree k ok hk hki ?_ hno
        by_cases hjk : j = k
        · subst hjk; exact hjun
        · rw [getD_set_ne true hjk] at hun; exact hun
      refine h2.mono (fun σ' h3 => ih (listed.setIfInBounds j true) σ' (inv.set hj hjn) hfree' (ready_mono hr (Ne.symm hji)) h3.1 ?_)
      rw [Array.setIfInBounds_comm _ _ hji]
      exact h3.2

theorem AnyL_lex {n g : Nat} {Lq : St → Prop} (hs : Region.sinkB md ops n = true) (hc : Region.chainB md ops n = true) (hn : n < ops.size) :
    ∀ (l : List Oper) (k : Nat) (listed : Array Bool) (σ : St), (∀ j, j < l.length → l[j]? = ops[k + j]?) → k + l.length = n → HeadInv md ops n listed →
    Region.lexHead md ops g l.length k listed = true → RunQ P N ops Lq l σ →
    AnyL P N md ops n (fun listed' σ' => Region.seqB md ops g n listed' = true ∧ Lq σ') l.length listed σ
  | [], k, listed, σ, _, hk, _, hB, h => by
    have : k = n := by simpa using hk
    subst this
    exact ⟨by simpa [Region.lexHead] using hB, h⟩
  | o :: l, k, listed, σ, hl, hk, inv, hB, h => by
    have h0 : ops[k]? = some o := by simpa using (hl 0 (by simp)).symm
    simp only [List.length_cons, Region.lexHead, Bool.and_eq_true] at hB
    obtain ⟨⟨hr, hf⟩, hB'⟩ := hB
    have hkn : k < n := by simp only [List.length_cons] at hk; omega
    have hr' : k ∈ Region.ready md ops listed := by simpa using hr
    obtain ⟨r, hy, hK⟩ := h
    exact AnyL_first h0 hs hc hn hkn (fun listed' a' hL => seqB_ready hL.1) l.length listed σ inv (Region.free_spec h0 hf) hr' hy
      (AnyL_lex hs hc hn l (k + 1) _ _ (fun j hj => by have := hl (j + 1) (by simp; omega); simpa [Nat.add_assoc, Nat.add_comm 1 j] using this) (by simp only [List.length_cons] at hk; omega) (inv.set hr' hkn) hB' hK)

theorem AnyL.sound {n g : Nat} {L : Array Bool → St → Prop} {Q' : Exit → Act → World → Prop} (hL : ∀ listed σ I a w, L listed σ → Holds C σ I a w → wpAnyIn (fenceOf rd) 0 P md ops Q' g listed a w) :
    ∀ (f : Nat) (listed : Array Bool) (σ : St) (I : Nat → Prop) (a : Act) (w : World), Holds C σ I a w → AnyL P C.N md ops n L f listed σ → wpAnyIn (fenceOf rd) 0 P md ops Q' (f + g) listed a w
  | 0, listed, σ, I, a, w, hh, h => by rw [Nat.zero_add]; exact hL _ _ _ _ _ h hh
  | f + 1, listed, σ, I, a, w, hh, h => by
    rw [show f + 1 + g = (f + g) + 1 by omega]
    exact ⟨fun h0 => absurd h0 h.1, fun i hi => (h.2 i hi).2.sound hh fun σ' I' a' w' hK hh' => AnyL.sound hL f _ σ' I' a' w' hh' hK⟩

theorem wpAnyIn_of_seq {Q' : Exit → Act → World → Prop} : ∀ (l : List Oper) (k : Nat) (listed : Array Bool) (a : Act) (w : World), (∀ j, l[j]? = ops[k + j]?) →
    Region.seqB md ops l.length k listed = true → wpListIn (fenceOf rd) 0 P ops Q' l a w → wpAnyIn (fenceOf rd) 0 P md ops Q' l.length listed a w
  | [], _, _, _, _, _, hB, h => ⟨by simpa [Region.seqB] using hB, h⟩
  | o :: l, k, listed, a, w, hl, hB, h => by
    have h0 : ops[k]? = some o := by simpa using (hl 0).symm
    simp only [List.length_cons, Region.seqB, Bool.and_eq_true, decide_eq_true_eq] at hB
    refine ⟨fun h1 => (by rw [hB.1] at h1; cases h1), fun i hi => ?_⟩
    rw [hB.1] at hi
    have hik : i = k := by simpa using hi
    subst hik
    have hw : wpOpIn (fenceOf rd) 0 P ops Q' i (wpListIn (fenceOf rd) 0 P ops Q' l) a w := by unfold wpOpIn; simp only [h0]; exact h
    exact wpOpIn_mono (fun a' w' h' => wpAnyIn_of_seq l (i + 1) _ a' w' (fun j => by have := hl (j + 1); simpa [Nat.add_assoc, Nat.add_comm 1 j] using this) hB.2 h') hw

/-- A region that draws its order: quiet operations, then a tail whose order is forced. -/
theorem ev_drawt {id : Nat} {l : List Oper} {Q : Exit → St → Prop} (n : Nat) (hm : P.follows .mixedOrders = true) (hB : Region.lexTailB .any l.toArray n = true)
    (h : RunQ P X.N l.toArray (fun σ' => RunS X rd P l.toArray (l.drop n) σ' Q) (l.take n) σ) : Ev X rd P (.region id l.toArray true) σ Q := by
  intro C I a w hC hh
  have hN := X.hN _ _ hC
  simp only [Region.lexTailB, Bool.and_eq_true, decide_eq_true_eq] at hB
  obtain ⟨⟨⟨⟨_, hn⟩, hs⟩, hc⟩, hlex⟩ := hB
  have hn' : n < l.length := by simpa using hn
  have htl : (l.take n).length = n := by simp; omega
  have hdl : (l.drop n).length = l.toArray.size - n := by simp
  have inv0 : HeadInv .any l.toArray n (Array.replicate l.toArray.size false) :=
    ⟨by simp, fun j oj _ hl => (by rw [getD_replicate_false] at hl; cases hl), fun t _ ht => getD_in (by simpa using ht) (getD_replicate_false _ _)⟩
  rw [← hN] at h
  have h := RunQ_gh (g := σ.gh) rfl h
  have H := AnyL_lex (md := .any) (g := l.toArray.size - n) hs hc hn (l.take n) 0 _ σ (fun j hj => by
    have hj' : j < n := by rw [htl] at hj; exact hj
    simp [hj']) (by simpa using htl) inv0 (by rw [htl]; exact hlex) h
  refine wpIn_region_any hm ?_
  have := AnyL.sound (rd := rd) (Q' := Lift X Q) (g := l.toArray.size - n) (fun listed σ' I' a' w' hL hh' => by
    have := wpAnyIn_of_seq (rd := rd) (md := .any) (Q' := Lift X Q) (l.drop n) n listed a' w' (fun j => by simp [List.getElem?_drop]) (by rw [hdl]; exact hL.1) (hL.2.2 C I' a' w' (hL.2.1 ▸ hC) hh')
    rwa [hdl] at this) _ _ σ I a { w with drawn := w.drawn + 1 } hh.drew H
  rw [htl, show n + (l.toArray.size - n) = l.toArray.size by omega] at this
  exact this
end

/-! #### The rules of a walk in the text's order -/
def usedAsGuard (ops : Array Oper) (dst : Option Nat) : Bool := ops.toList.any fun o => match o.guard with | some (j, _) => (match (ops[j]?).bind (·.dst), dst with | some s, some t => Nat.beq s t | _, _ => false) | none => false

section
variable {P : Program} {N : Rm} {ops : Array Oper} {K : St → Prop} {rest : List Oper} {σ : St} {d : D} {dst : Option Nat} {op : Op} {tt : TypeId} {pos : String} {af : Array Edge} {g : Option (Nat × Bool)}
theorem qq (hg : guardOk N.n ops σ g = true) (hs : dstOk N dst = true) (hq : Quiet P σ.hp σ.ev ⟨dst, op, tt, pos, af, g⟩ d) (h : RunQ P N ops K rest (σ.put dst (normD d))) : RunQ P N ops K (⟨dst, op, tt, pos, af, g⟩ :: rest) σ := ⟨some (normD d), ⟨hs, .inl ⟨hg, hq.norm⟩⟩, h⟩
theorem qs (hg : guardNo N.n ops σ g = true) (hs : dstOk N dst = true) (h : RunQ P N ops K rest (σ.skip dst)) : RunQ P N ops K (⟨dst, op, tt, pos, af, g⟩ :: rest) σ := ⟨none, ⟨hg, hs⟩, h⟩
def memN (t : Nat) : List Nat → Bool
  | [] => false
  | s :: l => Nat.beq t s || memN t l
theorem of_memN {t : Nat} : ∀ {l : List Nat}, memN t l = true → t ∈ l
  | s :: l, h => by
    simp only [memN, Bool.or_eq_true] at h
    rcases h with h | h
    · rw [Nat.eq_of_beq_eq_true h]; exact List.mem_cons_self ..
    · exact List.mem_cons_of_mem _ (of_memN h)
def subN : List Nat → List Nat → Bool
  | [], _ => true
  | s :: l, m => memN s m && subN l m
theorem of_subN {m : List Nat} : ∀ {l : List Nat}, subN l m = true → ∀ t ∈ l, t ∈ m
  | s :: l, h, t, ht => by
    simp only [subN, Bool.and_eq_true] at h
    rcases List.mem_cons.1 ht with rfl | ht
    · exact of_memN h.1
    · exact of_subN h.2 t ht
/-- An operation whose guard is not decided. -/
theorem qc {l : List Nat} {c : Bool} (h : CondOk P N.n ops σ ⟨dst, op, tt, pos, af, g⟩ l c d) (hl : subN l (Oper.looksAt ops ⟨dst, op, tt, pos, af, g⟩) = true) (hs : dstOk N dst = true) (hr : RunQ P N ops K rest (σ.put dst (.cnd c d))) : RunQ P N ops K (⟨dst, op, tt, pos, af, g⟩ :: rest) σ :=
  ⟨some (.cnd c d), ⟨hs, .inr ⟨l, c, d, rfl, of_subN hl, h⟩⟩, hr⟩
theorem qn (h : K σ) : RunQ P N ops K [] σ := h
end
end Bf
