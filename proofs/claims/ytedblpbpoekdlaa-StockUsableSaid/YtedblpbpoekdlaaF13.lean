/- The engine, part 13: a range over a function, from the side of its body. No program is named here. -/
import Derived.Test.YtedblpbpoekdlaaF12
namespace Bf
open Go Go.RowKit

def putsF : List Nat → List V → (Nat → Option D) → Nat → Option D
  | p :: ps, x :: xs, f => upd (putsF ps xs f) p (.v false x)
  | _, _, f => f
def pinF (pins : List Nat) (f : Nat → Option D) : Nat → Option D := fun s => bif hasN pins s then f s else none
theorem pinF_some {pins : List Nat} {f : Nat → Option D} {s : Nat} {d : D} (h : pinF pins f s = some d) : hasN pins s = true ∧ f s = some d := by
  unfold pinF at h
  cases e : hasN pins s with
  | true => rw [e] at h; exact ⟨rfl, h⟩
  | false => rw [e] at h; cases h
def setsL : List Nat → List Value → Array Value → Array Value
  | p :: ps, v :: vs, t => setsL ps vs (t.setIfInBounds p v)
  | _, _, t => t
theorem setsL_fold : ∀ (ps : List Nat) (vs : List Value) (t : Array Value), (ps.zip vs).foldl (fun t (x : Nat × Value) => t.setIfInBounds x.1 x.2) t = setsL ps vs t
  | [], _, _ => by simp [setsL]
  | _ :: _, [], _ => by simp [setsL]
  | p :: ps, v :: vs, t => by simp only [List.zip_cons_cons, List.foldl_cons, setsL]; exact setsL_fold ps vs _
theorem setsL_size : ∀ (ps : List Nat) (vs : List Value) (t : Array Value), (setsL ps vs t).size = t.size
  | [], _, _ => by simp [setsL]
  | _ :: _, [], _ => by simp [setsL]
  | p :: ps, v :: vs, t => by simp only [setsL]; rw [setsL_size]; simp
theorem getD_set_other {t : Array Value} {p s : Nat} {v : Value} (h : s ≠ p) : (t.setIfInBounds p v).getD s undef = t.getD s undef := by
  simp only [Array.getD_eq_getD_getElem?, Array.getElem?_setIfInBounds_ne (Ne.symm h)]
theorem setsL_other {s : Nat} : ∀ (ps : List Nat) (vs : List Value) (t : Array Value), s ∉ ps → (setsL ps vs t).getD s undef = t.getD s undef
  | [], _, _, _ => by simp [setsL]
  | _ :: _, [], _, _ => by simp [setsL]
  | p :: ps, v :: vs, t, h => by
    simp only [setsL]
    rw [setsL_other ps vs _ (fun hm => h (List.mem_cons_of_mem _ hm)), getD_set_other (fun e => h (by simp [e]))]
theorem putsF_rep {Rep : D → Value → Prop} {f : Nat → Option D} : ∀ {ps : List Nat} {xs : List V} {vs : List Value} {t : Array Value}, ps.Nodup → (∀ p ∈ ps, p < t.size) → xs.length = vs.length → (∀ (i : Nat) x v, xs[i]? = some x → vs[i]? = some v → Rep (.v false x) v) →
    (∀ s d, f s = some d → s ∉ ps ∧ Rep d (t.getD s undef)) → ∀ s d, putsF ps xs f s = some d → Rep d ((setsL ps vs t).getD s undef)
  | [], _, _, _, _, _, _, _, hf, s, d, h => by simp only [putsF, setsL] at *; exact (hf s d h).2
  | p :: ps, [], vs, t, _, _, hl, _, hf, s, d, h => by
    have : vs = [] := List.eq_nil_of_length_eq_zero (by simpa using hl.symm)
    subst this
    simp only [putsF, setsL] at *; exact (hf s d h).2
  | p :: ps, x :: xs, [], _, _, _, hl, _, _, _, _, _ => by simp at hl
  | p :: ps, x :: xs, v :: vs, t, hnd, hlt, hl, hr, hf, s, d, h => by
    simp only [putsF, setsL] at *
    obtain ⟨hp, hnd'⟩ := List.nodup_cons.1 hnd
    rcases upd_some h with ⟨rfl, rfl⟩ | ⟨hne, h'⟩
    · rw [setsL_other _ _ _ hp]
      have : (t.setIfInBounds s v).getD s undef = v := by
        have := hlt s (by simp)
        simp [Array.getD_eq_getD_getElem?, this]
      rw [this]
      exact hr 0 x v rfl rfl
    · refine putsF_rep hnd' (fun q hq => by rw [Array.size_setIfInBounds]; exact hlt q (List.mem_cons_of_mem _ hq)) (by simpa using hl) (fun i y u hy hu => hr (i + 1) y u (by simpa using hy) (by simpa using hu)) (fun j e he => ?_) s d h'
      obtain ⟨h1, h2⟩ := hf j e he
      exact ⟨fun hm => h1 (List.mem_cons_of_mem _ hm), by rw [getD_set_other (fun e => h1 (by simp [e]))]; exact h2⟩

/-- The state where a range over a function begins. -/
def rangeSt (σ : St) (kD kL D l : Nat) (o : Obj) : St :=
  ⟨σ.fr, set2 (set2 σ.hp kD 0 (some (some (D, 0), .obj (.deferred (some []))))) kL 0 (some (some (l, 0), .obj o)), { target := .collected D, args := #[] } :: σ.df, σ.gh⟩

/-- What is said of the enclosing frame is said of slots that no round writes. -/
structure Cov (pins : List Nat) (σ1 σ2 : St) : Prop where
  fr : ∀ s d, σ1.fr s = some d → hasN pins s = true ∧ σ2.fr s = some d
  hp : ∀ k i b, σ1.hp k i = some b → σ2.hp k i = some b
  gh : σ1.gh = σ2.gh

inductive Jump : Exit → Code → Prop
  | ret : Jump .ret .ret
  | exit (id : Nat) : Jump (.exit id) (.exit id)
  | goto (t : Nat) : Jump (.goto t) (.goto t)

/-- What is asked at a round's end. -/
def RoundQ (pins : List Nat) (kL l : Nat) (L : LoopState → Option Code → Obj) (df : List Deferred) (next : St → Prop) (Q : Exit → St → Prop) : Exit → St → Prop
  | .normal, σ => σ.hp kL 0 = some (some (l, 0), .obj (L .busy none)) ∧ ∃ σ1, next σ1 ∧ Cov pins σ1 (σ.setH kL 0 (some (some (l, 0), .obj (L .ready none))))
  | .panic _, _ => False
  | .outgrown, _ => False
  | e, σ => σ.hp kL 0 = some (some (l, 0), .obj (L .busy none)) ∧ ∃ σ1, σ1.df = df ∧ Cov pins σ1 (σ.setH kL 0 none) ∧ Q e σ1

section
variable {X : Cx} {P : Program} {σ : St} {Q : Exit → St → Prop}

/-- The round's context: back to the enclosing frame's. -/
theorem Holds.back {C Cr : Ctx} {σ1 σ2 : St} {I' : Nat → Prop} {a1 a2 : Act} {w1 w2 : World} {pins : List Nat} (h : Holds Cr σ2 I' a2 w2) (hC : C.N.fits a1.tmps) (hdf : a1.defers = σ1.df) (hcov : Cov pins σ1 σ2)
    (hpin : ∀ s, hasN pins s = true → a2.tmps.getD s undef = a1.tmps.getD s undef) (hb : Cr.base = C.base) (hos : Cr.W0 = w1) (o1 : w1.os = C.W0.os) (o2 : w1.tape = C.W0.tape) (o3 : w1.output = C.W0.output) (osz : C.W0.heap.size ≤ w1.heap.size)
    (hK : ∀ b, C.K b → Cr.K b ∧ w1.heap[b]? = C.W0.heap[b]?) (hI0 : ∀ b, C.I0 b → Cr.I0 b) (hI : ∀ b, Cr.I0 b → C.I0 b ∨ ¬ C.K b) : Holds C σ1 I' a1 w2 := by
  subst hos
  refine ⟨hdf, hC, ⟨h.wok.os.trans o1, h.wok.tape.trans o2, h.wok.output.trans o3, hb ▸ h.wok.size, Nat.le_trans osz h.wok.wsz, fun b hk => h.wok.ksz b (hK b hk).1, fun b hk => (h.wok.old b (hK b hk).1).trans (hK b hk).2, h.wok.ilt, fun b hb => h.wok.i0 b (hI0 b hb), fun b hb => ?_,
    fun k i pl blk hk => hb ▸ h.wok.own k i pl blk (hcov.hp k i _ hk), fun k i k' i' b n n' blk blk' h1 h2 => h.wok.inj k i k' i' b n n' blk blk' (hcov.hp _ _ _ h1) (hcov.hp _ _ _ h2), fun k i b n blk hk => ?_, fun k i b n blk hk => hb ▸ h.wok.lo k i b n blk (hcov.hp _ _ _ hk)⟩, fun s d hs => ?_⟩
  · rcases h.wok.inew b hb with h1 | h1
    · exact hI b h1
    · exact .inr fun hk => h1 (hK b hk).1
  · obtain ⟨h1, h2, h3⟩ := h.wok.owned k i b n blk (hcov.hp _ _ _ hk)
    exact ⟨h1, h2, fun hk => h3 (hK b hk).1⟩
  · obtain ⟨h1, h2⟩ := hcov.fr s d hs
    rw [← hpin s h1]
    exact hb ▸ h.fr s d h2

theorem Holds.hpLe {C : Ctx} {fr : Nat → Option D} {hp hp' : Hp} {df : List Deferred} {gh : Nat × Bool} {I : Nat → Prop} {a : Act} {w : World} (h : Holds C ⟨fr, hp, df, gh⟩ I a w) (hl : ∀ k i b, hp' k i = some b → hp k i = some b) : Holds C ⟨fr, hp', df, gh⟩ I a w :=
  h.le ⟨fun _ _ h => h, hl, rfl, rfl⟩

theorem ev_rangeR {Rd : World → Prop} {g : Operand} {ps : List Nat} {assign body : Code} {gf : FuncId} {caps : List V} {els : List (List V)} {fl : Bool} (hg : σ.ev g = some (.v fl (.c gf caps))) (hf : TFn P gf) (hseq : SeqCR P Rd gf caps els) (kD kL : Nat) (pins : List Nat)
    (hpp : (ps.all fun p => Nat.blt p X.N.n && !hasN pins p) = true) (hnd : ps.Nodup) (hlen : ∀ (n : Nat) args, els[n]? = some args → args.length = ps.length)
    (h : ∀ (D l : Nat) (L : LoopState → Option Code → Obj), ∃ Inv : Nat → St → Prop,
      (∃ σ0, Inv 0 σ0 ∧ σ0.le (rangeSt σ kD kL D l (L .ready none))) ∧
      (∀ n σn, Inv n σn → ∀ (C : Ctx) (I : Nat → Prop) (a : Act) (w : World), Holds C σn I a w → Rd w) ∧
      (∀ n σn, Inv n σn → σn.hp kL 0 = some (some (l, 0), .obj (L .ready none)) ∧ σn.df = { target := .collected D, args := #[] } :: σ.df ∧ σn.gh = σ.gh) ∧
      (∀ (n : Nat) (args : List V) (σn : St) (val : Nat → Value) (is : Nat × Bool → Ctx → Prop) (hN : ∀ g C, is g C → C.N = ⟨X.N.n, pins, val⟩), els[n]? = some args → Inv n σn → (X.clean σ.gh → ∀ g, (Cx.mk ⟨X.N.n, pins, val⟩ is hN).clean g) →
        Ev ⟨⟨X.N.n, pins, val⟩, is, hN⟩ (some l) P assign ⟨putsF ps args (pinF pins σn.fr), σn.hp, [], σ.gh⟩
          (thenQ (fun σ' => σ'.hp kL 0 = some (some (l, 0), .obj (L .ready none)) ∧ Ev ⟨⟨X.N.n, pins, val⟩, is, hN⟩ (some l) P body (σ'.setH kL 0 (some (some (l, 0), .obj (L .busy none)))) (RoundQ pins kL l L ({ target := .collected D, args := #[] } :: σ.df) (Inv (n + 1)) Q)) (fun _ _ => False))) ∧
      (∀ σN, Inv els.length σN → Q .normal (σN.setH kL 0 none))) :
    Ev X none P (.rangeFunc g ps.toArray assign body) σ Q := by
  intro C I a w hC hh
  have hCN := X.hN _ _ hC
  obtain ⟨cs, hgv, hcs⟩ := (hh.ev hg).v_inv.c_inv
  refine wpIn_rangeFunc fun fn hfn => ?_
  obtain ⟨L, hL⟩ : ∃ L : LoopState → Option Code → Obj, L = fun st pe => .loop { state := st, pending := pe, fn, tmps := a.tmps, params := ps.toArray, assign, body, defers := w.heap.size } := ⟨_, rfl⟩
  obtain ⟨W1, hW1⟩ : ∃ W1, (w.alloc (.deferred (some []))).alloc (L .ready none) = W1 := ⟨_, rfl⟩
  have h1 := hh.lay kD 0 0 (.obj (.deferred (some []))) (keeps_alloc w (.deferred (some []))) (by simp) ⟨w.heap.size, 0, rfl, heap_alloc_new w _⟩
  have h2 := h1.lay kL 0 0 (.obj (L .ready none)) (keeps_alloc (w.alloc (.deferred (some []))) (L .ready none)) (by simp) ⟨_, 0, rfl, heap_alloc_new (w.alloc (.deferred (some []))) (L .ready none)⟩
  have hs1 : (w.alloc (.deferred (some []))).heap.size = w.heap.size + 1 := by simp
  rw [hs1] at h2
  rw [hW1] at h2
  obtain ⟨a1, ha1⟩ : ∃ a1 : Act, a1 = { a with defers := { target := .collected w.heap.size, args := #[] } :: a.defers } := ⟨_, rfl⟩
  have h3 : Holds C (rangeSt σ kD kL w.heap.size (w.heap.size + 1) (L .ready none)) I a1 W1 := ⟨by rw [ha1]; exact congrArg _ hh.df, by rw [ha1]; exact h2.sz, h2.wok, fun s d hs => by rw [ha1]; exact h2.fr s d hs⟩
  obtain ⟨Inv, ⟨σ0, hI0, hle0⟩, hRd, hInv, hround, hdone⟩ := h w.heap.size (w.heap.size + 1) L
  have h4 := h3.le hle0
  have ha1t : a1.tmps = a.tmps := by rw [ha1]
  have hW1s : W1.heap.size = w.heap.size + 2 := by rw [← hW1]; simp
  -- what is kept between two rounds
  let F : St → (Nat → Prop) → (Nat → Prop) → (Nat → Prop) → World → Prop := fun σ I S M W => (∀ b, S b → b < W.heap.size ∧ ¬ Owned σ.hp b ∧ ¬ C.K b) ∧ (∀ b, M b → ¬ I b ∧ ¬ Owned σ.hp b ∧ ¬ C.K b ∧ C.base ≤ b)
  let J : Jt := fun g S M W => (g.2 = false ∧ ∃ σn I', Inv g.1 σn ∧ Holds C σn I' a1 W ∧ F σn I' S M W ∧ (∀ b, I b → I' b)) ∨
    (g.2 = true ∧ ∃ e c σ1 I', Jump e c ∧ Q e σ1 ∧ (X.is σ1.gh C ∧ ∀ k i b, σ1.hp k i = some b → ¬ (k = kL ∧ i = 0)) ∧ Holds C (σ1.setH kL 0 (some (some (w.heap.size + 1, 0), .obj (L .done (some c))))) I' a1 W ∧ F (σ1.setH kL 0 (some (some (w.heap.size + 1, 0), .obj (L .done (some c))))) I' S M W)
  have keepF : ∀ {σ' : St} {I' S M S' M' : Nat → Prop} {wa wb : World}, Holds C σ' I' a1 wa → F σ' I' S M wa → Chg M wa wb → (∀ b, S' b → S b ∨ (wa.heap.size ≤ b ∧ b < wb.heap.size)) → (∀ b, M' b → M b ∨ (wa.heap.size ≤ b ∧ b < wb.heap.size)) → Holds C σ' I' a1 wb ∧ F σ' I' S' M' wb := by
    intro σ' I' S M S' M' wa wb hH hF hc hS hM
    refine ⟨hH.foreign hc (fun b hb => ⟨(hF.2 b hb).1, (hF.2 b hb).2.1⟩) (fun b hb => (hF.2 b hb).2.2.1) (fun b hb => (hF.2 b hb).2.2.2), fun b hb => ?_, fun b hb => ?_⟩
    · rcases hS b hb with h | h
      · exact ⟨Nat.lt_of_lt_of_le (hF.1 b h).1 hc.size, (hF.1 b h).2⟩
      · exact ⟨h.2, fun ho => by have := (hH.owned_lt ho).1; omega, fun hk => by have := hH.wok.ksz b hk; omega⟩
    · rcases hM b hb with h | h
      · exact hF.2 b h
      · exact ⟨fun hi => by have := hH.wok.ilt b hi; omega, fun ho => by have := (hH.owned_lt ho).1; omega, fun hk => by have := hH.wok.ksz b hk; omega, Nat.le_trans hH.wok.size h.1⟩
  have hJ : JOk J := by
    intro g S M S' M' wa wb hJ0 hc hS hM
    rcases hJ0 with ⟨hg2, σn, In, hi, hH, hF, hsub⟩ | ⟨hg2, e, c, σ1, In, hj, hq, hx, hH, hF⟩
    · obtain ⟨q1, q2⟩ := keepF hH hF hc hS hM
      exact .inl ⟨hg2, σn, In, hi, q1, q2, hsub⟩
    · obtain ⟨q1, q2⟩ := keepF hH hF hc hS hM
      exact .inr ⟨hg2, e, c, σ1, In, hj, hq, hx, q1, q2⟩
  have hY : YieldOk P (w.heap.size + 1) I J els := by
    intro n S M wa T args vs he hJ0 hMS hT hvs
    rcases hJ0 with ⟨_, σn, In, hi, hH, hF, hsub⟩ | ⟨hg2, _⟩
    case inr => exact absurd hg2 (by simp)
    obtain ⟨hkL, hdf, hgh⟩ := hInv n σn hi
    obtain ⟨_, _, e0, hrec⟩ := hH.wok.own kL 0 _ _ hkL
    cases e0
    have hsz : vs.length = ps.length := by rw [← hvs.1]; exact hlen n args he
    have hy := run_yield (P := P) (args := vs.toArray) (w := wa) (l := w.heap.size + 1) (by rw [hL] at hrec; exact hrec) (by simp [hsz])
    refine ⟨fn, _, assign, body, hy, ?_⟩
    have htm : (Array.zip ps.toArray vs.toArray).foldl (fun tmps (x : Nat × Value) => tmps.setIfInBounds x.1 x.2) a.tmps = setsL ps vs a.tmps := by
      rw [← setsL_fold]; simp
    have hpp' : ∀ p ∈ ps, p < X.N.n ∧ hasN pins p = false := fun p hp => by
      have := List.all_eq_true.1 hpp p hp
      simp only [Bool.and_eq_true, Bool.not_eq_true'] at this
      exact ⟨by simpa using this.1, this.2⟩
    have hfit : (⟨X.N.n, pins, fun s => a.tmps.getD s undef⟩ : Rm).fits (setsL ps vs a.tmps) := by
      refine ⟨by rw [setsL_size, hh.sz.1, hCN], fun s hs => setsL_other _ _ _ fun hm => ?_⟩
      rw [(hpp' s hm).2] at hs; cases hs
    have hTo : ∀ b, (In b ∨ T b) → b < wa.heap.size ∧ ¬ Owned σn.hp b := fun b hb => by
      rcases hb with hb | hb
      · exact ⟨hH.wok.ilt b hb, hH.not_owned hb⟩
      · obtain ⟨t1, t2, t3⟩ := hT b hb
        refine ⟨t1, ?_⟩
        rcases t2 with t2 | t2
        · exact hH.not_owned (hsub b t2)
        · exact (hF.1 b t2).2.1
    have hstart : Holds (C.anew ⟨X.N.n, pins, fun s => a.tmps.getD s undef⟩ (fun b => In b ∨ T b) σn.hp wa) ⟨putsF ps args (pinF pins σn.fr), σn.hp, [], σ.gh⟩ (fun b => In b ∨ T b) { tmps := setsL ps vs a.tmps, defers := [] } wa := by
      refine hH.moved (M := fun _ => False) (Chg.refl wa) (fun _ h => h.elim) _ (fun b hb => .inl hb) hTo hfit (fun _ _ _ h => h) (fun _ _ _ _ _ => .inr fun _ _ => rfl) rfl ?_
      refine putsF_rep (Rep := fun d v => DRep wa (fun b => In b ∨ T b) C.base d v) hnd (fun p hp => by rw [hh.sz.1, hCN]; exact (hpp' p hp).1) hvs.1 (fun i x v hx hv => .v _ _ _ ((hvs.2 i x v hx hv).mono (fun _ _ => rfl) (fun b hb => ⟨.inr hb, fun e => by cases e⟩))) (fun s d hs => ?_)
      obtain ⟨q1, q2⟩ := pinF_some hs
      refine ⟨fun hm => absurd q1 (by rw [(hpp' s hm).2]; simp), ?_⟩
      have := hH.fr s d q2
      rw [ha1t] at this
      exact this.mono (fun _ _ => rfl) (fun b hb => .inl hb) 
    have hclean : X.clean σ.gh → ∀ g, (Cx.mk ⟨X.N.n, pins, fun s => a.tmps.getD s undef⟩ (fun g C' => g = σ.gh ∧ C' = C.anew ⟨X.N.n, pins, fun s => a.tmps.getD s undef⟩ (fun b => In b ∨ T b) σn.hp wa) (fun _ _ h => by rw [h.2]; rfl)).clean g := by
      rintro hcl g C' ⟨_, rfl⟩ b hb
      by_cases hlt : b < wa.heap.size
      · have ho : Owned σn.hp b := Classical.byContradiction fun ho => hb ⟨hlt, ho⟩
        exact hcl C hC b (hH.owned_lt ho).2.2
      · exact Nat.le_trans hH.wok.size (Nat.le_of_not_lt hlt)
    have hev := hround n args σn (fun s => a.tmps.getD s undef) (fun g C' => g = σ.gh ∧ C' = C.anew ⟨X.N.n, pins, fun s => a.tmps.getD s undef⟩ (fun b => In b ∨ T b) σn.hp wa) (fun _ _ h => by rw [h.2]; rfl) he hi hclean
    refine roundIn_of_wpIn (F := fenceOf none) hfn ?_
    rw [show (ps.toArray.zip vs.toArray).foldl (fun tmps (t, a) => tmps.setIfInBounds t a) a.tmps = setsL ps vs a.tmps from htm]
    refine wpIn_mono (hev _ _ _ _ ⟨rfl, rfl⟩ hstart) ?_
    rintro e a2 w2 ⟨C2, σ2, I2, ⟨hg2, rfl⟩, hq2, hh2⟩
    cases e with
    | normal =>
      obtain ⟨hk2, hbody⟩ := hq2
      obtain ⟨hrec2, hh3⟩ := hh2.turnObj (L .busy none) hk2
      refine ⟨w2.putObj (w.heap.size + 1) (L .busy none), ?_, ?_⟩
      · rw [hL] at hrec2 ⊢; exact run_beginRound hrec2 rfl
      refine wpIn_mono (hbody _ _ _ _ ⟨hg2, rfl⟩ hh3) ?_
      rintro e3 a3 w3 ⟨C3, σ3, I3, ⟨hg3, rfl⟩, hq3, hh4⟩
      -- back to the enclosing frame
      have hback : ∀ (σ1 σ3' : St) (w4 : World), Holds (C.anew ⟨X.N.n, pins, fun s => a.tmps.getD s undef⟩ (fun b => In b ∨ T b) σn.hp wa) σ3' I3 a3 w4 → σ1.df = { target := .collected w.heap.size, args := #[] } :: σ.df → Cov pins σ1 σ3' →
          Holds C σ1 I3 a1 w4 ∧ F σ1 I3 S M w4 ∧ (∀ b, I b → I3 b) ∧ Chg (fun b => ¬ (I b ∨ S b)) wa w4 := by
        intro σ1 σ3' w4 hh5 hd5 hcov
        have hKr : ∀ b, C.K b → b < wa.heap.size ∧ ¬ Owned σn.hp b := fun b hk => ⟨hH.wok.ksz b hk, fun ho => (hH.owned_lt ho).2.2 hk⟩
        have hold : ∀ b, b < wa.heap.size → ¬ Owned σn.hp b → w4.heap[b]? = wa.heap[b]? := fun b h1 h2 => hh5.wok.old b ⟨h1, h2⟩
        refine ⟨hh5.back (w1 := wa) (by rw [ha1t]; exact hh.sz) (by rw [ha1, hd5]; exact congrArg _ hh.df) hcov (fun s hs => ?_) rfl rfl hH.wok.os hH.wok.tape hH.wok.output hH.wok.wsz (fun b hk => ⟨hKr b hk, hH.wok.old b hk⟩) (fun b hb => .inl (hH.wok.i0 b hb)) (fun b hb => ?_), ⟨fun b hb => ?_, fun b hb => ?_⟩, fun b hb => hh5.wok.i0 b (.inl (hsub b hb)), ⟨hh5.wok.os, hh5.wok.tape, hh5.wok.output, hh5.wok.wsz, fun b hb hn => ?_⟩⟩
        · exact (hh5.sz.2 s hs).trans (by rw [ha1t]; rfl)
        · rcases hb with hb | hb
          · exact hH.wok.inew b hb
          · obtain ⟨t1, t2, t3⟩ := hT b hb
            rcases t2 with t2 | t2
            · exact hH.wok.inew b (hsub b t2)
            · by_cases hk : C.K b
              · exact .inl (Classical.byContradiction fun _ => (hF.1 b t2).2.2 hk)
              · exact .inr hk
        · refine ⟨Nat.lt_of_lt_of_le (hF.1 b hb).1 hh5.wok.wsz, ?_, (hF.1 b hb).2.2⟩
          rintro ⟨k, i, n, blk, q1⟩
          have := (hh5.wok.owned k i b n blk (hcov.hp _ _ _ q1)).2.2
          exact this ⟨(hF.1 b hb).1, (hF.1 b hb).2.1⟩
        · obtain ⟨m1, m2, m3, m4⟩ := hF.2 b hb
          refine ⟨fun hi3 => ?_, ?_, m3, m4⟩
          · rcases hh5.wok.inew b hi3 with q | q
            · rcases q with q | q
              · exact m1 q
              · exact (hT b q).2.2 hb
            · exact q ⟨(hF.1 b (hMS b hb)).1, m2⟩
          · rintro ⟨k, i, n, blk, q1⟩
            exact (hh5.wok.owned k i b n blk (hcov.hp _ _ _ q1)).2.2 ⟨(hF.1 b (hMS b hb)).1, m2⟩
        · have hn' : I b ∨ S b := Classical.byContradiction hn
          refine hold b hb ?_
          rcases hn' with q | q
          · exact hH.not_owned (hsub b q)
          · exact (hF.1 b q).2.1
      have fin3 : ∀ (e3 : Exit) (c : Code), Jump e3 c → (σ3.hp kL 0 = some (some (w.heap.size + 1, 0), .obj (L .busy none)) ∧ ∃ σ1, σ1.df = { target := .collected w.heap.size, args := #[] } :: σ.df ∧ Cov pins σ1 (σ3.setH kL 0 none) ∧ Q e3 σ1) →
          ∃ v w', (Instr.endRound (w.heap.size + 1) (some c)).run P w3 = .ok v w' ∧ ∃ c' : Bool, Ending.returned v = .returned (.bool c') ∧ J (n + 1, !c') S M w' ∧ Chg (fun b => ¬ (I b ∨ S b)) wa w' := by
        rintro e3 c hj ⟨hk3, σ1, hd1, hcov, hQ1⟩
        obtain ⟨hrec3, hh5⟩ := hh4.turnObj (L .done (some c)) hk3
        obtain ⟨r1, r2, r3, r4⟩ := hback (σ1.setH kL 0 (some (some (w.heap.size + 1, 0), .obj (L .done (some c))))) _ _ hh5 hd1 ⟨hcov.fr, fun k i b hb => by
          rcases set2_some hb with ⟨rfl, rfl, e⟩ | ⟨hne, hb'⟩
          · exact (set2_same _ _ _ _).trans e
          · have h7 := hcov.hp k i b hb'
            rcases set2_some h7 with ⟨_, _, e⟩ | ⟨_, h8⟩
            · cases e
            · exact (set2_other _ _ hne).trans h8, hcov.gh⟩
        exact ⟨.bool false, _, by rw [hL] at hrec3 ⊢; exact run_endRound (some c) hrec3, false, rfl, .inr ⟨rfl, e3, c, σ1, I3, hj, hQ1, ⟨(hcov.gh.trans hg3) ▸ hC, fun k i b hb => by
          rcases set2_some (hcov.hp k i b hb) with ⟨_, _, e⟩ | ⟨h8, _⟩
          · cases e
          · exact h8⟩, r1, r2⟩, r4⟩
      cases e3 with
      | normal =>
        obtain ⟨hk3, σ1, hnx, hcov⟩ := hq3
        obtain ⟨hrec3, hh5⟩ := hh4.turnObj (L .ready none) hk3
        obtain ⟨r1, r2, r3, r4⟩ := hback σ1 _ _ hh5 (hInv _ _ hnx).2.1 hcov
        exact ⟨.bool true, _, by rw [hL] at hrec3 ⊢; exact run_endRound none hrec3, true, rfl, .inl ⟨rfl, σ1, I3, hnx, r1, r2, r3⟩, r4⟩
      | ret => exact fin3 .ret .ret .ret hq3
      | exit id => exact fin3 _ _ (.exit id) hq3
      | goto t => exact fin3 _ _ (.goto t) hq3
      | panic ch => exact hq3.elim
      | outgrown => exact hq3.elim
    | _ => exact hq2.elim
  have hJ0 : J (0, false) (fun _ => False) (fun _ => False) W1 := .inl ⟨rfl, σ0, I, hI0, h4, ⟨fun _ h => h.elim, fun _ h => h.elim⟩, fun _ h => h⟩
  have hW1b : ∀ b, I b → W1.heap[b]? = w.heap[b]? := fun b hb => by
    have hb' := hh.wok.ilt b hb
    rw [← hW1]
    exact ((keeps_alloc _ _).block b (by simp; omega)).trans ((keeps_alloc _ _).block b hb')
  have hcall := hseq (w.heap.size + 1) J cs W1 I (fun b hb => by have := hh.wok.ilt b hb; omega) (hcs.mono (fun b hb => hW1b b hb.1) (fun b hb => hb.1)) hJ hY (fun g S M w' hg hj => by
    rcases hj with ⟨_, σn, In, hi, hH, _, _⟩ | ⟨h2, _⟩
    · exact hRd _ _ hi _ _ _ _ hH
    · rw [hg] at h2; cases h2) hJ0
  refine ⟨w.heap.size + 1, [{ target := .collected w.heap.size, args := #[] }], W1, { target := .fn (.func gf) cs.toArray, args := #[.func (.yield (w.heap.size + 1)) #[] #[]] }, W1, gf,
    #[.func (.yield (w.heap.size + 1)) #[] #[]] ++ cs.toArray, W1, ?_, ?_, fun _ _ => trivial, ?_, fun e => absurd e (by simp [fenceOf, Fence.wide]), ?_⟩
  · rw [← hW1, hL]; exact run_enterLoop_outer _ _ _ _ _
  · simp only [resolve, hgv]
    simp [go_sem]
  · simp [invoke, go_sem, run_callFunc hf.h]
  · refine hcall.mono ?_
    rintro e W2 ⟨⟨v, rfl⟩, g2, S, M, hJ2, hg2⟩
    rcases hJ2 with ⟨hf2, σn, In, hi, hH, hF, hsub⟩ | ⟨hf2, e, c, σ1, In, hj, hq, hx, hH, hF⟩
    · have hg2' : g2 = (els.length, false) := hg2.resolve_right (by rw [hf2]; simp)
      subst hg2'
      obtain ⟨hkL, hdf, hgh⟩ := hInv _ σn hi
      obtain ⟨hrec, hH2⟩ := hH.turnObj (L .exhausted none) hkL
      refine ⟨none, W2.putObj (w.heap.size + 1) (L .exhausted none), by rw [hL] at hrec ⊢; exact run_endLoop hrec (by simp), ?_⟩
      refine ⟨C, (σn.setH kL 0 none), In, hgh ▸ hC, hdone σn hi, ?_⟩
      have := hH2.le (σ' := (σn.setH kL 0 none)) ⟨fun _ _ h => h, fun k i b h => by
        rcases set2_some h with ⟨_, _, e⟩ | ⟨h8, h9⟩
        · cases e
        · exact (set2_other _ _ h8).trans h9, rfl, rfl⟩
      rw [ha1] at this
      exact this
    · have hkL : (σ1.setH kL 0 (some (some (w.heap.size + 1, 0), .obj (L .done (some c))))).hp kL 0 = some (some (w.heap.size + 1, 0), .obj (L .done (some c))) := set2_same _ _ _ _
      obtain ⟨hrec, hH2⟩ := hH.turnObj (L .exhausted (some c)) hkL
      refine ⟨some c, W2.putObj (w.heap.size + 1) (L .exhausted (some c)), by rw [hL] at hrec ⊢; exact run_endLoop hrec (by simp), ?_⟩
      have hfin := hH2.le (σ' := σ1) ⟨fun _ _ h => h, fun k i b h => by
        have hne := hx.2 k i b h
        exact (set2_other _ _ hne).trans ((set2_other _ _ hne).trans h), rfl, rfl⟩
      rw [ha1] at hfin
      have hl : Lift X Q e { a with defers := { target := .collected w.heap.size, args := #[] } :: a.defers } (W2.putObj (w.heap.size + 1) (L .exhausted (some c))) := ⟨C, σ1, In, hx.1, hq, hfin⟩
      cases hj with
      | ret => exact wpIn_ret hl
      | exit id => exact wpIn_exit hl
      | goto t => exact wpIn_goto hl

theorem ev_range {g : Operand} {ps : List Nat} {assign body : Code} {gf : FuncId} {caps : List V} {els : List (List V)} {fl : Bool} (hg : σ.ev g = some (.v fl (.c gf caps))) (hf : TFn P gf) (hseq : SeqC P gf caps els) (kD kL : Nat) (pins : List Nat)
    (hpp : (ps.all fun p => Nat.blt p X.N.n && !hasN pins p) = true) (hnd : ps.Nodup) (hlen : ∀ (n : Nat) args, els[n]? = some args → args.length = ps.length)
    (h : ∀ (D l : Nat) (L : LoopState → Option Code → Obj), ∃ Inv : Nat → St → Prop,
      (∃ σ0, Inv 0 σ0 ∧ σ0.le (rangeSt σ kD kL D l (L .ready none))) ∧
      (∀ n σn, Inv n σn → σn.hp kL 0 = some (some (l, 0), .obj (L .ready none)) ∧ σn.df = { target := .collected D, args := #[] } :: σ.df ∧ σn.gh = σ.gh) ∧
      (∀ (n : Nat) (args : List V) (σn : St) (val : Nat → Value) (is : Nat × Bool → Ctx → Prop) (hN : ∀ g C, is g C → C.N = ⟨X.N.n, pins, val⟩), els[n]? = some args → Inv n σn → (X.clean σ.gh → ∀ g, (Cx.mk ⟨X.N.n, pins, val⟩ is hN).clean g) →
        Ev ⟨⟨X.N.n, pins, val⟩, is, hN⟩ (some l) P assign ⟨putsF ps args (pinF pins σn.fr), σn.hp, [], σ.gh⟩
          (thenQ (fun σ' => σ'.hp kL 0 = some (some (l, 0), .obj (L .ready none)) ∧ Ev ⟨⟨X.N.n, pins, val⟩, is, hN⟩ (some l) P body (σ'.setH kL 0 (some (some (l, 0), .obj (L .busy none)))) (RoundQ pins kL l L ({ target := .collected D, args := #[] } :: σ.df) (Inv (n + 1)) Q)) (fun _ _ => False))) ∧
      (∀ σN, Inv els.length σN → Q .normal (σN.setH kL 0 none))) :
    Ev X none P (.rangeFunc g ps.toArray assign body) σ Q :=
  ev_rangeR (Rd := fun _ => True) hg hf hseq.toR kD kL pins hpp hnd hlen fun D l L => by
    obtain ⟨Inv, h1, h2, h3, h4⟩ := h D l L
    exact ⟨Inv, h1, fun _ _ _ _ _ _ _ _ => trivial, h2, h3, h4⟩
end

/-- Two results, with marks among the deferred calls. -/
theorem retm_ib {P : Program} {fr f1 f2 : Bool} {t1 t2 : Nat} {σ : St} {k : IntKind} {p : Int} {q : Bool} {r : Int × Bool} {hp' : Hp} (hu : Unmark σ.hp σ.df hp') (h1 : σ.fr t1 = some (.v f1 (.i k p))) (h2 : σ.fr t2 = some (.v f2 (.b q))) (hx : (p, q) = r) :
    RetQ P [.tmp t1, .tmp t2] fr (.t [.i k r.1, .b r.2]) .ret σ := by
  subst hx
  exact ⟨.inl rfl, hp', hu, [_, _], rfl, .cons (.flat h1 (Flat.i _ _)) (.cons (.flat h2 (Flat.b _)) .nil)⟩

section
variable {X : Cx} {rd : Option Nat} {P : Program} {σ : St} {Q : Exit → St → Prop}
theorem ev_condt {c : Operand} {x y : Code} {f : Bool} (hc : σ.ev c = some (.v f (.b true))) (ht : Ev X rd P x σ Q) : Ev X rd P (.cond c x y) σ Q := ev_cond hc (fun _ => ht) (fun h => by cases h)
theorem ev_condf {c : Operand} {x y : Code} {f : Bool} (hc : σ.ev c = some (.v f (.b false))) (hf : Ev X rd P y σ Q) : Ev X rd P (.cond c x y) σ Q := ev_cond hc (fun h => by cases h) (fun _ => hf)
end
end Bf
