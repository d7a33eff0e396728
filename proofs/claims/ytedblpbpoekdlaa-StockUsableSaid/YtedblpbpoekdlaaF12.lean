/- The engine, part 12: iterators: a function that calls yield, and its contract. No program is named here. -/
import Derived.RangeFuncBound
import Derived.Test.YtedblpbpoekdlaaF11
namespace Bf
open Go Go.RowKit

/-- From one world to another, the blocks of 'M' alone may turn. -/
structure Chg (M : Nat → Prop) (w w' : World) : Prop where
  os : w'.os = w.os
  tape : w'.tape = w.tape
  output : w'.output = w.output
  size : w.heap.size ≤ w'.heap.size
  block : ∀ b, b < w.heap.size → ¬ M b → w'.heap[b]? = w.heap[b]?
theorem Chg.refl {M : Nat → Prop} (w : World) : Chg M w w := ⟨rfl, rfl, rfl, Nat.le_refl _, fun _ _ _ => rfl⟩

def Owned (hp : Hp) (b : Nat) : Prop := ∃ k i n blk, hp k i = some (some (b, n), blk)

section
variable {C : Ctx} {σ : St} {I : Nat → Prop} {a : Act} {w w' : World} {M : Nat → Prop}
theorem Holds.not_owned (h : Holds C σ I a w) {b : Nat} (hb : I b) : ¬ Owned σ.hp b := fun ⟨k, i, n, blk, h1⟩ => (h.wok.owned k i b n blk h1).2.1 hb
theorem Holds.owned_lt (h : Holds C σ I a w) {b : Nat} (hb : Owned σ.hp b) : b < w.heap.size ∧ ¬ I b ∧ ¬ C.K b := by obtain ⟨k, i, n, blk, h1⟩ := hb; exact h.wok.owned k i b n blk h1

theorem BlkRep.moved (h : Holds C σ I a w) (hc : Chg M w w') (hM : ∀ b, M b → ¬ I b ∧ ¬ Owned σ.hp b) {I' : Nat → Prop} (hI : ∀ b, I b → I' b) {k i : Nat} {pl : Pl} {blk : Blk} (hk : σ.hp k i = some (pl, blk)) (hl : blk.nrd = true ∨ ∀ b, b < C.base → w'.heap[b]? = w.heap[b]?) : BlkRep w' I' C.base pl blk :=
  (h.wok.own k i pl blk hk).mono (fun b hb => hc.block b (h.wok.ilt b hb) (fun hm => (hM b hm).1 hb)) hI (fun b n e => by subst e; exact hc.block b (h.wok.owned k i b n blk hk).1 (fun hm => (hM b hm).2 ⟨k, i, n, blk, hk⟩)) hl
theorem DRep.moved (h : Holds C σ I a w) (hc : Chg M w w') (hM : ∀ b, M b → ¬ I b ∧ ¬ Owned σ.hp b) {I' : Nat → Prop} (hI : ∀ b, I b → I' b) {d : D} {v : Value} (hd : DRep w I C.base d v) : DRep w' I' C.base d v :=
  hd.mono (fun b hb => hc.block b (h.wok.ilt b hb) (fun hm => (hM b hm).1 hb)) hI

/-- Others have turned what is neither its own nor its data's. -/
theorem Holds.foreign (h : Holds C σ I a w) (hc : Chg M w w') (hM : ∀ b, M b → ¬ I b ∧ ¬ Owned σ.hp b) (hK : ∀ b, M b → ¬ C.K b) (hB : ∀ b, M b → C.base ≤ b) : Holds C σ I a w' :=
  ⟨h.df, h.sz, ⟨hc.os.trans h.wok.os, hc.tape.trans h.wok.tape, hc.output.trans h.wok.output, Nat.le_trans h.wok.size hc.size, Nat.le_trans h.wok.wsz hc.size, fun b hb => Nat.lt_of_lt_of_le (h.wok.ksz b hb) hc.size,
    fun b hb => (hc.block b (h.wok.ksz b hb) (fun hm => hK b hm hb)).trans (h.wok.old b hb), fun b hb => Nat.lt_of_lt_of_le (h.wok.ilt b hb) hc.size, h.wok.i0, h.wok.inew, fun _ _ _ _ hk => BlkRep.moved h hc hM (fun _ h => h) hk (.inr fun b hb => hc.block b (Nat.lt_of_lt_of_le hb h.wok.size) fun hm => by have := hB b hm; omega), h.wok.inj,
    fun k i b n blk hk => ⟨Nat.lt_of_lt_of_le (h.wok.owned k i b n blk hk).1 hc.size, (h.wok.owned k i b n blk hk).2⟩, h.wok.lo⟩, fun s d hs => DRep.moved h hc hM (fun _ h => h) (h.fr s d hs)⟩

/-- The context laid anew: what is owned may turn, all else is kept. -/
def Ctx.anew (C : Ctx) (R : Rm) (I' : Nat → Prop) (hp : Hp) (w' : World) : Ctx := ⟨R, C.base, I', fun b => b < w'.heap.size ∧ ¬ Owned hp b, w'⟩

theorem Holds.moved (h : Holds C σ I a w) (hc : Chg M w w') (hM : ∀ b, M b → ¬ I b ∧ ¬ Owned σ.hp b) (R : Rm) {I' : Nat → Prop} (hI : ∀ b, I b → I' b) (hI' : ∀ b, I' b → b < w'.heap.size ∧ ¬ Owned σ.hp b) {a' : Act} (hR : R.fits a'.tmps)
    {σ' : St} (hpe : ∀ k i x, σ'.hp k i = some x → σ.hp k i = some x) (hrd : ∀ k i pl blk, σ'.hp k i = some (pl, blk) → blk.nrd = true ∨ ∀ b, b < C.base → w'.heap[b]? = w.heap[b]?) (hdf : a'.defers = σ'.df) (hfr : ∀ s d, σ'.fr s = some d → DRep w' I' C.base d (a'.tmps.getD s undef)) : Holds (C.anew R I' σ.hp w') σ' I' a' w' :=
  ⟨hdf, hR, ⟨rfl, rfl, rfl, Nat.le_trans h.wok.size hc.size, Nat.le_refl _, fun b hb => hb.1, fun _ _ => rfl, fun b hb => (hI' b hb).1, fun _ h => h, fun _ h => .inl h, fun k i pl blk hk => BlkRep.moved h hc hM hI (hpe _ _ _ hk) (hrd k i pl blk hk),
    fun k i k' i' b n n' blk blk' h1 h2 => h.wok.inj k i k' i' b n n' blk blk' (hpe _ _ _ h1) (hpe _ _ _ h2),
    fun k i b n blk hk => ⟨Nat.lt_of_lt_of_le (h.wok.owned k i b n blk (hpe _ _ _ hk)).1 hc.size, fun hb => (hI' b hb).2 ⟨k, i, n, blk, (hpe _ _ _ hk)⟩, fun hb => hb.2 ⟨k, i, n, blk, (hpe _ _ _ hk)⟩⟩, fun k i b n blk hk => h.wok.lo k i b n blk (hpe _ _ _ hk)⟩, hfr⟩
end

/-! ### The contract of an iterator -/
/-- What the body's side keeps between two rounds: how many rounds; whether a round has said 'no more'; the blocks that are the iterator's, and those of them that it may yet turn. -/
abbrev Jt := Nat × Bool → (Nat → Prop) → (Nat → Prop) → World → Prop
def JOk (J : Jt) : Prop := ∀ (g : Nat × Bool) (S M S' M' : Nat → Prop) (w w' : World), J g S M w → Chg M w w' → (∀ b, S' b → S b ∨ (w.heap.size ≤ b ∧ b < w'.heap.size)) → (∀ b, M' b → M b ∨ (w.heap.size ≤ b ∧ b < w'.heap.size)) → J g S' M' w'

def YieldOk (P : Program) (l : Nat) (I : Nat → Prop) (J : Jt) (els : List (List V)) : Prop :=
  ∀ (n : Nat) (S M : Nat → Prop) (w1 : World) (T : Nat → Prop) (args : List V) (vs : List Value), els[n]? = some args → J (n, false) S M w1 → (∀ b, M b → S b) → (∀ b, T b → b < w1.heap.size ∧ (I b ∨ S b) ∧ ¬ M b) → VReps w1 T args vs →
    YieldAt (fenceOf none) 0 P l vs.toArray w1 fun e w2 => ∃ c : Bool, e = .returned (.bool c) ∧ J (n + 1, !c) S M w2 ∧ Chg (fun b => ¬ (I b ∨ S b)) w1 w2

/-- A function that yields the elements 'els', one after the other, until it is told to stop. -/
def SeqC (P : Program) (gf : FuncId) (cs : List V) (els : List (List V)) : Prop :=
  ∀ (l : Nat) (J : Jt) (lb : List Value) (w : World) (I : Nat → Prop), (∀ b, I b → b < w.heap.size) → VReps w I cs lb → JOk J → YieldOk P l I J els → J (0, false) (fun _ => False) (fun _ => False) w →
    CallsIn (fenceOf none) 0 P gf (#[.func (.yield l) #[] #[]] ++ lb.toArray) w fun e w' => (∃ v, e = .returned v) ∧ ∃ g S M, J g S M w' ∧ (g = (els.length, false) ∨ g.2 = true)

/-- The same, of an iterator that looks at the world between two rounds: there 'Rd' always holds. -/
def SeqCR (P : Program) (Rd : World → Prop) (gf : FuncId) (cs : List V) (els : List (List V)) : Prop :=
  ∀ (l : Nat) (J : Jt) (lb : List Value) (w : World) (I : Nat → Prop), (∀ b, I b → b < w.heap.size) → VReps w I cs lb → JOk J → YieldOk P l I J els → (∀ g S M w, g.2 = false → J g S M w → Rd w) → J (0, false) (fun _ => False) (fun _ => False) w →
    CallsIn (fenceOf none) 0 P gf (#[.func (.yield l) #[] #[]] ++ lb.toArray) w fun e w' => (∃ v, e = .returned v) ∧ ∃ g S M, J g S M w' ∧ (g = (els.length, false) ∨ g.2 = true)
theorem SeqC.toR {P : Program} {Rd : World → Prop} {gf : FuncId} {cs : List V} {els : List (List V)} (h : SeqC P gf cs els) : SeqCR P Rd gf cs els := fun l J lb w I h1 h2 h3 h4 _ h6 => h l J lb w I h1 h2 h3 h4 h6
/-- What the contexts of an iterator know of the world. -/
def RdX (X : Cx) (Rd : World → Prop) : Prop := ∀ (C : Ctx) (σ : St) (I : Nat → Prop) (a : Act) (w : World), X.is σ.gh C → σ.gh.2 = false → Holds C σ I a w → Rd w ∧ ∀ b, (∀ w, Rd w → b < w.heap.size) → b < C.base

/-- Others may turn what is known of places that are not its own. -/
def dropRd (h : Hp) : Hp := fun k i => match h k i with | some (_, .rd ..) => none | x => x
theorem dropRd_le {h : Hp} {k i : Nat} {x : Pl × Blk} (e : dropRd h k i = some x) : h k i = some x ∧ x.2.nrd = true := by
  unfold dropRd at e
  split at e
  · cases e
  · rename_i hx
    refine ⟨e, ?_⟩
    obtain ⟨pl, blk⟩ := x
    cases blk <;> try rfl
    exact absurd e (hx _ _ _ _ _)

/-- The iterator's side of a call of yield. -/
def YX (X : Cx) (P : Program) (els : List (List V)) (l : Nat) : Prop :=
  ∀ (C : Ctx) (σ : St) (I : Nat → Prop) (a : Act) (w : World) (n : Nat) (args : List V) (vs : List Value), σ.gh = (n, false) → X.is (n, false) C → Holds C σ I a w → els[n]? = some args → VReps w I args vs →
    YieldAt (fenceOf none) 0 P l vs.toArray w fun e w2 => ∃ (c : Bool) (C' : Ctx), e = .returned (.bool c) ∧ X.is (n + 1, !c) C' ∧ Holds C' { σ with hp := dropRd σ.hp, gh := (n + 1, !c) } I a w2

/-- What is asked at an iterator's end. -/
def SeqQ (n : Nat) : Exit → St → Prop := fun e σ => (e = .ret ∨ e = .normal) ∧ σ.df = [] ∧ (σ.gh = (n, false) ∨ σ.gh.2 = true)

/-- The blocks of a context that may turn. -/
def Ctx.M (C : Ctx) : Nat → Prop := fun b => b < C.W0.heap.size ∧ ¬ C.K b

theorem Holds.chg0 {C : Ctx} {σ : St} {I : Nat → Prop} {a : Act} {w : World} (h : Holds C σ I a w) : Chg C.M C.W0 w :=
  ⟨h.wok.os, h.wok.tape, h.wok.output, h.wok.wsz, fun b hb hm => h.wok.old b (Classical.byContradiction fun hk => hm ⟨hb, hk⟩)⟩

def isIt (N base0 : Nat) (I : Nat → Prop) (J : Jt) (g : Nat × Bool) (C : Ctx) : Prop :=
  C.N = { n := N } ∧ C.base = base0 ∧ (∀ b, ¬ C.K b → base0 ≤ b) ∧ base0 ≤ C.W0.heap.size ∧ ∃ S, J g S C.M C.W0 ∧ (∀ b, C.M b → S b) ∧ (∀ b, C.I0 b → I b ∨ S b)
def itCx (N base0 : Nat) (I : Nat → Prop) (J : Jt) : Cx := ⟨{ n := N }, isIt N base0 I J, fun _ _ h => h.1⟩

theorem itCx_yields {P : Program} {N base0 l : Nat} {I : Nat → Prop} {J : Jt} {els : List (List V)} (hJ : JOk J) (hY : YieldOk P l I J els) : YX (itCx N base0 I J) P els l := by
  rintro C σ I' a w n args vs hgh ⟨hN, hb, hK, hb0, S, hS, hMS, hI0⟩ hh he hv
  have hc := hh.chg0
  have hKM : ∀ b, b < w.heap.size → ¬ C.K b → S b ∨ (C.W0.heap.size ≤ b ∧ b < w.heap.size) := fun b hlt hk => by
    by_cases h : b < C.W0.heap.size
    · exact .inl (hMS b ⟨h, hk⟩)
    · exact .inr ⟨by omega, hlt⟩
  have hJ1 := hJ (n, false) S C.M (fun b => S b ∨ (C.W0.heap.size ≤ b ∧ b < w.heap.size)) (Owned σ.hp) C.W0 w hS hc (fun b hb => hb) (fun b hb => by
    have := hh.owned_lt hb
    by_cases h : b < C.W0.heap.size
    · exact .inl ⟨h, this.2.2⟩
    · exact .inr ⟨by omega, this.1⟩)
  have hIS : ∀ b, I' b → I b ∨ (S b ∨ (C.W0.heap.size ≤ b ∧ b < w.heap.size)) := fun b hb => by
    rcases hh.wok.inew b hb with h1 | h1
    · rcases hI0 b h1 with h2 | h2
      · exact .inl h2
      · exact .inr (.inl h2)
    · exact .inr (hKM b (hh.wok.ilt b hb) h1)
  have hOS : ∀ b, Owned σ.hp b → S b ∨ (C.W0.heap.size ≤ b ∧ b < w.heap.size) := fun b hb => hKM b (hh.owned_lt hb).1 (hh.owned_lt hb).2.2
  refine YieldAt.mono (hY n _ _ w I' args vs he hJ1 hOS (fun b hb => ⟨hh.wok.ilt b hb, hIS b hb, hh.not_owned hb⟩) hv) ?_
  rintro e w2 ⟨c, rfl, hJ2, hc2⟩
  have hM2 : ∀ b, ¬ (I b ∨ (S b ∨ (C.W0.heap.size ≤ b ∧ b < w.heap.size))) → ¬ I' b ∧ ¬ Owned σ.hp b := fun b hb => ⟨fun h => hb (hIS b h), fun h => hb (.inr (hOS b h))⟩
  refine ⟨c, C.anew { n := N } I' σ.hp w2, rfl, ⟨rfl, hb, fun b hk => ?_, Nat.le_trans hb0 (Nat.le_trans hc.size hc2.size), _, hJ _ _ _ (fun b => S b ∨ (C.W0.heap.size ≤ b ∧ b < w.heap.size)) _ _ _ hJ2 (Chg.refl w2) (fun b hb => .inl hb) (fun b hb => .inl ?_), fun b hb => ?_, fun b hb => hIS b hb⟩, ?_⟩
  · by_cases h : b < w2.heap.size
    · exact hK b (hh.owned_lt (Classical.byContradiction fun ho => hk ⟨h, ho⟩)).2.2
    · have := hc.size; have := hc2.size; omega
  · exact Classical.byContradiction fun ho => hb.2 ⟨hb.1, ho⟩
  · exact hOS b (Classical.byContradiction fun ho => hb.2 ⟨hb.1, ho⟩)
  · exact hh.moved hc2 hM2 _ (fun _ h => h) (fun b hb => ⟨Nat.lt_of_lt_of_le (hh.wok.ilt b hb) hc2.size, hh.not_owned hb⟩) (hN ▸ hh.sz) (fun _ _ _ h => (dropRd_le h).1) (fun _ _ _ _ h => .inl (dropRd_le h).2) hh.df (fun s d hs => DRep.moved hh hc2 hM2 (fun _ h => h) (hh.fr s d hs))

theorem itCx_clean {N base0 : Nat} {I : Nat → Prop} {J : Jt} (g : Nat × Bool) : (itCx N base0 I J).clean g := fun C h b hb => by rw [h.2.1]; exact h.2.2.1 b hb

/-- An iterator's contract out of its body. -/
theorem seq_intro {P : Program} {f : FuncId} {fn : Func} {c : Code} {cs : List V} {els : List (List V)} {N : Nat} (hf : P.funcs[f]? = some fn) (hb : fn.body = some c) (hrs : fn.results = #[]) (hnt : fn.ntmps = N) (hN : Nat.ble (cs.length + 1) N = true)
    (h : ∀ (l : Nat) (is : Nat × Bool → Ctx → Prop) (hNN : ∀ g C, is g C → C.N = { n := N }), (∀ g, (Cx.mk { n := N } is hNN).clean g) → YX ⟨{ n := N }, is, hNN⟩ P els l →
      Ev ⟨{ n := N }, is, hNN⟩ none P c ⟨argsF (.raw (.func (.yield l) #[] #[]) :: cs), noHp, [], (0, false)⟩ (SeqQ els.length)) : SeqC P f cs els := by
  intro l J lb w I hI hcs hJ hY h0
  subst hnt
  have hlb := hcs.1
  have hlen : lb.length + 1 ≤ fn.ntmps := by rw [← hlb]; simpa using hN
  have hargs : VReps w I (.raw (.func (.yield l) #[] #[]) :: cs) (.func (.yield l) #[] #[] :: lb) := .cons (.raw _ rfl) hcs
  refine callsIn_of_wp_marks hf hb trivial ?_
  have earr : #[Value.func (.yield l) #[] #[]] ++ lb.toArray = (Value.func (.yield l) #[] #[] :: lb).toArray := by simp
  rw [earr]
  let C : Ctx := ⟨{ n := fn.ntmps }, w.heap.size, I, (· < w.heap.size), w⟩
  have h1 : Holds C ⟨argsF (.raw (.func (.yield l) #[] #[]) :: cs), noHp, [], (0, false)⟩ I { tmps := (Value.func (.yield l) #[] #[] :: lb).toArray ++ Array.replicate (fn.ntmps - (Value.func (.yield l) #[] #[] :: lb).toArray.size) undef, defers := [] } w := by
    refine ⟨rfl, ⟨by simp [C]; omega, fun s hs => by cases hs⟩, ⟨rfl, rfl, rfl, Nat.le_refl _, Nat.le_refl _, fun _ h => h, fun _ _ => rfl, hI, fun _ h => h, fun _ h => .inl h, fun k i pl blk h => by simp [noHp] at h, fun k i k' i' b n n' blk blk' h => by simp [noHp] at h, fun k i b n blk h => by simp [noHp] at h, fun k i b n blk h => by simp [noHp] at h⟩, fun s d hs => ?_⟩
    obtain ⟨x, hx, rfl⟩ := argsF_some hs
    obtain ⟨v, hv, hr⟩ := hargs.get hx
    have hlt : s < (Value.func (.yield l) #[] #[] :: lb).length := (List.getElem?_eq_some_iff.1 hv).1
    have hg : ({ tmps := (Value.func (.yield l) #[] #[] :: lb).toArray ++ Array.replicate (fn.ntmps - (Value.func (.yield l) #[] #[] :: lb).toArray.size) undef, defers := [] } : Act).tmps.getD s undef = v := by
      rw [Array.getD_eq_getD_getElem?, Array.getElem?_append_left (by simpa using hlt)]
      simp [hv]
    rw [hg]
    exact .v _ _ _ (hr.mono (fun _ _ => rfl) (fun b hb => ⟨hb, fun e => by cases e⟩))
  have hM0 : ∀ b, ¬ C.M b := fun b hb => hb.2 hb.1
  have hw := h l (isIt fn.ntmps w.heap.size I J) (fun _ _ h => h.1) itCx_clean (itCx_yields hJ hY) C _ _ _ ⟨rfl, rfl, fun b hk => Nat.le_of_not_lt hk, Nat.le_refl _, fun _ => False, hJ _ _ _ _ _ _ _ h0 (Chg.refl w) (fun _ h => .inl h) (fun b hb => absurd hb (hM0 b)), fun b hb => absurd hb (hM0 b), fun b hb => .inl hb⟩ h1
  refine wpIn_mono hw ?_
  rintro e a' w' ⟨C', σ, I', ⟨hN', _, _, _, S, hS, _⟩, ⟨he, hd, hg⟩, hh⟩
  have hfin : LeavesInM (fenceOf none) 0 P fn a'.tmps (fun e w' => (∃ v, e = .returned v) ∧ ∃ g S M, J g S M w' ∧ (g = (els.length, false) ∨ g.2 = true)) a'.defers .returning w' := by
    rw [hh.df.trans hd]
    obtain ⟨v, hv, _⟩ := run_results_ok (fr := false) (rs := []) (xs := []) hh hrs .nil
    exact ⟨v, hv, ⟨v, rfl⟩, σ.gh, S, C'.M, hJ _ _ _ _ _ _ _ hS hh.chg0 (fun _ h => .inl h) (fun _ h => .inl h), hg⟩
  rcases he with rfl | rfl <;> exact hfin

/-- The same, of an iterator that looks at the world. -/
theorem seq_introR {P : Program} {Rd : World → Prop} {f : FuncId} {fn : Func} {c : Code} {cs : List V} {els : List (List V)} {N : Nat} (hf : P.funcs[f]? = some fn) (hb : fn.body = some c) (hrs : fn.results = #[]) (hnt : fn.ntmps = N) (hN : Nat.ble (cs.length + 1) N = true)
    (h : ∀ (l : Nat) (is : Nat × Bool → Ctx → Prop) (hNN : ∀ g C, is g C → C.N = { n := N }), (∀ g, (Cx.mk { n := N } is hNN).clean g) → YX ⟨{ n := N }, is, hNN⟩ P els l → RdX ⟨{ n := N }, is, hNN⟩ Rd →
      Ev ⟨{ n := N }, is, hNN⟩ none P c ⟨argsF (.raw (.func (.yield l) #[] #[]) :: cs), noHp, [], (0, false)⟩ (SeqQ els.length)) : SeqCR P Rd f cs els := by
  intro l J lb w I hI hcs hJ hY hRd h0
  subst hnt
  have hlb := hcs.1
  have hlen : lb.length + 1 ≤ fn.ntmps := by rw [← hlb]; simpa using hN
  have hargs : VReps w I (.raw (.func (.yield l) #[] #[]) :: cs) (.func (.yield l) #[] #[] :: lb) := .cons (.raw _ rfl) hcs
  refine callsIn_of_wp_marks hf hb trivial ?_
  have earr : #[Value.func (.yield l) #[] #[]] ++ lb.toArray = (Value.func (.yield l) #[] #[] :: lb).toArray := by simp
  rw [earr]
  let C : Ctx := ⟨{ n := fn.ntmps }, w.heap.size, I, (· < w.heap.size), w⟩
  have h1 : Holds C ⟨argsF (.raw (.func (.yield l) #[] #[]) :: cs), noHp, [], (0, false)⟩ I { tmps := (Value.func (.yield l) #[] #[] :: lb).toArray ++ Array.replicate (fn.ntmps - (Value.func (.yield l) #[] #[] :: lb).toArray.size) undef, defers := [] } w := by
    refine ⟨rfl, ⟨by simp [C]; omega, fun s hs => by cases hs⟩, ⟨rfl, rfl, rfl, Nat.le_refl _, Nat.le_refl _, fun _ h => h, fun _ _ => rfl, hI, fun _ h => h, fun _ h => .inl h, fun k i pl blk h => by simp [noHp] at h, fun k i k' i' b n n' blk blk' h => by simp [noHp] at h, fun k i b n blk h => by simp [noHp] at h, fun k i b n blk h => by simp [noHp] at h⟩, fun s d hs => ?_⟩
    obtain ⟨x, hx, rfl⟩ := argsF_some hs
    obtain ⟨v, hv, hr⟩ := hargs.get hx
    have hlt : s < (Value.func (.yield l) #[] #[] :: lb).length := (List.getElem?_eq_some_iff.1 hv).1
    have hg : ({ tmps := (Value.func (.yield l) #[] #[] :: lb).toArray ++ Array.replicate (fn.ntmps - (Value.func (.yield l) #[] #[] :: lb).toArray.size) undef, defers := [] } : Act).tmps.getD s undef = v := by
      rw [Array.getD_eq_getD_getElem?, Array.getElem?_append_left (by simpa using hlt)]
      simp [hv]
    rw [hg]
    exact .v _ _ _ (hr.mono (fun _ _ => rfl) (fun b hb => ⟨hb, fun e => by cases e⟩))
  have hM0 : ∀ b, ¬ C.M b := fun b hb => hb.2 hb.1
  have hw := h l (isIt fn.ntmps w.heap.size I J) (fun _ _ h => h.1) itCx_clean (itCx_yields hJ hY) (fun C σ I' a w' hC hg hh => by
    obtain ⟨_, hbs, _, _, S, hS, _⟩ := hC
    exact ⟨hRd σ.gh S C.M w' hg (hJ _ _ _ _ _ _ _ hS hh.chg0 (fun _ h => .inl h) (fun _ h => .inl h)), fun b hb => by rw [hbs]; exact hb w (hRd _ _ _ _ rfl h0)⟩) C _ _ _ ⟨rfl, rfl, fun b hk => Nat.le_of_not_lt hk, Nat.le_refl _, fun _ => False, hJ _ _ _ _ _ _ _ h0 (Chg.refl w) (fun _ h => .inl h) (fun b hb => absurd hb (hM0 b)), fun b hb => absurd hb (hM0 b), fun b hb => .inl hb⟩ h1
  refine wpIn_mono hw ?_
  rintro e a' w' ⟨C', σ, I', ⟨hN', _, _, _, S, hS, _⟩, ⟨he, hd, hg⟩, hh⟩
  have hfin : LeavesInM (fenceOf none) 0 P fn a'.tmps (fun e w' => (∃ v, e = .returned v) ∧ ∃ g S M, J g S M w' ∧ (g = (els.length, false) ∨ g.2 = true)) a'.defers .returning w' := by
    rw [hh.df.trans hd]
    obtain ⟨v, hv, _⟩ := run_results_ok (fr := false) (rs := []) (xs := []) hh hrs .nil
    exact ⟨v, hv, ⟨v, rfl⟩, σ.gh, S, C'.M, hJ _ _ _ _ _ _ _ hS hh.chg0 (fun _ h => .inl h) (fun _ h => .inl h), hg⟩
  rcases he with rfl | rfl <;> exact hfin

/-- A call of yield. -/
theorem run_yields {X : Cx} {P : Program} {ops : Array Oper} {rest : List Oper} {σ : St} {Q : Exit → St → Prop} {dst : Option Nat} {x : Operand} {as : List Operand} {ats : Array TypeId} {tt : TypeId} {pos : String} {af : Array Edge} {g : Option (Nat × Bool)}
    {els : List (List V)} {l n : Nat} {f fl : Bool} {args : List V} (hY : YX X P els l) (hg : guardOk X.N.n ops σ g = true) (hs : dstOk X.N dst = true) (hx : σ.ev x = some (.v f (.raw (.func (.yield l) #[] #[])))) (ha : CapsOk σ.ev as fl args) (hgh : σ.gh = (n, false)) (he : els[n]? = some args)
    (ht : RunS X none P ops rest (({ σ with hp := dropRd σ.hp, gh := (n + 1, false) } : St).put dst (.v true (.b true))) Q) (hf : RunS X none P ops rest (({ σ with hp := dropRd σ.hp, gh := (n + 1, true) } : St).put dst (.v true (.b false))) Q) :
    RunS X none P ops (⟨dst, .call { callee := .value x, args := as.toArray, argTypes := ats }, tt, pos, af, g⟩ :: rest) σ Q := by
  have hd : ∀ C gg, X.is gg C → ∀ s, dst = some s → C.N.can s = true := fun C gg hC s e => by rw [X.hN _ _ hC]; rw [e] at hs; exact hs
  have main : ∀ (C : Ctx) (I : Nat → Prop) (a : Act) (w : World) (K : Act → World → Prop) (Q' : Exit → Act → World → Prop), X.is σ.gh C → Holds C σ I a w →
      (∀ (c : Bool) (C' : Ctx) (I' : Nat → Prop) (a' : Act) (w' : World), X.is (n + 1, !c) C' → Holds C' (({ σ with hp := dropRd σ.hp, gh := (n + 1, !c) } : St).put dst (.v true (.b c))) I' a' w' → K a' w') →
      (⟨dst, .call { callee := .value x, args := as.toArray, argTypes := ats }, tt, pos, af, g⟩ : Oper).wpIn (fenceOf none) 0 P a w K Q' := by
    intro C I a w K Q' hC hh hK
    have h1 := (hh.ev hx).v_inv.raw_inv.1
    have h2 := ha.reps (C := C) (I := I) (w := w) (ρ := a.eval) (fun y hy d hd => hh.ev hd)
    rw [hgh] at hC
    obtain ⟨fn, tmps, assign, body, hy, hR⟩ := hY C σ I a w n args _ hgh hC hh he (h2.mono (fun _ _ => rfl) (fun _ hb => hb.1))
    refine ⟨fun _ _ => trivial, ?_⟩
    have hrun : ((⟨dst, .call { callee := .value x, args := as.toArray, argTypes := ats }, tt, pos, af, g⟩ : Oper).semAt (fenceOf none).round a.eval).run P w = .ok (.round l fn tmps assign body) w := by
      have : (⟨dst, .call { callee := .value x, args := as.toArray, argTypes := ats }, tt, pos, af, g⟩ : Oper).semAt (fenceOf none).round a.eval = execOp a.eval ⟨dst, .call { callee := .value x, args := as.toArray, argTypes := ats }, tt, pos, af, g⟩ := Oper.semAt_none _ _
      rw [this]
      simp only [execOp, resolve, h1]
      simp [go_sem, invoke] at hy ⊢
      exact hy
    rw [hrun]
    refine ⟨fun e => absurd e (by simp [fenceOf, Fence.wide]), hR.mono ?_⟩
    rintro e w2 ⟨c, C', rfl, hC', hh'⟩
    exact hK c C' _ _ _ hC' (hh'.put _ _ _ (.v _ _ _ (.b c)) (hd C' _ hC'))
  intro C I a w hC hh
  have fin : ∀ (c : Bool) (C' : Ctx) (I' : Nat → Prop) (a' : Act) (w' : World), X.is (n + 1, !c) C' → Holds C' (({ σ with hp := dropRd σ.hp, gh := (n + 1, !c) } : St).put dst (.v true (.b c))) I' a' w' → wpListIn (fenceOf none) 0 P ops (Lift X Q) rest a' w' := fun c C' I' a' w' hC' hh' => by
    cases c with
    | true => exact ht C' I' a' w' (gh_put (σ := { σ with hp := dropRd σ.hp, gh := (n + 1, false) }) hC') hh'
    | false => exact hf C' I' a' w' (gh_put (σ := { σ with hp := dropRd σ.hp, gh := (n + 1, true) }) hC') hh'
  rcases guardOk_inv (dst := dst) (op := .call { callee := .value x, args := as.toArray, argTypes := ats }) (tt := tt) (pos := pos) (af := af) hg with rfl | ⟨s, want, f', h1, h2, h3⟩
  · exact wpListIn_plain rfl fun K hK => main C I a w _ _ hC hh fun c C' I' a' w' hC' hh' => hK _ _ (fin c C' I' a' w' hC' hh')
  · refine wpListIn_step fun K hK => ?_
    rw [wanted_of hh h1 h2 (by rw [X.hN _ _ hC]; simpa using h3)]
    simp only [BEq.rfl, if_true]
    exact main C I a w _ _ hC hh fun c C' I' a' w' hC' hh' => hK _ _ (fin c C' I' a' w' hC' hh')
end Bf
