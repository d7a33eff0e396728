/- The engine, part 2: the state of a walked function: slots, blocks of its own by name, and how a state of the model fits it. No program is named here. -/
import Derived.Test.YtedblpbpoekdlaaF1
namespace Bf
open Go Go.RowKit

/-- Where a block of the call's own lies: its number, and how many cells it has; none: there is none (a nil slice). -/
abbrev Pl := Option (Nat × Nat)

/-- What a slot or a cell holds: data; a pointer into a block of the call's own, a slice or a map of its own (by the block's name and its number); a slice of data without room; values of these; one cell of which nothing is known; what an operation that a guard may pass over leaves. -/
inductive D where
  | v (f : Bool) (x : V)
  | p (k i b off : Nat)
  | o (k i : Nat) (pl : Pl) (z off len : Nat)
  | cl (f : Bool) (z : Nat) (xs : List V)
  | m (k i b : Nat)
  | st (xs : List D)
  | t (xs : List D)
  | c (f : FuncId) (caps : List D)
  | any
  | cnd (g : Bool) (d : D)

instance : Inhabited D := ⟨.any⟩

def fresh (f : Bool) (I : Nat → Prop) (base : Nat) : Nat → Prop := fun b => I b ∧ (f = true → base ≤ b)

inductive DRep (w : World) (I : Nat → Prop) (base : Nat) : D → Value → Prop
  | v (f : Bool) (x : V) (u : Value) (h : VRep w (fresh f I base) x u) : DRep w I base (.v f x) u
  | p (k i b off : Nat) : DRep w I base (.p k i b off) (.pointer (some ⟨b, off, none⟩))
  | o (k i b n z off len cap : Nat) (h1 : len ≤ cap) (h2 : cap ≤ maxLen) (h3 : off + cap * z ≤ n) : DRep w I base (.o k i (some (b, n)) z off len) (.slice (some ⟨b, off, none⟩) len cap)
  | onil (k i z : Nat) : DRep w I base (.o k i none z 0 0) (.slice none 0 0)
  | cl (f : Bool) (z : Nat) (xs : List V) (A : Option Addr) (h : VRep w (fresh f I base) (.l z xs) (.slice A xs.length xs.length)) : DRep w I base (.cl f z xs) (.slice A xs.length xs.length)
  | m (k i b : Nat) : DRep w I base (.m k i b) (.map (some b))
  | st (xs : List D) (vs : List Value) (hl : xs.length = vs.length) (h1 : ∀ v ∈ vs, v.oneCell' = true)
      (h : ∀ (i : Nat) x v, xs[i]? = some x → vs[i]? = some v → DRep w I base x v) : DRep w I base (.st xs) (.agg vs.toArray)
  | t (xs : List D) (vs : List Value) (hl : xs.length = vs.length)
      (h : ∀ (i : Nat) x v, xs[i]? = some x → vs[i]? = some v → DRep w I base x v) : DRep w I base (.t xs) (.tuple vs.toArray)
  | c (f : FuncId) (caps : List D) (vs : List Value) (hl : caps.length = vs.length)
      (h : ∀ (i : Nat) x v, caps[i]? = some x → vs[i]? = some v → DRep w I base x v) : DRep w I base (.c f caps) (.func (.func f) #[] vs.toArray)
  | any (u : Value) (h : u.oneCell' = true) : DRep w I base .any u
  | cndt (d : D) (u : Value) (h : DRep w I base d u) : DRep w I base (.cnd true d) u
  | cndf (d : D) : DRep w I base (.cnd false d) undef

theorem DRep.mono {w w' : World} {I I' : Nat → Prop} {base : Nat} {d : D} {v : Value} (h : DRep w I base d v)
    (hw : ∀ b, I b → w'.heap[b]? = w.heap[b]?) (hI : ∀ b, I b → I' b) : DRep w' I' base d v := by
  induction h with
  | v f x u h => exact .v f x u (h.mono (fun b hb => hw b hb.1) (fun b hb => ⟨hI b hb.1, hb.2⟩))
  | p k i b off => exact .p k i b off
  | o k i b n z off len cap h1 h2 h3 => exact .o k i b n z off len cap h1 h2 h3
  | onil k i z => exact .onil k i z
  | cl f z xs A h => exact .cl f z xs A (h.mono (fun b hb => hw b hb.1) (fun b hb => ⟨hI b hb.1, hb.2⟩))
  | m k i b => exact .m k i b
  | st xs vs hl h1 _ ih => exact .st xs vs hl h1 fun i x v hx hv => ih i x v hx hv
  | t xs vs hl _ ih => exact .t xs vs hl fun i x v hx hv => ih i x v hx hv
  | c f xs vs hl _ ih => exact .c f xs vs hl fun i x v hx hv => ih i x v hx hv
  | any u h => exact .any u h
  | cndt d u _ ih => exact .cndt d u ih
  | cndf d => exact .cndf d

/-- The values of a list read as a list of data. -/
def DReps (w : World) (I : Nat → Prop) (base : Nat) (ds : List D) (vs : List Value) : Prop :=
  ds.length = vs.length ∧ ∀ (i : Nat) d v, ds[i]? = some d → vs[i]? = some v → DRep w I base d v
theorem DReps.nil {w : World} {I : Nat → Prop} {base : Nat} : DReps w I base [] [] := ⟨rfl, fun i x v h => by simp at h⟩
theorem DReps.cons {w : World} {I : Nat → Prop} {base : Nat} {x : D} {v : Value} {xs : List D} {vs : List Value} (h : DRep w I base x v) (hs : DReps w I base xs vs) : DReps w I base (x :: xs) (v :: vs) := by
  refine ⟨by simp [hs.1], fun i y u hy hu => ?_⟩
  cases i with
  | zero => simp at hy hu; subst hy; subst hu; exact h
  | succ i => simp at hy hu; exact hs.2 i y u hy hu
theorem DReps.cons_inv {w : World} {I : Nat → Prop} {base : Nat} {x : D} {xs : List D} {vs : List Value} (h : DReps w I base (x :: xs) vs) : ∃ v vs', vs = v :: vs' ∧ DRep w I base x v ∧ DReps w I base xs vs' := by
  obtain ⟨hl, h⟩ := h
  cases vs with
  | nil => simp at hl
  | cons v vs' => exact ⟨v, vs', rfl, h 0 x v rfl rfl, by simpa using hl, fun i y u hy hu => h (i + 1) y u (by simpa using hy) (by simpa using hu)⟩
theorem DReps.nil_inv {w : World} {I : Nat → Prop} {base : Nat} {vs : List Value} (h : DReps w I base [] vs) : vs = [] :=
  List.eq_nil_of_length_eq_zero (by simpa using h.1.symm)
theorem DReps.get {w : World} {I : Nat → Prop} {base : Nat} {xs : List D} {vs : List Value} (h : DReps w I base xs vs) {i : Nat} {x : D} (hx : xs[i]? = some x) : ∃ v, vs[i]? = some v ∧ DRep w I base x v := by
  have hi : i < xs.length := (List.getElem?_eq_some_iff.1 hx).1
  have hv : vs[i]? = some (vs[i]'(by have := h.1; omega)) := List.getElem?_eq_getElem _
  exact ⟨_, hv, h.2 i x _ hx hv⟩
theorem DReps.mono {w w' : World} {I I' : Nat → Prop} {base : Nat} {xs : List D} {vs : List Value} (h : DReps w I base xs vs)
    (hw : ∀ b, I b → w'.heap[b]? = w.heap[b]?) (hI : ∀ b, I b → I' b) : DReps w' I' base xs vs := ⟨h.1, fun i x v hx hv => (h.2 i x v hx hv).mono hw hI⟩
theorem DReps.drop {w : World} {I : Nat → Prop} {base : Nat} {xs : List D} {vs : List Value} (h : DReps w I base xs vs) (n : Nat) : DReps w I base (xs.drop n) (vs.drop n) :=
  ⟨by simp [h.1], fun i x v hx hv => h.2 (n + i) x v (by simpa using hx) (by simpa using hv)⟩
theorem DReps.take {w : World} {I : Nat → Prop} {base : Nat} {xs : List D} {vs : List Value} (h : DReps w I base xs vs) (n : Nat) : DReps w I base (xs.take n) (vs.take n) :=
  ⟨by simp [h.1], fun i x v hx hv => by
    rw [List.getElem?_take] at hx hv
    split at hx
    · rename_i hi; rw [if_pos hi] at hv; exact h.2 i x v hx hv
    · cases hx⟩
theorem DReps.append {w : World} {I : Nat → Prop} {base : Nat} {xs ys : List D} {vs us : List Value} (h : DReps w I base xs vs) (h' : DReps w I base ys us) : DReps w I base (xs ++ ys) (vs ++ us) := by
  refine ⟨by simp [h.1, h'.1], fun i x v hx hv => ?_⟩
  have hl := h.1
  by_cases hi : i < xs.length
  · rw [List.getElem?_append_left hi] at hx
    rw [List.getElem?_append_left (by omega)] at hv
    exact h.2 i x v hx hv
  · rw [List.getElem?_append_right (by omega)] at hx
    rw [List.getElem?_append_right (by omega), ← hl] at hv
    exact h'.2 _ x v hx hv
theorem DReps.of_v {w : World} {I : Nat → Prop} {base : Nat} {f : Bool} {xs : List V} {vs : List Value} (h : VReps w (fresh f I base) xs vs) : DReps w I base (xs.map (D.v f)) vs :=
  ⟨by simp [h.1], fun i d v hd hv => by
    rw [List.getElem?_map] at hd
    cases hx : xs[i]? with
    | none => rw [hx] at hd; cases hd
    | some x => rw [hx] at hd; cases hd; exact .v _ _ _ (h.2 i x v hx hv)⟩
theorem DReps.to_v {w : World} {I : Nat → Prop} {base : Nat} {f : Bool} {xs : List V} {vs : List Value} (h : DReps w I base (xs.map (D.v f)) vs) : VReps w (fresh f I base) xs vs :=
  ⟨by have := h.1; simpa using this, fun i x v hx hv => by
    have := h.2 i (.v f x) v (by rw [List.getElem?_map, hx]; rfl) hv
    cases this; assumption⟩

/-- Is it a struct? -/
def V.isSt : V → Bool
  | .st _ => true
  | _ => false
/-- A block of the call's own: cells (of a box, an array, or behind a slice: then there may be more room behind them), another object, or a map; or: what is known of a place in a block that is not its own. -/
inductive Blk where
  | row (ty : TypeId) (xs : List D)
  | obj (o : Obj)
  | mp (f : Bool) (ag : Bool) (xs : List (V × V))
  | rd (b off : Nat) (k : IntKind) (n : Int)
def Blk.nrd : Blk → Bool
  | .rd .. => false
  | _ => true

/-- The entries of a map. -/
structure MapRep (w : World) (I : Nat → Prop) (ag : Bool) (xs : List (V × V)) (es : List MapEntry) (clock : Nat) : Prop where
  len : es.length = xs.length
  kind : ∀ p ∈ xs, p.1.isSt = ag ∧ p.1.plain = true ∧ p.2.plain = true
  rep : ∀ (i : Nat) p e, xs[i]? = some p → es[i]? = some e → VRep w I p.1 e.key ∧ VRep w I p.2 e.val
  born : ∀ e ∈ es, e.born < clock
  dist : es.Pairwise (fun e e' => e.born ≠ e'.born)
theorem MapRep.mono {w w' : World} {I I' : Nat → Prop} {ag : Bool} {xs : List (V × V)} {es : List MapEntry} {clock : Nat} (h : MapRep w I ag xs es clock)
    (hw : ∀ b, I b → w'.heap[b]? = w.heap[b]?) (hI : ∀ b, I b → I' b) : MapRep w' I' ag xs es clock :=
  { h with rep := fun i p e hp he => ⟨(h.rep i p e hp he).1.mono hw hI, (h.rep i p e hp he).2.mono hw hI⟩ }

/-- The cells of a block. -/
structure RowRep (w : World) (I : Nat → Prop) (base b n ty : Nat) (xs : List D) (vs : List Value) : Prop where
  blk : w.heap[b]? = some (.cells vs.toArray ty (0, 0))
  len : vs.length = n
  le : xs.length ≤ n
  one : ∀ v ∈ vs, v.oneCell' = true
  rep : ∀ (j : Nat) d v, xs[j]? = some d → vs[j]? = some v → DRep w I base d v

def BlkRep (w : World) (I : Nat → Prop) (base : Nat) : Pl → Blk → Prop
  | none, .row _ xs => xs = []
  | some (b, n), .row ty xs => ∃ vs, RowRep w I base b n ty xs vs
  | pl, .obj o => ∃ b n, pl = some (b, n) ∧ w.heap[b]? = some o
  | pl, .mp f ag xs => ∃ (b n : Nat) (es : List MapEntry) (clock : Nat), pl = some (b, n) ∧ w.heap[b]? = some (.map es.toArray clock) ∧ MapRep w (fresh f I base) ag xs es clock
  | pl, .rd b off k n => pl = none ∧ b < base ∧ w.cell? ⟨b, off, none⟩ = some (.int k n)

def hasN : List Nat → Nat → Bool
  | [], _ => false
  | k :: l, s => Nat.beq s k || hasN l s
/-- How many slots there are; and the slots that nobody may write, with what they hold. -/
structure Rm where
  n : Nat
  pins : List Nat := []
  val : Nat → Value := fun _ => undef
def Rm.can (R : Rm) (s : Nat) : Bool := Nat.blt s R.n && !hasN R.pins s
def Rm.fits (R : Rm) (tmps : Array Value) : Prop := tmps.size = R.n ∧ ∀ s, hasN R.pins s = true → tmps.getD s undef = R.val s
theorem Rm.can_lt {R : Rm} {s : Nat} (h : R.can s = true) : s < R.n := by simp only [Rm.can, Bool.and_eq_true] at h; simpa using h.1
theorem Rm.can_no {R : Rm} {s : Nat} (h : R.can s = true) : hasN R.pins s = false := by simp only [Rm.can, Bool.and_eq_true, Bool.not_eq_true'] at h; exact h.2

structure Ctx where
  N : Rm
  base : Nat
  I0 : Nat → Prop
  K : Nat → Prop
  W0 : World

abbrev Hp := Nat → Nat → Option (Pl × Blk)
structure St where
  fr : Nat → Option D
  hp : Hp
  df : List Deferred := []
  gh : Nat × Bool := (0, false)

/-- The contexts that a walk may be in: one alone, or, where others' code runs in between, one for each number of such times. -/
structure Cx where
  N : Rm
  is : Nat × Bool → Ctx → Prop
  hN : ∀ g C, is g C → C.N = N
def Cx.clean (X : Cx) (g : Nat × Bool) : Prop := ∀ C, X.is g C → ∀ b, ¬ C.K b → C.base ≤ b

structure WOk (C : Ctx) (hp : Hp) (I : Nat → Prop) (w : World) : Prop where
  os : w.os = C.W0.os
  tape : w.tape = C.W0.tape
  output : w.output = C.W0.output
  size : C.base ≤ w.heap.size
  wsz : C.W0.heap.size ≤ w.heap.size
  ksz : ∀ b, C.K b → b < w.heap.size
  old : ∀ b, C.K b → w.heap[b]? = C.W0.heap[b]?
  ilt : ∀ b, I b → b < w.heap.size
  i0 : ∀ b, C.I0 b → I b
  inew : ∀ b, I b → C.I0 b ∨ ¬ C.K b
  own : ∀ k i pl blk, hp k i = some (pl, blk) → BlkRep w I C.base pl blk
  inj : ∀ k i k' i' b n n' blk blk', hp k i = some (some (b, n), blk) → hp k' i' = some (some (b, n'), blk') → k = k' ∧ i = i'
  owned : ∀ k i b n blk, hp k i = some (some (b, n), blk) → b < w.heap.size ∧ ¬ I b ∧ ¬ C.K b
  lo : ∀ k i b n blk, hp k i = some (some (b, n), blk) → C.base ≤ b

structure Holds (C : Ctx) (σ : St) (I : Nat → Prop) (a : Act) (w : World) : Prop where
  df : a.defers = σ.df
  sz : C.N.fits a.tmps
  wok : WOk C σ.hp I w
  fr : ∀ s d, σ.fr s = some d → DRep w I C.base d (a.tmps.getD s undef)

/-- A block reads on, where it and the data have not turned. -/
theorem BlkRep.mono {w w' : World} {I I' : Nat → Prop} {base : Nat} {pl : Pl} {blk : Blk} (h : BlkRep w I base pl blk)
    (hw : ∀ b, I b → w'.heap[b]? = w.heap[b]?) (hI : ∀ b, I b → I' b) (hb : ∀ b n, pl = some (b, n) → w'.heap[b]? = w.heap[b]?) (hl : blk.nrd = true ∨ ∀ b, b < base → w'.heap[b]? = w.heap[b]?) : BlkRep w' I' base pl blk := by
  cases blk with
  | rd b off k n =>
    have h : pl = none ∧ b < base ∧ w.cell? ⟨b, off, none⟩ = some (.int k n) := by cases pl <;> exact h
    have h1 := hl.resolve_left (by simp [Blk.nrd]) b h.2.1
    have h2 : pl = none ∧ b < base ∧ w'.cell? ⟨b, off, none⟩ = some (.int k n) := ⟨h.1, h.2.1, by rw [← h.2.2]; unfold World.cell?; rw [h1]⟩
    cases pl <;> exact h2
  | row ty xs =>
    cases pl with
    | none => exact h
    | some p =>
      obtain ⟨b, n⟩ := p
      obtain ⟨vs, h1, h2, h3, h4, h5⟩ := h
      exact ⟨vs, (hb b n rfl).trans h1, h2, h3, h4, fun j d v hd hv => (h5 j d v hd hv).mono hw hI⟩
  | obj o =>
    have h : ∃ b n, pl = some (b, n) ∧ w.heap[b]? = some o := by cases pl <;> exact h
    obtain ⟨b, n, rfl, h2⟩ := h
    exact ⟨b, n, rfl, (hb b n rfl).trans h2⟩
  | mp f ag xs =>
    have h : ∃ (b n : Nat) (es : List MapEntry) (clock : Nat), pl = some (b, n) ∧ w.heap[b]? = some (.map es.toArray clock) ∧ MapRep w (fresh f I base) ag xs es clock := by cases pl <;> exact h
    obtain ⟨b, n, es, clock, rfl, h2, h3⟩ := h
    exact ⟨b, n, es, clock, rfl, (hb b n rfl).trans h2, h3.mono (fun b hb => hw b hb.1) (fun b hb => ⟨hI b hb.1, hb.2⟩)⟩

/-- 'w'' is 'w' with new blocks. -/
abbrev Keeps (w w' : World) : Prop := Below w.heap.size w w'

theorem WOk.keep {C : Ctx} {hp : Hp} {I I' : Nat → Prop} {w w' : World} (h : WOk C hp I w) (hk : Keeps w w')
    (hI : ∀ b, I b → I' b) (hI' : ∀ b, I' b → I b ∨ (w.heap.size ≤ b ∧ b < w'.heap.size)) : WOk C hp I' w' where
  os := hk.os.trans h.os
  tape := hk.tape.trans h.tape
  output := hk.output.trans h.output
  size := Nat.le_trans h.size hk.size
  wsz := Nat.le_trans h.wsz hk.size
  ksz := fun b hb => Nat.lt_of_lt_of_le (h.ksz b hb) hk.size
  old := fun b hb => (hk.block b (h.ksz b hb)).trans (h.old b hb)
  ilt := fun b hb => by rcases hI' b hb with h1 | ⟨_, h1⟩; exact Nat.lt_of_lt_of_le (h.ilt b h1) hk.size; exact h1
  i0 := fun b hb => hI b (h.i0 b hb)
  inew := fun b hb => by rcases hI' b hb with h1 | ⟨h1, _⟩; exact h.inew b h1; exact .inr (fun hK => by have := h.ksz b hK; omega)
  own := fun k i pl blk hb => (h.own k i pl blk hb).mono (fun b hb => hk.block b (h.ilt b hb)) hI (fun b n e => hk.block b (h.owned k i b n blk (by rw [hb, e])).1) (.inr fun b hb => hk.block b (Nat.lt_of_lt_of_le hb h.size))
  inj := h.inj
  owned := fun k i b n blk hb => by
    obtain ⟨h1, h2, h3⟩ := h.owned k i b n blk hb
    exact ⟨Nat.lt_of_lt_of_le h1 hk.size, fun hx => by rcases hI' b hx with h4 | ⟨h4, _⟩; exact h2 h4; omega, h3⟩
  lo := h.lo

theorem Holds.keep {C : Ctx} {σ : St} {I I' : Nat → Prop} {a : Act} {w w' : World} (h : Holds C σ I a w) (hk : Keeps w w')
    (hI : ∀ b, I b → I' b) (hI' : ∀ b, I' b → I b ∨ (w.heap.size ≤ b ∧ b < w'.heap.size)) : Holds C σ I' a w' :=
  ⟨h.df, h.sz, h.wok.keep hk hI hI', fun s d hs => (h.fr s d hs).mono (fun b hb => hk.block b (h.wok.ilt b hb)) hI⟩

theorem Holds.drew {C : Ctx} {σ : St} {I : Nat → Prop} {a : Act} {w : World} (h : Holds C σ I a w) : Holds C σ I a w.drew :=
  h.keep (Below.refl _ w).drew (fun _ h => h) (fun _ h => .inl h)

/-- A slot is filled anew. -/
def upd {α : Type} (f : Nat → Option α) (k : Nat) (x : α) : Nat → Option α := fun j => bif Nat.beq j k then some x else f j
def emp {α : Type} : Nat → Option α := fun _ => none
/-- A block is named anew, or forgotten. -/
def set2 (f : Hp) (k i : Nat) (x : Option (Pl × Blk)) : Hp := fun j l => bif Nat.beq j k then (bif Nat.beq l i then x else f j l) else f j l
def noHp : Hp := fun _ _ => none

theorem beq_ne {j k : Nat} (h : j ≠ k) : Nat.beq j k = false := by
  cases e : Nat.beq j k with
  | false => rfl
  | true => exact absurd (Nat.eq_of_beq_eq_true e) h
theorem upd_some {α : Type} {f : Nat → Option α} {k : Nat} {x : α} {j : Nat} {y : α} (h : upd f k x j = some y) : (j = k ∧ y = x) ∨ (j ≠ k ∧ f j = some y) := by
  unfold upd at h
  by_cases e : j = k
  · subst e
    have : Nat.beq j j = true := Nat.beq_refl j
    rw [this] at h
    simp at h
    exact .inl ⟨rfl, h.symm⟩
  · have : Nat.beq j k = false := beq_ne e
    rw [this] at h
    exact .inr ⟨e, h⟩
theorem set2_same (f : Hp) (k i : Nat) (x : Option (Pl × Blk)) : set2 f k i x k i = x := by simp [set2]
theorem set2_other (f : Hp) {k i j l : Nat} (x : Option (Pl × Blk)) (h : ¬ (j = k ∧ l = i)) : set2 f k i x j l = f j l := by
  unfold set2
  by_cases e : j = k
  · subst e
    have : l ≠ i := fun e => h ⟨rfl, e⟩
    simp [beq_ne this]
  · simp [beq_ne e]
theorem set2_some {f : Hp} {k i : Nat} {x : Option (Pl × Blk)} {j l : Nat} {y : Pl × Blk} (h : set2 f k i x j l = some y) : (j = k ∧ l = i ∧ x = some y) ∨ (¬ (j = k ∧ l = i) ∧ f j l = some y) := by
  by_cases e : j = k ∧ l = i
  · obtain ⟨rfl, rfl⟩ := e
    rw [set2_same] at h
    exact .inl ⟨rfl, rfl, h⟩
  · rw [set2_other _ _ e] at h
    exact .inr ⟨e, h⟩

def St.put (σ : St) (dst : Option Nat) (d : D) : St :=
  match dst with
  | some s => { σ with fr := upd σ.fr s d }
  | none => σ
/-- An operation that its guard has passed over leaves nothing in its slot. -/
def St.skip (σ : St) (dst : Option Nat) : St := σ.put dst (.v true (.t []))
def St.setH (σ : St) (k i : Nat) (x : Option (Pl × Blk)) : St := { σ with hp := set2 σ.hp k i x }

theorem Act.getD_put_other (a : Act) (s j : Nat) (v : Value) (h : j ≠ s) : (a.put (some s) v).tmps.getD j undef = a.tmps.getD j undef := by
  simp only [Act.put, Array.getD_eq_getD_getElem?, Array.getElem?_setIfInBounds]
  rw [if_neg (fun e => h e.symm)]
theorem Act.getD_put_same (a : Act) (s : Nat) (v : Value) (h : s < a.tmps.size) : (a.put (some s) v).tmps.getD s undef = v := by
  simp [Act.put, Array.getD_eq_getD_getElem?, h]
theorem Act.size_put (a : Act) (dst : Option Tmp) (v : Value) : (a.put dst v).tmps.size = a.tmps.size := by
  cases dst <;> simp [Act.put]
theorem Act.defers_put (a : Act) (dst : Option Tmp) (v : Value) : (a.put dst v).defers = a.defers := by
  cases dst <;> simp [Act.put]

theorem Rm.fits_put {R : Rm} {a : Act} (h : R.fits a.tmps) {s : Nat} (v : Value) (hs : R.can s = true) : R.fits (a.put (some s) v).tmps :=
  ⟨by rw [Act.size_put]; exact h.1, fun j hj => by
    have hne : j ≠ s := fun e => by rw [e, Rm.can_no hs] at hj; cases hj
    rw [Act.getD_put_other _ _ _ _ hne]; exact h.2 j hj⟩

theorem Holds.put {C : Ctx} {σ : St} {I : Nat → Prop} {a : Act} {w : World} (h : Holds C σ I a w) (dst : Option Nat) (d : D) (v : Value)
    (hd : DRep w I C.base d v) (hs : ∀ s, dst = some s → C.N.can s = true) : Holds C (σ.put dst d) I (a.put dst v) w := by
  cases dst with
  | none => exact h
  | some s =>
    refine ⟨by rw [Act.defers_put]; exact h.df, Rm.fits_put h.sz _ (hs _ rfl), h.wok, fun j x hj => ?_⟩
    rcases upd_some hj with ⟨rfl, rfl⟩ | ⟨hne, hj'⟩
    · rw [Act.getD_put_same _ _ _ (by rw [h.sz.1]; exact Rm.can_lt (hs _ rfl))]; exact hd
    · rw [Act.getD_put_other _ _ _ _ hne]
      exact h.fr j x hj'

theorem Holds.skip {C : Ctx} {σ : St} {I : Nat → Prop} {a : Act} {w : World} (h : Holds C σ I a w) (dst : Option Nat) (hs : ∀ s, dst = some s → C.N.can s = true) : Holds C (σ.skip dst) I (a.put dst undef) w :=
  h.put dst _ undef (.v _ _ _ (.t [] [] rfl (fun i x v h => by simp at h))) hs

/-- Less is said. -/
structure St.le (σ' σ : St) : Prop where
  fr : ∀ s d, σ'.fr s = some d → σ.fr s = some d
  hp : ∀ k i b, σ'.hp k i = some b → σ.hp k i = some b
  df : σ'.df = σ.df
  gh : σ'.gh = σ.gh
theorem St.le.refl (σ : St) : σ.le σ := ⟨fun _ _ h => h, fun _ _ _ h => h, rfl, rfl⟩

theorem Holds.le {C : Ctx} {σ σ' : St} {I : Nat → Prop} {a : Act} {w : World} (h : Holds C σ I a w) (hl : σ'.le σ) : Holds C σ' I a w :=
  ⟨h.df.trans hl.df.symm, h.sz, { h.wok with
    own := fun k i pl blk hb => h.wok.own k i pl blk (hl.hp k i _ hb)
    inj := fun k i k' i' b n n' blk blk' h1 h2 => h.wok.inj k i k' i' b n n' blk blk' (hl.hp _ _ _ h1) (hl.hp _ _ _ h2)
    owned := fun k i b n blk hb => h.wok.owned k i b n blk (hl.hp _ _ _ hb)
    lo := fun k i b n blk hb => h.wok.lo k i b n blk (hl.hp _ _ _ hb) }, fun s d hs => h.fr s d (hl.fr s d hs)⟩

/-- The world turns at the block that has a name, or gets new blocks; the name stands for another block, or the same one anew. -/
theorem WOk.set {C : Ctx} {hp : Hp} {I : Nat → Prop} {w w' : World} (h : WOk C hp I w) (k i : Nat) (pl : Pl) (blk : Blk)
    (hos : w'.os = w.os) (htp : w'.tape = w.tape) (hout : w'.output = w.output) (hsz : w.heap.size ≤ w'.heap.size)
    (hsame : ∀ b, b < w.heap.size → (∀ n blk0, hp k i ≠ some (some (b, n), blk0)) → w'.heap[b]? = w.heap[b]?)
    (hnb : ∀ b n, pl = some (b, n) → b < w'.heap.size ∧ (w.heap.size ≤ b ∨ ∃ n' blk0, hp k i = some (some (b, n'), blk0)))
    (hb : BlkRep w' I C.base pl blk) : WOk C (set2 hp k i (some (pl, blk))) I w' := by
  have hIk : ∀ b, I b → w'.heap[b]? = w.heap[b]? := fun b hb => hsame b (h.ilt b hb) fun n blk0 e => (h.owned k i b n blk0 e).2.1 hb
  refine ⟨hos.trans h.os, htp.trans h.tape, hout.trans h.output, Nat.le_trans h.size hsz, Nat.le_trans h.wsz hsz, fun b hb => Nat.lt_of_lt_of_le (h.ksz b hb) hsz, fun b hK => ?_, fun b hb => Nat.lt_of_lt_of_le (h.ilt b hb) hsz, h.i0, h.inew, fun j l pl' blk' hj => ?_, fun j l j' l' b n n' b1 b2 h1 h2 => ?_, fun j l b n blk' hj => ?_, fun j l b n blk' hj => ?_⟩
  · exact (hsame b (h.ksz b hK) fun n blk0 e => (h.owned k i b n blk0 e).2.2 hK).trans (h.old b hK)
  · rcases set2_some hj with ⟨rfl, rfl, e⟩ | ⟨hne, hj'⟩
    · cases e; exact hb
    · refine (h.own j l pl' blk' hj').mono hIk (fun _ hb => hb) (fun b n e => ?_) (.inr fun b hb => hsame b (Nat.lt_of_lt_of_le hb h.size) fun n blk0 e => by have := h.lo k i b n blk0 e; omega)
      subst e
      exact hsame b (h.owned j l b n blk' hj').1 fun n' blk0 e => hne (h.inj j l k i b n n' blk' blk0 hj' e)
  · have key : ∀ {j l : Nat} {b n : Nat} {blk1 : Blk}, set2 hp k i (some (pl, blk)) j l = some (some (b, n), blk1) → (j = k ∧ l = i ∧ pl = some (b, n)) ∨ (¬ (j = k ∧ l = i) ∧ hp j l = some (some (b, n), blk1)) := fun hj => by
      rcases set2_some hj with ⟨e1, e2, e⟩ | hh
      · cases e; exact .inl ⟨e1, e2, rfl⟩
      · exact .inr hh
    rcases key h1 with ⟨e1, e2, e3⟩ | ⟨g1, g2⟩ <;> rcases key h2 with ⟨e4, e5, e6⟩ | ⟨g3, g4⟩
    · exact ⟨e1.trans e4.symm, e2.trans e5.symm⟩
    · obtain ⟨_, g5⟩ := hnb b n e3
      rcases g5 with g5 | ⟨n'', blk0, g5⟩
      · exact absurd (h.owned j' l' b n' b2 g4).1 (by omega)
      · exact absurd (h.inj j' l' k i b n' n'' b2 blk0 g4 g5) g3
    · obtain ⟨_, g5⟩ := hnb b n' e6
      rcases g5 with g5 | ⟨n'', blk0, g5⟩
      · exact absurd (h.owned j l b n b1 g2).1 (by omega)
      · exact absurd (h.inj j l k i b n n'' b1 blk0 g2 g5) g1
    · exact h.inj j l j' l' b n n' b1 b2 g2 g4
  · rcases set2_some hj with ⟨rfl, rfl, e⟩ | ⟨hne, hj'⟩
    · cases e
      obtain ⟨g1, g2⟩ := hnb b n rfl
      rcases g2 with g2 | ⟨n', blk0, g2⟩
      · exact ⟨g1, fun hb => by have := h.ilt b hb; omega, fun hK => by have := h.ksz b hK; omega⟩
      · exact ⟨g1, (h.owned j l b n' blk0 g2).2⟩
    · obtain ⟨g1, g2⟩ := h.owned j l b n blk' hj'
      exact ⟨Nat.lt_of_lt_of_le g1 hsz, g2⟩
  · rcases set2_some hj with ⟨rfl, rfl, e⟩ | ⟨hne, hj'⟩
    · cases e
      obtain ⟨g1, g2⟩ := hnb b n rfl
      rcases g2 with g2 | ⟨n', blk0, g2⟩
      · exact Nat.le_trans h.size g2
      · exact h.lo j l b n' blk0 g2
    · exact h.lo j l b n blk' hj'

theorem Holds.set {C : Ctx} {σ : St} {I : Nat → Prop} {a : Act} {w w' : World} (h : Holds C σ I a w) (k i : Nat) (pl : Pl) (blk : Blk)
    (hos : w'.os = w.os) (htp : w'.tape = w.tape) (hout : w'.output = w.output) (hsz : w.heap.size ≤ w'.heap.size)
    (hsame : ∀ b, b < w.heap.size → (∀ n blk0, σ.hp k i ≠ some (some (b, n), blk0)) → w'.heap[b]? = w.heap[b]?)
    (hnb : ∀ b n, pl = some (b, n) → b < w'.heap.size ∧ (w.heap.size ≤ b ∨ ∃ n' blk0, σ.hp k i = some (some (b, n'), blk0)))
    (hb : BlkRep w' I C.base pl blk) : Holds C (σ.setH k i (some (pl, blk))) I a w' :=
  ⟨h.df, h.sz, h.wok.set k i pl blk hos htp hout hsz hsame hnb hb, fun s d hs => (h.fr s d hs).mono (fun b hb => hsame b (h.wok.ilt b hb) fun n blk0 e => (h.wok.owned k i b n blk0 e).2.1 hb) (fun _ hb => hb)⟩

/-- A name is forgotten; its block may become data. -/
theorem Holds.forget {C : Ctx} {σ : St} {I : Nat → Prop} {a : Act} {w : World} (h : Holds C σ I a w) (k i : Nat) : Holds C (σ.setH k i none) I a w :=
  h.le ⟨fun _ _ h => h, fun j l b hj => by
    rcases set2_some hj with ⟨_, _, e⟩ | ⟨_, e⟩
    · cases e
    · exact e, rfl, rfl⟩
theorem Holds.freeze {C : Ctx} {σ : St} {I : Nat → Prop} {a : Act} {w : World} (h : Holds C σ I a w) (k i b n : Nat) (blk : Blk) (hk : σ.hp k i = some (some (b, n), blk)) : Holds C (σ.setH k i none) (fun b' => I b' ∨ b' = b) a w := by
  obtain ⟨h1, h2, h3⟩ := h.wok.owned k i b n blk hk
  have key : ∀ {j l : Nat} {x : Pl × Blk}, set2 σ.hp k i none j l = some x → ¬ (j = k ∧ l = i) ∧ σ.hp j l = some x := fun hj => by
    rcases set2_some hj with ⟨_, _, e⟩ | e
    · cases e
    · exact e
  refine ⟨h.df, h.sz, { h.wok with ilt := fun b' hb' => ?_, i0 := fun b' hb' => .inl (h.wok.i0 b' hb'), inew := fun b' hb' => ?_, own := fun j l pl blk' hj => ?_, inj := fun j l j' l' b' n' n'' b1 b2 h1 h2 => h.wok.inj j l j' l' b' n' n'' b1 b2 (key h1).2 (key h2).2, owned := fun j l b' n' blk' hj => ?_, lo := fun j l b' n' blk' hj => h.wok.lo j l b' n' blk' (key hj).2 }, fun s d hs => (h.fr s d hs).mono (fun _ _ => rfl) (fun _ hb => .inl hb)⟩
  · rcases hb' with hb' | rfl
    · exact h.wok.ilt b' hb'
    · exact h1
  · rcases hb' with hb' | rfl
    · exact h.wok.inew b' hb'
    · exact .inr h3
  · exact (h.wok.own j l pl blk' (key hj).2).mono (fun _ _ => rfl) (fun _ hb => .inl hb) (fun _ _ _ => rfl) (.inr fun _ _ => rfl)
  · obtain ⟨g0, g1⟩ := key hj
    obtain ⟨e1, e2, e3⟩ := h.wok.owned j l b' n' blk' g1
    refine ⟨e1, fun hx => ?_, e3⟩
    rcases hx with hx | rfl
    · exact e2 hx
    · exact g0 (h.wok.inj j l k i b' n' n blk' blk g1 hk)

end Bf
