/- The engine, part 2: the state of a walked function: slots, blocks of its own, and how a state of the model fits it. No program is named here. -/
import Derived.Test.YteecgmkfbohpjaaE1
namespace Bf
open Go Go.RowKit

/-- What a slot holds: data (old or new), a pointer into a block of the call's own, a slice or a map of its own. -/
inductive D where
  | v (f : Bool) (x : V)
  | p (k off : Nat)
  | pe (k i z off : Nat)
  | o (k len : Nat)
  | m (k : Nat)
  | st (xs : List D)

instance : Inhabited D := ⟨.m 0⟩

mutual
def D.ment (k : Nat) : D → Bool
  | .p j _ => Nat.beq j k
  | .pe j _ _ _ => Nat.beq j k
  | .o j _ => Nat.beq j k
  | .m j => Nat.beq j k
  | .st xs => D.mentL k xs
  | .v _ _ => false
def D.mentL (k : Nat) : List D → Bool
  | [] => false
  | x :: xs => x.ment k || D.mentL k xs
end

def fresh (f : Bool) (I : Nat → Prop) (base : Nat) : Nat → Prop := fun b => I b ∧ (f = true → base ≤ b)

abbrev Phi := Nat → Option (Nat × Nat)

inductive DRep (w : World) (I : Nat → Prop) (base : Nat) (φ : Phi) : D → Value → Prop
  | v (f : Bool) (x : V) (u : Value) (h : VRep w (fresh f I base) x u) : DRep w I base φ (.v f x) u
  | p (k off b c : Nat) (h : φ k = some (b, c)) : DRep w I base φ (.p k off) (.pointer (some ⟨b, off, none⟩))
  | pe (k i z off b c : Nat) (h : φ k = some (b, c)) : DRep w I base φ (.pe k i z off) (.pointer (some ⟨b, i * z + off, none⟩))
  | o (k len b c : Nat) (h : φ k = some (b, c)) : DRep w I base φ (.o k len) (.slice (some ⟨b, 0, none⟩) len c)
  | onil (k : Nat) (h : φ k = none) : DRep w I base φ (.o k 0) (.slice none 0 0)
  | m (k b c : Nat) (h : φ k = some (b, c)) : DRep w I base φ (.m k) (.map (some b))
  | st (xs : List D) (vs : List Value) (hl : xs.length = vs.length) (h1 : ∀ v ∈ vs, v.oneCell' = true)
      (h : ∀ (i : Nat) x v, xs[i]? = some x → vs[i]? = some v → DRep w I base φ x v) : DRep w I base φ (.st xs) (.agg vs.toArray)

theorem D.mentL_mem {k : Nat} {x : D} : ∀ {xs : List D}, x ∈ xs → x.ment k = true → D.mentL k xs = true
  | y :: ys, h, hx => by
    simp only [D.mentL, Bool.or_eq_true]
    rcases List.mem_cons.1 h with rfl | h
    · exact .inl hx
    · exact .inr (D.mentL_mem h hx)

theorem DRep.mono {w w' : World} {I I' : Nat → Prop} {base : Nat} {φ φ' : Phi} {d : D} {v : Value} (h : DRep w I base φ d v)
    (hw : ∀ b, I b → w'.heap[b]? = w.heap[b]?) (hI : ∀ b, I b → I' b) (hφ : ∀ k, d.ment k = true → φ' k = φ k) : DRep w' I' base φ' d v := by
  induction h with
  | v f x u h => exact .v f x u (h.mono (fun b hb => hw b hb.1) (fun b hb => ⟨hI b hb.1, hb.2⟩))
  | p k off b c h => exact .p k off b c ((hφ k (by simp [D.ment])).trans h)
  | pe k i z off b c h => exact .pe k i z off b c ((hφ k (by simp [D.ment])).trans h)
  | o k len b c h => exact .o k len b c ((hφ k (by simp [D.ment])).trans h)
  | onil k h => exact .onil k ((hφ k (by simp [D.ment])).trans h)
  | m k b c h => exact .m k b c ((hφ k (by simp [D.ment])).trans h)
  | st xs vs hl h1 _ ih => exact .st xs vs hl h1 fun i x v hx hv => ih i x v hx hv fun k hk => hφ k (by simp only [D.ment]; exact D.mentL_mem (List.mem_of_getElem? hx) hk)

/-- Is it a struct? -/
def V.isSt : V → Bool
  | .st _ => true
  | _ => false
/-- A block of the call's own. -/
inductive Blk where
  | cells (ty : TypeId) (xs : List D)
  | sl (f : Bool) (ty : TypeId) (z : Nat) (xs : List V)
  | obj (b : Nat) (o : Obj)
  | mp (f : Bool) (ag : Bool) (xs : List (V × V))

def Blk.ment (k : Nat) : Blk → Bool
  | .cells _ xs => D.mentL k xs
  | .sl _ _ _ _ => false
  | .obj _ _ => false
  | .mp _ _ _ => false

/-- The elements of a slice, cell by cell. -/
def Elems (w : World) (I : Nat → Prop) (z : Nat) (xs : List V) (cells : List Value) : Prop :=
  cells.length = xs.length * z ∧ ∀ (i : Nat) x, xs[i]? = some x → x.plain = true ∧ ∃ u : Value, VRep w I x u ∧ u.cells.toList = (cells.drop (i * z)).take z

/-- The entries of a map. -/
structure MapRep (w : World) (I : Nat → Prop) (ag : Bool) (xs : List (V × V)) (es : List MapEntry) (clock : Nat) : Prop where
  len : es.length = xs.length
  kind : ∀ p ∈ xs, p.1.isSt = ag ∧ p.1.plain = true ∧ p.2.plain = true
  rep : ∀ (i : Nat) p e, xs[i]? = some p → es[i]? = some e → VRep w I p.1 e.key ∧ VRep w I p.2 e.val
  born : ∀ e ∈ es, e.born < clock
  dist : es.Pairwise (fun e e' => e.born ≠ e'.born)
theorem MapRep.mono {w w' : World} {I I' : Nat → Prop} {ag : Bool} {xs : List (V × V)} {es : List MapEntry} {clock : Nat} (h : MapRep w I ag xs es clock)
    (hw : ∀ b, I b → w'.heap[b]? = w.heap[b]?) (hI : ∀ b, I b → I' b) : MapRep w' I' ag xs es clock :=
  { h with rep := fun i p e hp he => ⟨(h.rep i p e hp he).1.mono hw hI, (h.rep i p e hp he).2.mono hw hI⟩ }

def BlkRep (w : World) (I : Nat → Prop) (base : Nat) (φ : Phi) (k : Nat) : Blk → Prop
  | .cells ty xs => ∃ (b c : Nat) (vs : List Value), φ k = some (b, c) ∧ w.heap[b]? = some (.cells vs.toArray ty (0, 0)) ∧ xs.length = vs.length ∧ (∀ v ∈ vs, v.oneCell' = true) ∧
      ∀ (i : Nat) x v, xs[i]? = some x → vs[i]? = some v → DRep w I base φ x v
  | .sl f ty z xs => ∃ (u : Value) (cells : List Value), DRep w I base φ (.o k xs.length) u ∧ w.ownsRow 0 ty z u xs.length cells ∧ (∀ v ∈ cells, v.oneCell' = true) ∧ Elems w (fresh f I base) z xs cells
  | .obj b o => ∃ (c : Nat), φ k = some (b, c) ∧ w.heap[b]? = some o
  | .mp f ag xs => ∃ (b c : Nat) (es : List MapEntry) (clock : Nat), φ k = some (b, c) ∧ w.heap[b]? = some (.map es.toArray clock) ∧ MapRep w (fresh f I base) ag xs es clock

def hasN : List Nat → Nat → Bool
  | [], _ => false
  | k :: l, s => Nat.beq s k || hasN l s
/-- How many slots there are; and the slots that nobody may write, with what they hold. -/
structure Rm where
  n : Nat
  pins : List Nat := []
  val : Nat → Value := fun _ => undef
def Rm.can (R : Rm) (s : Nat) : Bool := Nat.blt s R.n && !hasN R.pins s
def Rm.fits (R : Rm) (tmps : Array Value) : Prop := tmps.size = R.n ∧ ∀ s, hasN R.pins s = true → tmps.getD s undef = R.val s
theorem Rm.can_lt {R : Rm} {s : Nat} (h : R.can s = true) : s < R.n := by simp only [Rm.can, Bool.and_eq_true] at h; simpa using h.1
theorem Rm.can_no {R : Rm} {s : Nat} (h : R.can s = true) : hasN R.pins s = false := by simp only [Rm.can, Bool.and_eq_true, Bool.not_eq_true'] at h; exact h.2

structure Ctx where
  N : Rm
  base : Nat
  I0 : Nat → Prop
  K : Nat → Prop
  W0 : World

structure St where
  fr : Nat → Option D
  hp : Nat → Option Blk
  df : List Deferred := []
  gh : Nat × Bool := (0, false)

/-- The contexts that a walk may be in: one alone, or, where others' code runs in between, one for each number of such times. -/
structure Cx where
  N : Rm
  is : Nat × Bool → Ctx → Prop
  hN : ∀ g C, is g C → C.N = N
def Cx.clean (X : Cx) (g : Nat × Bool) : Prop := ∀ C, X.is g C → ∀ b, ¬ C.K b → C.base ≤ b

structure WOk (C : Ctx) (hp : Nat → Option Blk) (φ : Phi) (I : Nat → Prop) (w : World) : Prop where
  os : w.os = C.W0.os
  tape : w.tape = C.W0.tape
  output : w.output = C.W0.output
  size : C.base ≤ w.heap.size
  wsz : C.W0.heap.size ≤ w.heap.size
  ksz : ∀ b, C.K b → b < w.heap.size
  old : ∀ b, C.K b → w.heap[b]? = C.W0.heap[b]?
  ilt : ∀ b, I b → b < w.heap.size
  i0 : ∀ b, C.I0 b → I b
  inew : ∀ b, I b → C.I0 b ∨ ¬ C.K b
  own : ∀ k blk, hp k = some blk → BlkRep w I C.base φ k blk
  inj : ∀ k k' blk blk' b c c', hp k = some blk → hp k' = some blk' → φ k = some (b, c) → φ k' = some (b, c') → k = k'
  owned : ∀ k blk b c, hp k = some blk → φ k = some (b, c) → b < w.heap.size ∧ ¬ I b ∧ ¬ C.K b

structure Holds (C : Ctx) (σ : St) (φ : Phi) (I : Nat → Prop) (a : Act) (w : World) : Prop where
  df : a.defers = σ.df
  sz : C.N.fits a.tmps
  wok : WOk C σ.hp φ I w
  fr : ∀ s d, σ.fr s = some d → DRep w I C.base φ d (a.tmps.getD s undef)

theorem Elems.mono {w w' : World} {I I' : Nat → Prop} {z : Nat} {xs : List V} {cells : List Value} (h : Elems w I z xs cells)
    (hw : ∀ b, I b → w'.heap[b]? = w.heap[b]?) (hI : ∀ b, I b → I' b) : Elems w' I' z xs cells :=
  ⟨h.1, fun i x hx => ⟨(h.2 i x hx).1, by obtain ⟨u, hu, e⟩ := (h.2 i x hx).2; exact ⟨u, hu.mono hw hI, e⟩⟩⟩

theorem Value.ownBlock_o {w : World} {I : Nat → Prop} {base : Nat} {φ : Phi} {k n : Nat} {u : Value} (h : DRep w I base φ (.o k n) u) : ∀ g, u.ownBlock = some g → ∃ c, φ k = some (g, c) := by
  intro g hg
  cases h with
  | o _ _ b c h => simp [Value.ownBlock] at hg; subst hg; exact ⟨c, h⟩
  | onil => simp [Value.ownBlock] at hg

/-- A block reads on, where it and the data have not turned. -/
theorem BlkRep.mono {w w' : World} {I I' : Nat → Prop} {base : Nat} {φ φ' : Phi} {k : Nat} {blk : Blk} (h : BlkRep w I base φ k blk)
    (hw : ∀ b, I b → w'.heap[b]? = w.heap[b]?) (hI : ∀ b, I b → I' b) (hk : φ' k = φ k) (hφ : ∀ j, blk.ment j = true → φ' j = φ j)
    (hb : ∀ b c, φ k = some (b, c) → w'.heap[b]? = w.heap[b]?) : BlkRep w' I' base φ' k blk := by
  cases blk with
  | cells ty xs =>
    obtain ⟨b, c, vs, h1, h2, h3, h4, h5⟩ := h
    refine ⟨b, c, vs, hk.trans h1, (hb b c h1).trans h2, h3, h4, fun i x v hx hv => (h5 i x v hx hv).mono hw hI fun j hj => hφ j ?_⟩
    simp only [Blk.ment]
    exact D.mentL_mem (List.mem_of_getElem? hx) hj
  | sl f ty z xs =>
    obtain ⟨u, cells, h1, h2, h3, h4⟩ := h
    refine ⟨u, cells, h1.mono hw hI (fun j hj => by simp [D.ment] at hj; subst hj; exact hk), ?_, h3, h4.mono (fun b hb => hw b hb.1) (fun b hb => ⟨hI b hb.1, hb.2⟩)⟩
    refine ⟨h2.1, ?_⟩
    rcases h2.2 with hn | ⟨g, cap, cur, rfl, hbg, hgg, rest⟩
    · exact .inl hn
    · refine .inr ⟨g, cap, cur, rfl, hbg, ?_, rest⟩
      obtain ⟨c, hc⟩ := Value.ownBlock_o h1 g rfl
      exact (hb g c hc).trans hgg
  | obj b o =>
    obtain ⟨c, h1, h2⟩ := h
    exact ⟨c, hk.trans h1, (hb b c h1).trans h2⟩
  | mp f ag xs =>
    obtain ⟨b, c, es, clock, h1, h2, h3⟩ := h
    exact ⟨b, c, es, clock, hk.trans h1, (hb b c h1).trans h2, h3.mono (fun b hb => hw b hb.1) (fun b hb => ⟨hI b hb.1, hb.2⟩)⟩

/-- 'w'' is 'w' with new blocks. -/
abbrev Keeps (w w' : World) : Prop := Below w.heap.size w w'

theorem WOk.keep {C : Ctx} {hp : Nat → Option Blk} {φ : Phi} {I I' : Nat → Prop} {w w' : World} (h : WOk C hp φ I w) (hk : Keeps w w')
    (hI : ∀ b, I b → I' b) (hI' : ∀ b, I' b → I b ∨ (w.heap.size ≤ b ∧ b < w'.heap.size)) : WOk C hp φ I' w' where
  os := hk.os.trans h.os
  tape := hk.tape.trans h.tape
  output := hk.output.trans h.output
  size := Nat.le_trans h.size hk.size
  wsz := Nat.le_trans h.wsz hk.size
  ksz := fun b hb => Nat.lt_of_lt_of_le (h.ksz b hb) hk.size
  old := fun b hb => (hk.block b (h.ksz b hb)).trans (h.old b hb)
  ilt := fun b hb => by rcases hI' b hb with h1 | ⟨_, h1⟩; exact Nat.lt_of_lt_of_le (h.ilt b h1) hk.size; exact h1
  i0 := fun b hb => hI b (h.i0 b hb)
  inew := fun b hb => by rcases hI' b hb with h1 | ⟨h1, _⟩; exact h.inew b h1; exact .inr (fun hK => by have := h.ksz b hK; omega)
  own := fun k blk hb => (h.own k blk hb).mono (fun b hb => hk.block b (h.ilt b hb)) hI rfl (fun _ _ => rfl) (fun b c hc => hk.block b (h.owned k blk b c hb hc).1)
  inj := h.inj
  owned := fun k blk b c hb hc => by
    obtain ⟨h1, h2, h3⟩ := h.owned k blk b c hb hc
    exact ⟨Nat.lt_of_lt_of_le h1 hk.size, fun hx => by rcases hI' b hx with h4 | ⟨h4, _⟩; exact h2 h4; omega, h3⟩

theorem Holds.keep {C : Ctx} {σ : St} {φ : Phi} {I I' : Nat → Prop} {a : Act} {w w' : World} (h : Holds C σ φ I a w) (hk : Keeps w w')
    (hI : ∀ b, I b → I' b) (hI' : ∀ b, I' b → I b ∨ (w.heap.size ≤ b ∧ b < w'.heap.size)) : Holds C σ φ I' a w' :=
  ⟨h.df, h.sz, h.wok.keep hk hI hI', fun s d hs => (h.fr s d hs).mono (fun b hb => hk.block b (h.wok.ilt b hb)) hI (fun _ _ => rfl)⟩

theorem Holds.drew {C : Ctx} {σ : St} {φ : Phi} {I : Nat → Prop} {a : Act} {w : World} (h : Holds C σ φ I a w) : Holds C σ φ I a w.drew :=
  h.keep (Below.refl _ w).drew (fun _ h => h) (fun _ h => .inl h)

/-- A slot is filled anew. -/
def upd {α : Type} (f : Nat → Option α) (k : Nat) (x : α) : Nat → Option α := fun j => bif Nat.beq j k then some x else f j
def del {α : Type} (f : Nat → Option α) (k : Nat) : Nat → Option α := fun j => bif Nat.beq j k then none else f j
def emp {α : Type} : Nat → Option α := fun _ => none
def dropF (k : Nat) (f : Nat → Option D) : Nat → Option D := fun s => match f s with | some d => bif d.ment k then none else some d | none => none
def dropH (k : Nat) (h : Nat → Option Blk) : Nat → Option Blk := fun j => bif Nat.beq j k then none else match h j with | some b => bif b.ment k then none else some b | none => none

theorem beq_ne {j k : Nat} (h : j ≠ k) : Nat.beq j k = false := by
  cases e : Nat.beq j k with
  | false => rfl
  | true => exact absurd (Nat.eq_of_beq_eq_true e) h
theorem upd_some {α : Type} {f : Nat → Option α} {k : Nat} {x : α} {j : Nat} {y : α} (h : upd f k x j = some y) : (j = k ∧ y = x) ∨ (j ≠ k ∧ f j = some y) := by
  unfold upd at h
  by_cases e : j = k
  · subst e
    have : Nat.beq j j = true := Nat.beq_refl j
    rw [this] at h
    simp at h
    exact .inl ⟨rfl, h.symm⟩
  · have : Nat.beq j k = false := beq_ne e
    rw [this] at h
    exact .inr ⟨e, h⟩
theorem del_some {α : Type} {f : Nat → Option α} {k : Nat} {j : Nat} {y : α} (h : del f k j = some y) : j ≠ k ∧ f j = some y := by
  unfold del at h
  by_cases e : j = k
  · subst e; simp at h
  · have : Nat.beq j k = false := beq_ne e
    rw [this] at h
    exact ⟨e, h⟩
theorem dropF_some {k : Nat} {f : Nat → Option D} {s : Nat} {d : D} (h : dropF k f s = some d) : f s = some d ∧ d.ment k = false := by
  unfold dropF at h
  cases hf : f s with
  | none => rw [hf] at h; cases h
  | some x =>
    rw [hf] at h
    cases hm : x.ment k with
    | true => simp [hm] at h
    | false => simp [hm] at h; subst h; exact ⟨rfl, hm⟩
theorem dropH_some {k : Nat} {f : Nat → Option Blk} {s : Nat} {d : Blk} (h : dropH k f s = some d) : s ≠ k ∧ f s = some d ∧ d.ment k = false := by
  unfold dropH at h
  by_cases e : s = k
  · subst e; simp at h
  · have : Nat.beq s k = false := beq_ne e
    rw [this] at h
    refine ⟨e, ?_⟩
    cases hf : f s with
    | none => rw [hf] at h; cases h
    | some x =>
      rw [hf] at h
      cases hm : x.ment k with
      | true => simp [hm] at h
      | false => simp [hm] at h; subst h; exact ⟨rfl, hm⟩

def St.put (σ : St) (dst : Option Nat) (d : D) : St :=
  match dst with
  | some s => { σ with fr := upd σ.fr s d }
  | none => σ
/-- An operation that its guard has passed over leaves nothing in its slot. -/
def St.skip (σ : St) (dst : Option Nat) : St := σ.put dst (.v true (.t []))

theorem Act.getD_put_other (a : Act) (s j : Nat) (v : Value) (h : j ≠ s) : (a.put (some s) v).tmps.getD j undef = a.tmps.getD j undef := by
  simp only [Act.put, Array.getD_eq_getD_getElem?, Array.getElem?_setIfInBounds]
  rw [if_neg (fun e => h e.symm)]
theorem Act.getD_put_same (a : Act) (s : Nat) (v : Value) (h : s < a.tmps.size) : (a.put (some s) v).tmps.getD s undef = v := by
  simp [Act.put, Array.getD_eq_getD_getElem?, h]
theorem Act.size_put (a : Act) (dst : Option Tmp) (v : Value) : (a.put dst v).tmps.size = a.tmps.size := by
  cases dst <;> simp [Act.put]
theorem Act.defers_put (a : Act) (dst : Option Tmp) (v : Value) : (a.put dst v).defers = a.defers := by
  cases dst <;> simp [Act.put]

theorem Rm.fits_put {R : Rm} {a : Act} (h : R.fits a.tmps) {s : Nat} (v : Value) (hs : R.can s = true) : R.fits (a.put (some s) v).tmps :=
  ⟨by rw [Act.size_put]; exact h.1, fun j hj => by
    have hne : j ≠ s := fun e => by rw [e, Rm.can_no hs] at hj; cases hj
    rw [Act.getD_put_other _ _ _ _ hne]; exact h.2 j hj⟩

theorem Holds.put {C : Ctx} {σ : St} {φ : Phi} {I : Nat → Prop} {a : Act} {w : World} (h : Holds C σ φ I a w) (dst : Option Nat) (d : D) (v : Value)
    (hd : DRep w I C.base φ d v) (hs : ∀ s, dst = some s → C.N.can s = true) : Holds C (σ.put dst d) φ I (a.put dst v) w := by
  cases dst with
  | none => exact h
  | some s =>
    refine ⟨by rw [Act.defers_put]; exact h.df, Rm.fits_put h.sz _ (hs _ rfl), h.wok, fun j x hj => ?_⟩
    rcases upd_some hj with ⟨rfl, rfl⟩ | ⟨hne, hj'⟩
    · rw [Act.getD_put_same _ _ _ (by rw [h.sz.1]; exact Rm.can_lt (hs _ rfl))]; exact hd
    · rw [Act.getD_put_other _ _ _ _ hne]
      exact h.fr j x hj'

theorem Holds.skip {C : Ctx} {σ : St} {φ : Phi} {I : Nat → Prop} {a : Act} {w : World} (h : Holds C σ φ I a w) (dst : Option Nat) (hs : ∀ s, dst = some s → C.N.can s = true) : Holds C (σ.skip dst) φ I (a.put dst undef) w :=
  h.put dst _ undef (.v _ _ _ (.t [] [] rfl (fun i x v h => by simp at h))) hs

/-- Less is said. -/
structure St.le (σ' σ : St) : Prop where
  fr : ∀ s d, σ'.fr s = some d → σ.fr s = some d
  hp : ∀ k b, σ'.hp k = some b → σ.hp k = some b
  df : σ'.df = σ.df
  gh : σ'.gh = σ.gh

theorem Holds.le {C : Ctx} {σ σ' : St} {φ : Phi} {I : Nat → Prop} {a : Act} {w : World} (h : Holds C σ φ I a w) (hl : σ'.le σ) : Holds C σ' φ I a w :=
  ⟨h.df.trans hl.df.symm, h.sz, { h.wok with
    own := fun k blk hb => h.wok.own k blk (hl.hp k blk hb)
    inj := fun k k' blk blk' b c c' h1 h2 => h.wok.inj k k' blk blk' b c c' (hl.hp _ _ h1) (hl.hp _ _ h2)
    owned := fun k blk b c hb => h.wok.owned k blk b c (hl.hp _ _ hb) }, fun s d hs => h.fr s d (hl.fr s d hs)⟩

end Bf
