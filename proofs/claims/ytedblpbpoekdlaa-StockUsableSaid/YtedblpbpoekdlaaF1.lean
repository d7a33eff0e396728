/- The engine, part 1: plain data, what it means that a value of the model reads as such data, and the state of a function that is walked. No program is named here. -/
import Derived.WalkKit
import Derived.TacticsIn
import Derived.OrdersIn
namespace Bf
open Go Go.RowKit

/-- Data that nobody changes. -/
inductive V where
  | b (x : Bool)
  | i (k : IntKind) (n : Int)
  | s (x : ByteArray)
  | raw (v : Value)
  | st (xs : List V)
  | t (xs : List V)
  | l (z : Nat) (xs : List V)
  | q (xs : List V)
  | c (f : FuncId) (caps : List V)

instance : Inhabited V := ⟨.b false⟩

/-- 'v' reads as 'x' in the world 'w'; the memory that it reaches lies in blocks of 'I'. -/
inductive VRep (w : World) (I : Nat → Prop) : V → Value → Prop
  | b (x : Bool) : VRep w I (.b x) (.bool x)
  | i (k : IntKind) (n : Int) : VRep w I (.i k n) (.int k n)
  | s (x : ByteArray) : VRep w I (.s x) (.string x)
  | raw (v : Value) (h : v.oneCell' = true) : VRep w I (.raw v) v
  | st (xs : List V) (vs : List Value) (hl : xs.length = vs.length) (h1 : ∀ v ∈ vs, v.oneCell' = true)
      (h : ∀ (i : Nat) x v, xs[i]? = some x → vs[i]? = some v → VRep w I x v) : VRep w I (.st xs) (.agg vs.toArray)
  | t (xs : List V) (vs : List Value) (hl : xs.length = vs.length)
      (h : ∀ (i : Nat) x v, xs[i]? = some x → vs[i]? = some v → VRep w I x v) : VRep w I (.t xs) (.tuple vs.toArray)
  | l (z : Nat) (xs : List V) (A : Option Addr) (c : Nat) (hc : xs.length ≤ c) (hm : c ≤ maxLen) (val : Nat → Value) (b o : Nat)
      (hA : 0 < xs.length → A = some ⟨b, o, none⟩ ∧ I b)
      (h : ∀ (i : Nat) x, xs[i]? = some x → VRep w I x (val i))
      (hz : ∀ (i : Nat) x, xs[i]? = some x → (val i).cells.size = z)
      (hcell : ∀ (i j : Nat) x u, xs[i]? = some x → (val i).cells[j]? = some u → w.cell? ⟨b, o + (i * z + j), none⟩ = some u) :
      VRep w I (.l z xs) (.slice A xs.length c)
  | q (xs : List V) (vs : List Value) (b o : Nat) (hl : xs.length = vs.length) (h1 : ∀ v ∈ vs, v.oneCell' = true) (hI : I b)
      (h : ∀ (i : Nat) x v, xs[i]? = some x → vs[i]? = some v → VRep w I x v)
      (hcell : ∀ (j : Nat) u, vs[j]? = some u → w.cell? ⟨b, o + j, none⟩ = some u) : VRep w I (.q xs) (.pointer (some ⟨b, o, none⟩))
  | c (f : FuncId) (caps : List V) (vs : List Value) (hl : caps.length = vs.length)
      (h : ∀ (i : Nat) x v, caps[i]? = some x → vs[i]? = some v → VRep w I x v) : VRep w I (.c f caps) (.func (.func f) #[] vs.toArray)

theorem VRep.mono {w w' : World} {I I' : Nat → Prop} {x : V} {v : Value} (h : VRep w I x v)
    (hw : ∀ b, I b → w'.heap[b]? = w.heap[b]?) (hI : ∀ b, I b → I' b) : VRep w' I' x v := by
  induction h with
  | b x => exact .b x
  | i k n => exact .i k n
  | s x => exact .s x
  | raw v h => exact .raw v h
  | st xs vs hl h1 _ ih => exact .st xs vs hl h1 ih
  | t xs vs hl _ ih => exact .t xs vs hl ih
  | l z xs A c hc hm val b o hA _ hz hcell ih =>
    refine .l z xs A c hc hm val b o (fun h => ⟨(hA h).1, hI _ (hA h).2⟩) ih hz (fun i j x u hx hu => ?_)
    have hpos : 0 < xs.length := by
      rcases List.getElem?_eq_some_iff.1 hx with ⟨hlt, _⟩; omega
    rw [World.cell?_of_block (w := w) (hw b (hA hpos).2)]
    exact hcell i j x u hx hu
  | q xs vs b o hl h1 hb _ hcell ih =>
    refine .q xs vs b o hl h1 (hI _ hb) ih (fun j u hu => ?_)
    rw [World.cell?_of_block (w := w) (hw b hb)]
    exact hcell j u hu
  | c f caps vs hl _ ih => exact .c f caps vs hl ih

/-- The values of a list read as the data of a list. -/
def VReps (w : World) (I : Nat → Prop) (xs : List V) (vs : List Value) : Prop :=
  xs.length = vs.length ∧ ∀ (i : Nat) x v, xs[i]? = some x → vs[i]? = some v → VRep w I x v

theorem VReps.nil {w : World} {I : Nat → Prop} : VReps w I [] [] := ⟨rfl, fun i x v h => by simp at h⟩
theorem VReps.cons {w : World} {I : Nat → Prop} {x : V} {v : Value} {xs : List V} {vs : List Value} (h : VRep w I x v) (hs : VReps w I xs vs) : VReps w I (x :: xs) (v :: vs) := by
  refine ⟨by simp [hs.1], fun i y u hy hu => ?_⟩
  cases i with
  | zero => simp at hy hu; subst hy; subst hu; exact h
  | succ i => simp at hy hu; exact hs.2 i y u hy hu
theorem VReps.cons_inv {w : World} {I : Nat → Prop} {x : V} {xs : List V} {vs : List Value} (h : VReps w I (x :: xs) vs) : ∃ v vs', vs = v :: vs' ∧ VRep w I x v ∧ VReps w I xs vs' := by
  obtain ⟨hl, h⟩ := h
  cases vs with
  | nil => simp at hl
  | cons v vs' => exact ⟨v, vs', rfl, h 0 x v rfl rfl, by simpa using hl, fun i y u hy hu => h (i + 1) y u (by simpa using hy) (by simpa using hu)⟩
theorem VReps.nil_inv {w : World} {I : Nat → Prop} {vs : List Value} (h : VReps w I [] vs) : vs = [] := by
  obtain ⟨hl, _⟩ := h
  exact List.eq_nil_of_length_eq_zero (by simpa using hl.symm)
theorem VReps.get {w : World} {I : Nat → Prop} {xs : List V} {vs : List Value} (h : VReps w I xs vs) {i : Nat} {x : V} (hx : xs[i]? = some x) : ∃ v, vs[i]? = some v ∧ VRep w I x v := by
  have hi : i < xs.length := (List.getElem?_eq_some_iff.1 hx).1
  have hv : vs[i]? = some (vs[i]'(by have := h.1; omega)) := List.getElem?_eq_getElem _
  exact ⟨_, hv, h.2 i x _ hx hv⟩
theorem VReps.mono {w w' : World} {I I' : Nat → Prop} {xs : List V} {vs : List Value} (h : VReps w I xs vs)
    (hw : ∀ b, I b → w'.heap[b]? = w.heap[b]?) (hI : ∀ b, I b → I' b) : VReps w' I' xs vs := ⟨h.1, fun i x v hx hv => (h.2 i x v hx hv).mono hw hI⟩
theorem VReps.drop {w : World} {I : Nat → Prop} {xs : List V} {vs : List Value} (h : VReps w I xs vs) (n : Nat) : VReps w I (xs.drop n) (vs.drop n) :=
  ⟨by simp [h.1], fun i x v hx hv => h.2 (n + i) x v (by simpa using hx) (by simpa using hv)⟩
theorem VReps.take {w : World} {I : Nat → Prop} {xs : List V} {vs : List Value} (h : VReps w I xs vs) (n : Nat) : VReps w I (xs.take n) (vs.take n) :=
  ⟨by simp [h.1], fun i x v hx hv => by
    rw [List.getElem?_take] at hx hv
    split at hx
    · rename_i hi; rw [if_pos hi] at hv; exact h.2 i x v hx hv
    · cases hx⟩
theorem VReps.append {w : World} {I : Nat → Prop} {xs ys : List V} {vs us : List Value} (h : VReps w I xs vs) (h' : VReps w I ys us) : VReps w I (xs ++ ys) (vs ++ us) := by
  refine ⟨by simp [h.1, h'.1], fun i x v hx hv => ?_⟩
  have hl := h.1
  by_cases hi : i < xs.length
  · rw [List.getElem?_append_left hi] at hx
    rw [List.getElem?_append_left (by omega)] at hv
    exact h.2 i x v hx hv
  · rw [List.getElem?_append_right (by omega)] at hx
    rw [List.getElem?_append_right (by omega), ← hl] at hv
    exact h'.2 _ x v hx hv

/-- What a datum's value holds in its cells. -/
def V.cells : V → List V
  | .st xs => xs
  | x => [x]

theorem oneCell_cells {v : Value} (h : v.oneCell' = true) : v.cells = #[v] := by
  cases v <;> simp [Value.oneCell', Value.cells] at h ⊢

/-- Is it one cell? -/
def V.one : V → Bool
  | .st _ | .t _ => false
  | _ => true
/-- It is no tuple. -/
def V.plain : V → Bool
  | .t _ => false
  | _ => true

theorem VRep.one {w : World} {I : Nat → Prop} {x : V} {v : Value} (h : VRep w I x v) (hx : x.one = true) : v.oneCell' = true := by
  cases h <;> simp_all [V.one, Value.oneCell']

/-- A datum that is no tuple: its value's cells read as its cells, each of them one. -/
theorem VRep.cells {w : World} {I : Nat → Prop} {x : V} {v : Value} (h : VRep w I x v) (hx : x.plain = true) :
    VReps w I x.cells v.cells.toList ∧ ∀ u ∈ v.cells.toList, u.oneCell' = true := by
  cases h with
  | st xs vs hl h1 h => exact ⟨⟨hl, h⟩, by simpa [Value.cells] using h1⟩
  | t => simp [V.plain] at hx
  | b x => exact ⟨.cons (.b x) .nil, by simp [Value.cells, Value.oneCell']⟩
  | i k n => exact ⟨.cons (.i k n) .nil, by simp [Value.cells, Value.oneCell']⟩
  | s x => exact ⟨.cons (.s x) .nil, by simp [Value.cells, Value.oneCell']⟩
  | raw v h =>
    rw [oneCell_cells h]
    exact ⟨.cons (.raw v h) .nil, by simpa using h⟩
  | l z xs A c hc hm val b o hA h hz hcell => exact ⟨.cons (.l z xs A c hc hm val b o hA h hz hcell) .nil, by simp [Value.cells, Value.oneCell']⟩
  | q xs vs b o hl h1 hI h hcell => exact ⟨.cons (.q xs vs b o hl h1 hI h hcell) .nil, by simp [Value.cells, Value.oneCell']⟩
  | c f caps vs hl h => exact ⟨.cons (.c f caps vs hl h) .nil, by simp [Value.cells, Value.oneCell']⟩

theorem VRep.b_inv {w : World} {I : Nat → Prop} {x : Bool} {v : Value} (h : VRep w I (.b x) v) : v = .bool x := by cases h; rfl
theorem VRep.i_inv {w : World} {I : Nat → Prop} {k : IntKind} {n : Int} {v : Value} (h : VRep w I (.i k n) v) : v = .int k n := by cases h; rfl
theorem VRep.s_inv {w : World} {I : Nat → Prop} {x : ByteArray} {v : Value} (h : VRep w I (.s x) v) : v = .string x := by cases h; rfl
theorem VRep.raw_inv {w : World} {I : Nat → Prop} {x v : Value} (h : VRep w I (.raw x) v) : v = x ∧ x.oneCell' = true := by cases h; exact ⟨rfl, by assumption⟩
theorem VRep.st_inv {w : World} {I : Nat → Prop} {xs : List V} {v : Value} (h : VRep w I (.st xs) v) : ∃ vs : List Value, v = .agg vs.toArray ∧ VReps w I xs vs ∧ ∀ u ∈ vs, u.oneCell' = true := by
  cases h with | st _ vs hl h1 h => exact ⟨vs, rfl, ⟨hl, h⟩, h1⟩
theorem VRep.t_inv {w : World} {I : Nat → Prop} {xs : List V} {v : Value} (h : VRep w I (.t xs) v) : ∃ vs : List Value, v = .tuple vs.toArray ∧ VReps w I xs vs := by
  cases h with | t _ vs hl h => exact ⟨vs, rfl, ⟨hl, h⟩⟩
theorem VRep.q_inv {w : World} {I : Nat → Prop} {xs : List V} {v : Value} (h : VRep w I (.q xs) v) : ∃ (vs : List Value) (b o : Nat), v = .pointer (some ⟨b, o, none⟩) ∧ VReps w I xs vs ∧ (∀ u ∈ vs, u.oneCell' = true) ∧ I b ∧
    ∀ (j : Nat) u, vs[j]? = some u → w.cell? ⟨b, o + j, none⟩ = some u := by
  cases h with | q _ vs b o hl h1 hI h hcell => exact ⟨vs, b, o, rfl, ⟨hl, h⟩, h1, hI, hcell⟩
theorem VRep.c_inv {w : World} {I : Nat → Prop} {f : FuncId} {xs : List V} {v : Value} (h : VRep w I (.c f xs) v) : ∃ vs : List Value, v = .func (.func f) #[] vs.toArray ∧ VReps w I xs vs := by
  cases h with | c _ _ vs hl h => exact ⟨vs, rfl, ⟨hl, h⟩⟩
theorem VRep.l_inv {w : World} {I : Nat → Prop} {z : Nat} {xs : List V} {v : Value} (h : VRep w I (.l z xs) v) : ∃ (A : Option Addr) (c b o : Nat) (val : Nat → Value), v = .slice A xs.length c ∧ xs.length ≤ c ∧ c ≤ maxLen ∧
    (0 < xs.length → A = some ⟨b, o, none⟩ ∧ I b) ∧ (∀ (i : Nat) x, xs[i]? = some x → VRep w I x (val i)) ∧ (∀ (i : Nat) x, xs[i]? = some x → (val i).cells.size = z) ∧
    (∀ (i j : Nat) x u, xs[i]? = some x → (val i).cells[j]? = some u → w.cell? ⟨b, o + (i * z + j), none⟩ = some u) := by
  cases h with | l _ _ A c hc hm val b o hA h hz hcell => exact ⟨A, c, b, o, val, rfl, hc, hm, hA, h, hz, hcell⟩
theorem VRep.len_le {w : World} {I : Nat → Prop} {z : Nat} {xs : List V} {v : Value} (h : VRep w I (.l z xs) v) : xs.length ≤ maxLen := by
  obtain ⟨A, c, b, o, val, _, h1, h2, _⟩ := h.l_inv
  omega

/-- Data that reaches no memory: it reads alike everywhere. -/
def Flat (x : V) : Prop := ∀ (w : World) (I : Nat → Prop) (v : Value) (w' : World) (I' : Nat → Prop), VRep w I x v → VRep w' I' x v
theorem Flat.b (x : Bool) : Flat (.b x) := fun _ _ _ _ _ h => by cases h; exact .b x
theorem Flat.i (k : IntKind) (n : Int) : Flat (.i k n) := fun _ _ _ _ _ h => by cases h; exact .i k n
theorem Flat.s (x : ByteArray) : Flat (.s x) := fun _ _ _ _ _ h => by cases h; exact .s x
theorem Flat.raw (v : Value) : Flat (.raw v) := fun _ _ _ _ _ h => by cases h; exact .raw _ (by assumption)
theorem Flat.st {xs : List V} (h : ∀ x ∈ xs, Flat x) : Flat (.st xs) := fun w I v w' I' hr => by
  cases hr with
  | st _ vs hl h1 hh => exact .st xs vs hl h1 fun i x v hx hv => h x (List.mem_of_getElem? hx) w I v w' I' (hh i x v hx hv)
theorem Flat.t {xs : List V} (h : ∀ x ∈ xs, Flat x) : Flat (.t xs) := fun w I v w' I' hr => by
  cases hr with
  | t _ vs hl hh => exact .t xs vs hl fun i x v hx hv => h x (List.mem_of_getElem? hx) w I v w' I' (hh i x v hx hv)
theorem Flat.nil (z : Nat) : Flat (.l z []) := fun w I v w' I' hr => by
  obtain ⟨A, c, b, o, val, rfl, h1, h2, _⟩ := hr.l_inv
  exact .l z [] A c h1 h2 val b o (fun h => by simp at h) (fun i x h => by simp at h) (fun i x h => by simp at h) (fun i j x u h => by simp at h)
theorem Flat.c {f : FuncId} {xs : List V} (h : ∀ x ∈ xs, Flat x) : Flat (.c f xs) := fun w I v w' I' hr => by
  cases hr with
  | c _ _ vs hl hh => exact .c f xs vs hl fun i x v hx hv => h x (List.mem_of_getElem? hx) w I v w' I' (hh i x v hx hv)

end Bf
