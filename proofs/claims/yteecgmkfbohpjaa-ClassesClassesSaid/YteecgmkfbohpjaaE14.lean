/- The engine, part 14: lengths that memory bounds, counting loops with a state written out, and small rules. No program is named here. -/
import Derived.Test.YteecgmkfbohpjaaE13
namespace Bf
open Go Go.RowKit

/-- All lists within it are of a length that a slice can have. -/
inductive LenOk : V → Prop
  | b (x : Bool) : LenOk (.b x)
  | i (k : IntKind) (n : Int) : LenOk (.i k n)
  | s (x : ByteArray) : LenOk (.s x)
  | raw (v : Value) : LenOk (.raw v)
  | st (xs : List V) (h : ∀ x ∈ xs, LenOk x) : LenOk (.st xs)
  | t (xs : List V) (h : ∀ x ∈ xs, LenOk x) : LenOk (.t xs)
  | l (z : Nat) (xs : List V) (hl : xs.length ≤ maxLen) (h : ∀ x ∈ xs, LenOk x) : LenOk (.l z xs)
  | q (xs : List V) (h : ∀ x ∈ xs, LenOk x) : LenOk (.q xs)
  | c (f : FuncId) (xs : List V) (h : ∀ x ∈ xs, LenOk x) : LenOk (.c f xs)

theorem LenOk.len {z : Nat} {xs : List V} (h : LenOk (.l z xs)) : xs.length ≤ maxLen := by cases h; assumption
theorem LenOk.els {z : Nat} {xs : List V} (h : LenOk (.l z xs)) : ∀ x ∈ xs, LenOk x := by cases h; assumption
theorem LenOk.fld {xs : List V} (h : LenOk (.st xs)) : ∀ x ∈ xs, LenOk x := by cases h; assumption
theorem LenOk.tup {xs : List V} (h : LenOk (.t xs)) : ∀ x ∈ xs, LenOk x := by cases h; assumption
theorem LenOk.box {xs : List V} (h : LenOk (.q xs)) : ∀ x ∈ xs, LenOk x := by cases h; assumption
theorem LenOk.cap {f : FuncId} {xs : List V} (h : LenOk (.c f xs)) : ∀ x ∈ xs, LenOk x := by cases h; assumption

theorem lens_of {xs : List V} {vs : List Value} (hl : xs.length = vs.length) (ih : ∀ (i : Nat) (x : V) (v : Value), xs[i]? = some x → vs[i]? = some v → LenOk x) : ∀ x ∈ xs, LenOk x := fun x hx => by
  obtain ⟨i, hi, rfl⟩ := List.getElem_of_mem hx
  exact ih i _ _ (List.getElem?_eq_getElem hi) (List.getElem?_eq_getElem (by omega))

theorem VRep.lenOk {w : World} {I : Nat → Prop} {x : V} {v : Value} (h : VRep w I x v) : LenOk x := by
  induction h with
  | b x => exact .b x
  | i k n => exact .i k n
  | s x => exact .s x
  | raw v h => exact .raw v
  | st xs vs hl h1 _ ih => exact .st xs (lens_of hl ih)
  | t xs vs hl _ ih => exact .t xs (lens_of hl ih)
  | l z xs A c hc hm val b o hA _ hz hcell ih =>
    refine .l z xs (by omega) fun x hx => ?_
    obtain ⟨i, hi, rfl⟩ := List.getElem_of_mem hx
    exact ih i _ (List.getElem?_eq_getElem hi)
  | q xs vs b o hl h1 hb _ hcell ih => exact .q xs (lens_of hl ih)
  | c f caps vs hl _ ih => exact .c f caps (lens_of hl ih)

theorem pure_len {P : Program} {fr : Bool} {f : FuncId} {ds : List V} {r : V} (h : (∀ x ∈ ds, LenOk x) → PureC P fr f ds r) : PureC P fr f ds r :=
  fun args w J hJ ha => h (lens_of ha.1 fun i x v hx hv => (ha.2 i x v hx hv).lenOk) args w J hJ ha

section
variable {X : Cx} {rd : Option Nat} {P : Program} {σ : St} {Q : Exit → St → Prop} {f : Bool} {x : V}
theorem ev_ok {c : Code} (s : Nat) (hs : σ.fr s = some (.v f x)) (h : LenOk x → Ev X rd P c σ Q) : Ev X rd P c σ Q :=
  fun C φ I a w hC hh => h (hh.fr s _ hs).v_inv.lenOk C φ I a w hC hh
theorem run_ok {ops : Array Oper} {rest : List Oper} (s : Nat) (hs : σ.fr s = some (.v f x)) (h : LenOk x → RunS X rd P ops rest σ Q) : RunS X rd P ops rest σ Q :=
  fun C φ I a w hC hh => h (hh.fr s _ hs).v_inv.lenOk C φ I a w hC hh
end

/-- A counter, as the machine counts. -/
def cN : Nat → Int
  | 0 => 0
  | k + 1 => IntKind.i64.wrap (cN k + 1)
theorem cN_eq : ∀ {k : Nat}, k ≤ maxLen → cN k = k
  | 0, _ => rfl
  | k + 1, h => by
    unfold maxLen at h
    rw [cN, cN_eq (by unfold maxLen; omega), IntWalk.i64_in _ (by omega)]
    omega

def assocN {α : Type} : List (Nat × α) → Nat → Option α
  | [], _ => none
  | (k, x) :: l, s => bif Nat.beq s k then some x else assocN l s

/-- A state said anew: some slots and blocks are written out, some are kept, the others are forgotten. -/
def St.at (σ : St) (keep : List Nat) (mods : List (Nat × D)) (kh : List Nat) (mh : List (Nat × Blk)) : St :=
  ⟨fun s => match assocN mods s with | some d => some d | none => bif hasN keep s then σ.fr s else none, fun s => match assocN mh s with | some d => some d | none => bif hasN kh s then σ.hp s else none, σ.df, σ.gh⟩

def HasF {α : Type} (f : Nat → Option α) : List (Nat × α) → Prop
  | [] => True
  | (s, d) :: l => f s = some d ∧ HasF f l
def SameF {α : Type} (f f' : Nat → Option α) : List Nat → Prop
  | [] => True
  | s :: l => f' s = f s ∧ SameF f f' l

theorem has0 {α : Type} {f : Nat → Option α} : HasF f [] := trivial
theorem has1 {α : Type} {f : Nat → Option α} {s : Nat} {d d' : α} {l : List (Nat × α)} (h : f s = some d') (e : d' = d) (t : HasF f l) : HasF f ((s, d) :: l) := ⟨e ▸ h, t⟩
theorem same0 {α : Type} {f f' : Nat → Option α} : SameF f f' [] := trivial
theorem same1 {α : Type} {f f' : Nat → Option α} {s : Nat} {l : List Nat} (h : f' s = f s) (t : SameF f f' l) : SameF f f' (s :: l) := ⟨h, t⟩

theorem assocN_has {α : Type} {f : Nat → Option α} : ∀ {l : List (Nat × α)} {s : Nat} {d : α}, HasF f l → assocN l s = some d → f s = some d
  | [], _, _, _, h => by simp [assocN] at h
  | (k, x) :: l, s, d, hf, h => by
    simp only [assocN] at h
    cases e : Nat.beq s k with
    | true =>
      rw [e] at h
      cases h
      rw [Nat.eq_of_beq_eq_true e]
      exact hf.1
    | false => rw [e] at h; exact assocN_has hf.2 h
theorem hasN_same {α : Type} {f f' : Nat → Option α} : ∀ {l : List Nat} {s : Nat}, SameF f f' l → hasN l s = true → f' s = f s
  | [], _, _, h => by simp [hasN] at h
  | k :: l, s, hf, h => by
    simp only [hasN, Bool.or_eq_true] at h
    rcases h with h | h
    · rw [Nat.eq_of_beq_eq_true h]; exact hf.1
    · exact hasN_same hf.2 h

section
variable {X : Cx} {rd : Option Nat} {P : Program} {σ σ' : St} {Q : Exit → St → Prop} {keep kh : List Nat}

theorem at_shift {mods : List (Nat × D)} {mh : List (Nat × Blk)} (hm : HasF σ'.fr mods) (hk : SameF σ.fr σ'.fr keep) (hmh : HasF σ'.hp mh) (hkh : SameF σ.hp σ'.hp kh) (hd : σ'.df = σ.df) (hgh : σ'.gh = σ.gh) : Shift X σ' (σ.at keep mods kh mh) := by
  refine shift_le ⟨fun s d h => ?_, fun s d h => ?_, hd.symm, hgh.symm⟩
  · simp only [St.at] at h
    cases e : assocN mods s with
    | some d' => rw [e] at h; cases h; exact assocN_has hm e
    | none =>
      rw [e] at h
      simp only at h
      cases e2 : hasN keep s with
      | true => rw [e2] at h; exact (hasN_same hk e2).trans h
      | false => rw [e2] at h; cases h
  · simp only [St.at] at h
    cases e : assocN mh s with
    | some d' => rw [e] at h; cases h; exact assocN_has hmh e
    | none =>
      rw [e] at h
      simp only at h
      cases e2 : hasN kh s with
      | true => rw [e2] at h; exact (hasN_same hkh e2).trans h
      | false => rw [e2] at h; cases h

/-- A counting loop: at the head of round 'k' the slots 'mods k' and the blocks 'mh k', those kept, and no others. -/
theorem ev_for {body : Code} (N : Nat) (keep : List Nat) (mods : Nat → List (Nat × D)) (kh : List Nat) (mh : Nat → List (Nat × Blk)) (h0 : Shift X σ (σ.at keep (mods 0) kh (mh 0)))
    (hstep : ∀ k, k ≤ N → Ev X rd P body (σ.at keep (mods k) kh (mh k)) (thenQ (fun σ'' => k < N ∧ Shift X σ'' (σ.at keep (mods (k + 1)) kh (mh (k + 1)))) Q)) : Ev X rd P (.loop body) σ Q :=
  ev_count N (fun k => σ.at keep (mods k) kh (mh k)) h0 hstep

/-- A counting loop with more that goes round: a parameter, and what is said of it. -/
theorem ev_forA {body : Code} {α : Type} (N : Nat) (Inv : Nat → α → Prop) (keep : List Nat) (mods : Nat → α → List (Nat × D)) (kh : List Nat) (mh : Nat → α → List (Nat × Blk)) (a0 : α) (hi : Inv 0 a0) (h0 : Shift X σ (σ.at keep (mods 0 a0) kh (mh 0 a0)))
    (hstep : ∀ k a, k ≤ N → Inv k a → Ev X rd P body (σ.at keep (mods k a) kh (mh k a)) (thenQ (fun σ'' => ∃ a', k < N ∧ Inv (k + 1) a' ∧ Shift X σ'' (σ.at keep (mods (k + 1) a') kh (mh (k + 1) a'))) Q)) : Ev X rd P (.loop body) σ Q :=
  ev_loop (fun n σ' => ∃ k a, k ≤ N ∧ Inv k a ∧ n = N - k ∧ σ' = σ.at keep (mods k a) kh (mh k a)) N ⟨_, ⟨0, a0, Nat.zero_le _, hi, rfl, rfl⟩, h0⟩ fun n σ' ⟨k, a, hk, hi, hn, hσ⟩ => by
    subst hσ
    refine ev_mono (hstep k a hk hi) fun e σ'' h => ?_
    cases e <;> try exact h
    obtain ⟨a', h1, h2, h3⟩ := h
    exact ⟨N - (k + 1), _, by omega, ⟨k + 1, a', h1, h2, rfl, rfl⟩, h3⟩
def St.atg (σ : St) (g : Nat × Bool) (keep : List Nat) (mods : List (Nat × D)) (kh : List Nat) (mh : List (Nat × Blk)) : St := { σ.at keep mods kh mh with gh := g }
theorem atg_shift {g : Nat × Bool} {mods : List (Nat × D)} {mh : List (Nat × Blk)} (hm : HasF σ'.fr mods) (hk : SameF σ.fr σ'.fr keep) (hmh : HasF σ'.hp mh) (hkh : SameF σ.hp σ'.hp kh) (hd : σ'.df = σ.df) (hgh : σ'.gh = g) : Shift X σ' (σ.atg g keep mods kh mh) := by
  have h := at_shift (X := X) (σ := { σ with gh := σ'.gh }) (σ' := σ') (keep := keep) (kh := kh) hm hk hmh hkh hd rfl
  subst hgh
  exact h
/-- A counting loop of an iterator. -/
theorem ev_forG {body : Code} {α : Type} (N : Nat) (Inv : Nat → α → Prop) (g : Nat → α → Nat × Bool) (keep : List Nat) (mods : Nat → α → List (Nat × D)) (kh : List Nat) (mh : Nat → α → List (Nat × Blk)) (a0 : α) (hi : Inv 0 a0) (h0 : Shift X σ (σ.atg (g 0 a0) keep (mods 0 a0) kh (mh 0 a0)))
    (hstep : ∀ k a, k ≤ N → Inv k a → Ev X rd P body (σ.atg (g k a) keep (mods k a) kh (mh k a)) (thenQ (fun σ'' => ∃ a', k < N ∧ Inv (k + 1) a' ∧ Shift X σ'' (σ.atg (g (k + 1) a') keep (mods (k + 1) a') kh (mh (k + 1) a'))) Q)) : Ev X rd P (.loop body) σ Q :=
  ev_loop (fun n σ' => ∃ k a, k ≤ N ∧ Inv k a ∧ n = N - k ∧ σ' = σ.atg (g k a) keep (mods k a) kh (mh k a)) N ⟨_, ⟨0, a0, Nat.zero_le _, hi, rfl, rfl⟩, h0⟩ fun n σ' ⟨k, a, hk, hi, hn, hσ⟩ => by
    subst hσ
    refine ev_mono (hstep k a hk hi) fun e σ'' h => ?_
    cases e <;> try exact h
    obtain ⟨a', h1, h2, h3⟩ := h
    exact ⟨N - (k + 1), _, by omega, ⟨k + 1, a', h1, h2, rfl, rfl⟩, h3⟩
theorem ev_forP {body : Code} (N : Nat) (Inv : Nat → Prop) (keep : List Nat) (mods : Nat → List (Nat × D)) (kh : List Nat) (mh : Nat → List (Nat × Blk)) (hi : Inv 0) (h0 : Shift X σ (σ.at keep (mods 0) kh (mh 0)))
    (hstep : ∀ k, k ≤ N → Inv k → Ev X rd P body (σ.at keep (mods k) kh (mh k)) (thenQ (fun σ'' => k < N ∧ Inv (k + 1) ∧ Shift X σ'' (σ.at keep (mods (k + 1)) kh (mh (k + 1)))) Q)) : Ev X rd P (.loop body) σ Q :=
  ev_forA (α := Unit) N (fun k _ => Inv k) keep (fun k _ => mods k) kh (fun k _ => mh k) () hi h0 fun k _ hk hi => ev_mono (hstep k hk hi) fun e σ'' h => by
    cases e <;> try exact h
    exact ⟨(), h⟩
end

theorem round_in {α : Type} {xs : List α} {enc : α → V} {k : Nat} (hl : xs.length ≤ maxLen) (hk : k ≤ xs.length) (h : decide (cN k < ((xs.map enc).length : Nat)) = true) :
    ∃ x, k < xs.length ∧ 0 ≤ cN k ∧ (xs.map enc)[(cN k).toNat]? = some (enc x) ∧ xs[k]? = some x ∧ xs.drop k = x :: xs.drop (k + 1) ∧ x ∈ xs := by
  have hc := cN_eq (Nat.le_trans hk hl)
  rw [hc] at h ⊢
  have hlt : k < xs.length := by simpa using h
  exact ⟨xs[k], hlt, by omega, by simp [hlt], by simp [hlt], by simp, List.getElem_mem hlt⟩
theorem round_out {α : Type} {xs : List α} {enc : α → V} {k : Nat} (hl : xs.length ≤ maxLen) (hk : k ≤ xs.length) (h : decide (cN k < ((xs.map enc).length : Nat)) = false) : k = xs.length ∧ xs.drop k = [] := by
  have hc := cN_eq (Nat.le_trans hk hl)
  rw [hc] at h
  have : ¬ k < xs.length := by simpa using h
  exact ⟨by omega, by simp; omega⟩
theorem idx_at {α : Type} {ys : List α} {enc : α → V} {k : Nat} (hl : k ≤ maxLen) (hk : k < ys.length) : ∃ y, 0 ≤ cN k ∧ (ys.map enc)[(cN k).toNat]? = some (enc y) ∧ ys[k]? = some y ∧ ys.drop k = y :: ys.drop (k + 1) ∧ y ∈ ys := by
  have hc := cN_eq hl
  rw [hc]
  exact ⟨ys[k], by omega, by simp [hk], by simp [hk], by simp, List.getElem_mem hk⟩
end Bf
