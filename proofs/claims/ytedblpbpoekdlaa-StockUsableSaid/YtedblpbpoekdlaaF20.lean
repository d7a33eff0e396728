/- The engine, part 20: more rules that a printed walk leans on. No program is named here. -/
import Derived.Test.YtedblpbpoekdlaaF19
import Derived.Laws.Cover3
namespace Bf
open Go Go.RowKit

section
variable {X : Cx} {rd : Option Nat} {P : Program} {σ : St} {Q : Exit → St → Prop} {f : Bool}
/-- Less is said of a block's cells. -/
theorem shift_wk {k i ty : Nat} {pl : Pl} {xs ys : List D} (hk : σ.hp k i = some (pl, .row ty xs)) (hw : Wks xs ys) : Shift X σ (σ.setH k i (some (pl, .row ty ys))) :=
  ⟨rfl, fun C I a w _ h => by
    have out : ∀ {j l : Nat} {x : Pl × Blk}, set2 σ.hp k i (some (pl, .row ty ys)) j l = some x → (j = k ∧ l = i ∧ x = (pl, .row ty ys)) ∨ (¬ (j = k ∧ l = i) ∧ σ.hp j l = some x) := fun hj => by
      rcases set2_some hj with ⟨h1, h2, h3⟩ | h1
      · exact .inl ⟨h1, h2, by simpa using h3.symm⟩
      · exact .inr h1
    have key : ∀ {j l b n : Nat} {blk : Blk}, set2 σ.hp k i (some (pl, .row ty ys)) j l = some (some (b, n), blk) → ∃ blk', σ.hp j l = some (some (b, n), blk') := fun hj => by
      rcases out hj with ⟨rfl, rfl, h3⟩ | ⟨_, h1⟩
      · simp at h3; exact ⟨_, h3.1 ▸ hk⟩
      · exact ⟨_, h1⟩
    refine ⟨I, h.df, h.sz, { h.wok with own := fun j l pl' blk hj => ?_, inj := fun j l j' l' b n n' blk blk' h1 h2 => ?_, owned := fun j l b n blk hj => ?_, lo := fun j l b n blk hj => ?_ }, fun s d hs => h.fr s d hs⟩
    · rcases out hj with ⟨rfl, rfl, h3⟩ | ⟨_, h1⟩
      · cases h3
        have := h.wok.own _ _ _ _ hk
        cases pl with
        | none =>
          have hx : xs = [] := this
          subst hx
          exact List.eq_nil_of_length_eq_zero hw.len.symm
        | some p => obtain ⟨b, n⟩ := p; obtain ⟨vs, hr⟩ := this; exact ⟨vs, hr.wk hw⟩
      · exact h.wok.own _ _ _ _ h1
    · obtain ⟨_, e1⟩ := key h1
      obtain ⟨_, e2⟩ := key h2
      exact h.wok.inj j l j' l' b n n' _ _ e1 e2
    · obtain ⟨_, e1⟩ := key hj
      exact h.wok.owned j l b n _ e1
    · obtain ⟨_, e1⟩ := key hj
      exact h.wok.lo j l b n _ e1⟩
/-- A box of data turns no more; what its cells hold is said less exactly first. -/
theorem shift_frzb (s : Nat) {k i n b ty : Nat} {xs : List D} (ys : List V) (hs : σ.fr s = some (.p k i b 0)) (hk : σ.hp k i = some (some (b, n), .row ty xs)) (hw : Wks xs (ys.map (D.v f))) :
    Shift X σ ((σ.setH k i none).put (some s) (.v f (.q ys))) := by
  have h1 := shift_wk (X := X) hk hw
  have h2 := shift_freezeb (X := X) (σ := σ.setH k i (some (some (b, n), .row ty (ys.map (D.v f))))) (f := f) (ys := ys) s (k := k) (i := i) hs (set2_same _ _ _ _) (by rw [List.drop_zero]; exact List.take_of_length_le (by simp))
  have := h1.trans h2
  have e : ((σ.setH k i (some (some (b, n), .row ty (ys.map (D.v f))))).setH k i none) = σ.setH k i none := by
    simp only [St.setH]
    congr 1
    funext j l
    simp only [set2]
    cases Nat.beq j k <;> cases Nat.beq l i <;> rfl
  rw [e] at this
  exact this
variable {α : Type} {E : α → V}
/-- A slice of typed data of the call's own turns no more. -/
theorem shift_frz (s : Nat) {k i z ty : Nat} {pl : Pl} {xs : List α} (hs : σ.fr s = some (.o k i pl z 0 xs.length)) (hk : σ.hp k i = some (pl, .row ty (els f (xs.map E)))) (hE : ∀ x, (E x).plain = true ∧ (V.cells (E x)).length = z) :
    Shift X σ ((σ.setH k i none).put (some s) (.v f (.l z (xs.map E)))) := by
  cases pl with
  | some p =>
    obtain ⟨b, n⟩ := p
    refine shift_freeze s hs hk ?_ (List.length_map _) (els_plain hE)
    rw [List.drop_zero, ← els_len f (fun x => (hE x).2), List.take_length]
  | none =>
    refine ⟨rfl, fun C I a w hC h => ⟨I, (h.forget k i).reput ?_⟩⟩
    rcases (h.fr s _ hs).o_inv with ⟨_, _, h3, h4⟩ | ⟨_, _, _, h1, _⟩
    · rw [List.length_eq_zero_iff] at h3
      subst h3
      rw [h4]
      exact .v _ _ _ (.nil_slice z)
    · cases h1
/-- 'x == nil' on a slice of data: its answer is not known, but a slice that is nil has nothing in it. -/
theorem r_eqnil {dst : Option Nat} {t tt ty e : TypeId} {pos : String} {af : Array Edge} {ops : Array Oper} {rest : List Oper} {x : Operand} {z : Nat} {xs : List α} [ht : TSl P t e]
    (hs : (dst.all X.N.can) = true) (hx : σ.ev x = some (.v f (.l z (xs.map E))))
    (h : ∀ q : Bool, (q = true → xs = []) → RunS X rd P ops rest (σ.put dst (.v true (.b q))) Q) : RunS X rd P ops (⟨dst, .binOp .eql t x (.const (.slice none 0 0)) ty, tt, pos, af, none⟩ :: rest) σ Q := by
  intro C I a w hC hh
  obtain ⟨A, c, b, o, val, h1, h2, h3, h4, _⟩ := (hh.ev hx).v_inv.l_inv
  refine wpListIn_plain rfl fun K hK => ?_
  refine ⟨fun _ _ => trivial, ?_⟩
  rw [noDefer_sem rfl]
  have h5 := run_equal_slice_nil (P := P) w t e A (xs.map E).length c ht.h
  have hr : (execOp a.eval ⟨dst, .binOp .eql t x (.const (.slice none 0 0)) ty, tt, pos, af, none⟩).run P w = .ok (.value (.bool A.isNone)) w := by
    simp only [execOp, h1, eqGuard_at_slice, Sem.run_bind, Sem.run_pure, Result.andThen_ok, binOp]
    rw [show a.eval (.const (.slice none 0 0)) = .slice none 0 0 from rfl, h5]
    rfl
  rw [hr]
  refine hK _ _ (h A.isNone (fun e => ?_) C I _ _ (gh_put hC) (hh.put dst _ _ (.v _ _ _ (.b _)) (fun s e => by rw [X.hN _ _ hC]; rw [e] at hs; simpa using hs)))
  cases A with
  | some _ => cases e
  | none =>
    cases xs with
    | nil => rfl
    | cons y ys => have := (h4 (by simp)).1; cases this
end

theorem Wks.map {α : Type} {f g : α → D} : ∀ {xs : List α}, (∀ x ∈ xs, Wk (f x) (g x)) → Wks (xs.map f) (xs.map g)
  | [], _ => .nil
  | x :: _, h => .cons (h x (by simp)) (Wks.map fun y hy => h y (by simp [hy]))
theorem els_flatw {α : Type} {E : α → V} {f f' : Bool} {xs : List α} (h : ∀ x, (V.cells (E x)).all V.flatB = true) : Wks (els f (xs.map E)) (els f' (xs.map E)) := by
  rw [els_map, els_map]
  refine Wks.map fun x hx => .flat ?_
  obtain ⟨y, hy, hc⟩ := List.mem_flatMap.1 hx
  obtain ⟨a, _, rfl⟩ := List.mem_map.1 hy
  exact List.all_eq_true.1 (h a) x hc
theorem els_oldw {α : Type} {E : α → V} {f : Bool} {xs : List α} : Wks (els f (xs.map E)) (els false (xs.map E)) := by
  rw [els_map, els_map]
  exact Wks.map fun x _ => .old
end Bf
