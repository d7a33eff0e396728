/- The engine, part 26: own slices of own slices. No program is named here. -/
import Derived.Test.YtedblpbpoekdlaaF25
namespace Bf
open Go Go.RowKit

/-- The cells of a slice of own slices: the i-th is the block named (k, i). -/
def rowsO {α : Type} (k z : Nat) (PL : Nat → Pl) (xss : List (List α)) : List D := xss.zipIdx.map fun p => .o k p.2 (PL p.2) z 0 p.1.length
theorem rowsO_get {α : Type} {k z : Nat} {PL : Nat → Pl} {xss : List (List α)} {i : Nat} {xs : List α} (h : xss[i]? = some xs) : (rowsO k z PL xss)[i]? = some (.o k i (PL i) z 0 xs.length) := by
  simp [rowsO, h]
theorem rowsO_len {α : Type} {k z : Nat} {PL : Nat → Pl} {xss : List (List α)} : (rowsO k z PL xss).length = xss.length := by simp [rowsO]
/-- The blocks of the inner slices. -/
def famB {α : Type} (ty : Nat) (f : Bool) (E : α → V) (xss : List (List α)) : Nat → Blk := fun i => .row ty (els f ((xss.getD i []).map E))
theorem famB_get {α : Type} {ty : Nat} {f : Bool} {E : α → V} {xss : List (List α)} {i : Nat} {xs : List α} (h : xss[i]? = some xs) : famB ty f E xss i = .row ty (els f (xs.map E)) := by
  simp [famB, List.getD, h]
def Fam (hp : Hp) (k n : Nat) (PL : Nat → Pl) (B : Nat → Blk) : Prop := ∀ i, i < n → hp k i = some (PL i, B i)
theorem fam_ev {β : Type} {c : Bool} {a b : β} (h : c = true) : (bif c then a else b) = a := by subst h; rfl
def St.setFam (σ : St) (k n : Nat) (PL : Nat → Pl) (B : Nat → Blk) : St := { σ with hp := fun j i => bif Nat.beq j k && Nat.blt i n then some (PL i, B i) else σ.hp j i }
theorem set_fam {α : Type} {σ : St} {k ty e : Nat} {f : Bool} {E : α → V} {PL : Nat → Pl} {xss : List (List α)} {xs xs' : List α} (hF : Fam σ.hp k xss.length PL (famB ty f E xss)) (he : xss[e]? = some xs) :
    σ.setH k e (some (PL e, .row ty (els f (xs'.map E)))) = σ.setFam k xss.length PL (famB ty f E (xss.set e xs')) := by
  have hlt : e < xss.length := (List.getElem?_eq_some_iff.1 he).1
  simp only [St.setH, St.setFam]
  congr 1
  funext j i
  by_cases hj : j = k
  · subst hj
    by_cases hi : i = e
    · subst hi
      rw [set2_same]
      have h1 : Nat.blt i xss.length = true := by simpa using hlt
      have h2 : Nat.beq j j = true := Nat.beq_refl j
      rw [h1, h2]
      simp [famB, List.getD, hlt]
    · rw [set2_other _ _ (fun h => hi h.2)]
      have h2 : Nat.beq j j = true := Nat.beq_refl j
      rw [h2]
      cases h1 : Nat.blt i xss.length with
      | false => rfl
      | true =>
        have h3 : i < xss.length := by simpa using h1
        rw [hF i h3]
        simp [famB, List.getD, List.getElem?_set, Ne.symm hi]
  · rw [set2_other _ _ (fun h => hj h.1)]
    have h2 : Nat.beq j k = false := beq_ne hj
    rw [h2]; rfl
theorem fam_row {α : Type} {hp : Hp} {k ty e : Nat} {f : Bool} {E : α → V} {PL : Nat → Pl} {xss : List (List α)} {xs : List α} (hF : Fam hp k xss.length PL (famB ty f E xss)) (he : xss[e]? = some xs) : hp k e = some (PL e, .row ty (els f (xs.map E))) := by
  rw [hF e (List.getElem?_eq_some_iff.1 he).1, famB_get he]
section
variable {P : Program} {hp : Hp} {ev : Operand → Option D} {dst : Option Nat} {t tt ty : TypeId} {pos : String} {af : Array Edge} {g : Option (Nat × Bool)} {x y c : Operand} {d : D} {f f1 f2 : Bool}
variable {α : Type} {E : α → V} {z : Nat}
theorem q_load_row {l li k e ty' : Nat} {pl : Pl} {PL : Nat → Pl} {xss : List (List α)} {xs : List α} [ha : TAgg P t false] (hx : ev x = some (.p l li (plb pl) (0 + e * 1))) (hk : hp l li = some (pl, .row ty' (rowsO k z PL xss))) (he : xss[e]? = some xs) :
    Quiet P hp ev ⟨dst, .load t x, tt, pos, af, g⟩ (.o k e (PL e) z 0 xs.length) := by
  cases pl with
  | some p => obtain ⟨b, m⟩ := p; exact q_load1 hx hk (by rw [Nat.zero_add, Nat.mul_one]; exact rowsO_get he)
  | none =>
    refine ⟨rfl, fun C I w ρ hw _ => ?_⟩
    have h1 := rowsO_get (k := k) (z := z) (PL := PL) he
    rw [hw.none_nil hk] at h1
    simp at h1
end
section
variable {P : Program} {N : Rm} {σ : St} {dd : Option Nat} {t tt : TypeId} {pos : String} {af : Array Edge} {g : Option (Nat × Bool)} {x y : Operand} {f : Bool}
variable {α : Type} {E : α → V} {z : Nat}
theorem e_store_fam {k e j ty' : Nat} {PL : Nat → Pl} {xss : List (List α)} {xs : List α} {a : α} [hz : TSz P t z] (hzz : Nat.blt 0 z = true) (hx : σ.ev x = some (.p k e (plb (PL e)) (0 + j * z))) (hF : Fam σ.hp k xss.length PL (famB ty' f E xss)) (he : xss[e]? = some xs) (hE : ∀ x, (E x).plain = true ∧ (V.cells (E x)).length = z) (hlt : j < xs.length) (hy : σ.ev y = some (.v f (E a))) (hd : dd = none) :
    Eff P N ⟨dd, .store t x y, tt, pos, af, g⟩ σ (fun σ' => σ' = σ.setFam k xss.length PL (famB ty' f E (xss.set e (xs.set j a)))) := by
  have := e_store_eep (P := P) (N := N) (t := t) (tt := tt) (pos := pos) (af := af) (g := g) (dd := dd) hzz hx (fam_row hF he) hE hlt hy hd
  rw [set_fam hF he] at this
  exact this
end
theorem rowsO_set {α : Type} {k z e : Nat} {PL : Nat → Pl} {xss : List (List α)} {xs xs' : List α} (he : xss[e]? = some xs) (hl : xs'.length = xs.length) : rowsO k z PL (xss.set e xs') = rowsO k z PL xss := by
  refine List.ext_getElem? fun i => ?_
  simp only [rowsO, List.getElem?_map, List.getElem?_zipIdx, List.getElem?_set]
  by_cases hi : e = i
  · subst hi
    have hlt : e < xss.length := (List.getElem?_eq_some_iff.1 he).1
    rw [if_pos rfl, if_pos hlt, he]
    simp [hl]
  · rw [if_neg hi]
end Bf
