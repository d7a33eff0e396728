/- The engine, part 25: elements of own rows of which it is not said where they lie. No program is named here. -/
import Derived.Test.YtedblpbpoekdlaaF24
namespace Bf
open Go Go.RowKit

def plb : Pl → Nat
  | some (b, _) => b
  | none => 0
theorem WOk.none_nil {C : Ctx} {hp : Hp} {I : Nat → Prop} {w : World} (hw : WOk C hp I w) {k i ty : Nat} {xs : List D} (hk : hp k i = some (none, .row ty xs)) : xs = [] := hw.own k i _ _ hk
section
variable {P : Program} {hp : Hp} {ev : Operand → Option D} {dst : Option Nat} {t tt ty : TypeId} {pos : String} {af : Array Edge} {g : Option (Nat × Bool)} {x y c : Operand} {d : D} {f f1 f2 : Bool}
theorem q_idx_pl {el z kk ii off len : Nat} {pl : Pl} {k : IntKind} {n : Int} [ht : TSl P t el] [hz : TSz P el z] (hx : ev x = some (.o kk ii pl z off len)) (hy : ev y = some (.v f2 (.i k n))) (h0 : 0 ≤ n) (h1 : n < len) :
    Quiet P hp ev ⟨dst, .indexAddr t x y, tt, pos, af, g⟩ (.p kk ii (plb pl) (off + n.toNat * z)) := by
  cases pl with
  | some p => obtain ⟨b, m⟩ := p; exact q_idx_o hx hy h0 h1
  | none =>
    refine ⟨rfl, fun C I w ρ _ hρ => ?_⟩
    rcases (hρ x (by simp [Op.operands]) _ hx).o_inv with ⟨_, _, h3, _⟩ | ⟨_, _, _, h2, _⟩
    · omega
    · cases h2
variable {α : Type} {E : α → V} {z : Nat}
theorem q_load_elp {k i e j ty' : Nat} {pl : Pl} {xs : List α} {a : α} {c : V} [ha : TAgg P t false] (hz : ∀ x, (V.cells (E x)).length = z) (hx : ev x = some (.p k i (plb pl) (0 + e * z + j))) (hk : hp k i = some (pl, .row ty' (els f (xs.map E)))) (ha' : xs[e]? = some a) (hc : (V.cells (E a))[j]? = some c) :
    Quiet P hp ev ⟨dst, .load t x, tt, pos, af, g⟩ (.v f c) := by
  cases pl with
  | some p => obtain ⟨b, m⟩ := p; exact q_load_el hz hx hk ha' hc
  | none =>
    refine ⟨rfl, fun C I w ρ hw _ => ?_⟩
    have h1 := els_get f hz ha' hc
    rw [hw.none_nil hk] at h1
    simp at h1
theorem q_load_el0p {k i e ty' : Nat} {pl : Pl} {xs : List α} {a : α} [ha : TAgg P t false] (hz : ∀ x, V.cells (E x) = [E x]) (hx : ev x = some (.p k i (plb pl) (0 + e * 1))) (hk : hp k i = some (pl, .row ty' (els f (xs.map E)))) (ha' : xs[e]? = some a) :
    Quiet P hp ev ⟨dst, .load t x, tt, pos, af, g⟩ (.v f (E a)) := by
  cases pl with
  | some p => obtain ⟨b, m⟩ := p; exact q_load_el0 hz hx hk ha'
  | none =>
    refine ⟨rfl, fun C I w ρ hw _ => ?_⟩
    have h1 := els_get (z := 1) (j := 0) f (fun x => by rw [hz x]; rfl) ha' (by rw [hz a]; rfl)
    rw [hw.none_nil hk] at h1
    simp at h1
theorem q_load_eep {k i e ty' : Nat} {pl : Pl} {xs : List α} {a : α} [ha : TAgg P t true] [hs : TSz P t z] (hz : ∀ x, (V.cells (E x)).length = z ∧ (E x).isSt = true) (hne : Nat.blt 0 z = true) (hx : ev x = some (.p k i (plb pl) (0 + e * z))) (hk : hp k i = some (pl, .row ty' (els f (xs.map E)))) (ha' : xs[e]? = some a) :
    Quiet P hp ev ⟨dst, .load t x, tt, pos, af, g⟩ (.v f (E a)) := by
  cases pl with
  | some p => obtain ⟨b, m⟩ := p; exact q_load_ee hz hne hx hk ha'
  | none =>
    refine ⟨rfl, fun C I w ρ hw _ => ?_⟩
    have hl := els_len (E := E) (z := z) f (xs := xs) fun x => (hz x).1
    rw [hw.none_nil hk] at hl
    have h2 : e < xs.length := (List.getElem?_eq_some_iff.1 ha').1
    have h3 : 0 < z := by simpa using hne
    have := Nat.mul_pos (Nat.lt_of_le_of_lt (Nat.zero_le _) h2) h3
    rw [← hl] at this
    simp at this
end
section
variable {P : Program} {N : Rm} {ops : Array Oper} {σ : St} {dd : Option Nat} {t tt : TypeId} {pos : String} {af : Array Edge} {g : Option (Nat × Bool)} {x y : Operand} {d : D} {f : Bool} {L : Nat → Bool}
variable {α : Type} {E : α → V} {z : Nat}
theorem Eff.absurd {o : Oper} {T : St → Prop} {k i ty' : Nat} {xs : List D} (hn : noDefer o.op = true) (hg : ∀ σ', T σ' → σ'.gh = σ.gh) (hk : σ.hp k i = some (none, .row ty' xs)) (hne : xs ≠ []) : Eff P N o σ T :=
  ⟨hn, hg, fun C _ I a w h => (hne (h.wok.none_nil hk)).elim⟩
theorem els_ne {xs : List α} {e : Nat} (hE : ∀ x, (E x).plain = true ∧ (V.cells (E x)).length = z) (hz : 0 < z) (hlt : e < xs.length) : els f (xs.map E) ≠ [] := fun h => by
  have hl := els_len (E := E) (z := z) f (xs := xs) fun x => (hE x).2
  rw [h] at hl
  have := Nat.mul_pos (Nat.lt_of_le_of_lt (Nat.zero_le _) hlt) hz
  simp at hl
  omega
theorem e_store_eep {k i e ty' : Nat} {pl : Pl} {xs : List α} {a : α} [hz : TSz P t z] (hzz : Nat.blt 0 z = true) (hx : σ.ev x = some (.p k i (plb pl) (0 + e * z))) (hk : σ.hp k i = some (pl, .row ty' (els f (xs.map E)))) (hE : ∀ x, (E x).plain = true ∧ (V.cells (E x)).length = z) (hlt : e < xs.length) (hy : σ.ev y = some (.v f (E a))) (hd : dd = none) :
    Eff P N ⟨dd, .store t x y, tt, pos, af, g⟩ σ (fun σ' => σ' = σ.setH k i (some (pl, .row ty' (els f ((xs.set e a).map E))))) := by
  cases pl with
  | some p => obtain ⟨b, m⟩ := p; exact e_store_ee hx hk hE hlt hy hd
  | none => exact .absurd rfl (fun _ h => by rw [h]; rfl) hk (els_ne hE (by simpa using hzz) hlt)
theorem e_store_efp {k i e j ty' : Nat} {pl : Pl} {xs : List α} {a a' : α} {c : V} [hz : TSz P t 1] (hx : σ.ev x = some (.p k i (plb pl) (0 + e * z + j))) (hk : σ.hp k i = some (pl, .row ty' (els f (xs.map E)))) (hE : ∀ x, (E x).plain = true ∧ (V.cells (E x)).length = z) (ha : xs[e]? = some a) (hy : σ.ev y = some (.v f c)) (hpl : c.plain = true) (hc : V.cells c = [c])
    (hj : j < z) (hs : (V.cells (E a)).set j c = V.cells (E a')) (hd : dd = none) :
    Eff P N ⟨dd, .store t x y, tt, pos, af, g⟩ σ (fun σ' => σ' = σ.setH k i (some (pl, .row ty' (els f ((xs.set e a').map E))))) := by
  cases pl with
  | some p => obtain ⟨b, m⟩ := p; exact e_store_ef hx hk hE ha hy hpl hc hj hs hd
  | none => exact .absurd rfl (fun _ h => by rw [h]; rfl) hk (els_ne hE (by omega) (List.getElem?_eq_some_iff.1 ha).1)
theorem x_store_eep {k i e ty' : Nat} {pl : Pl} {xs : List α} {a : α} [hz : TSz P t z] (hzz : Nat.blt 0 z = true) (hx : σ.ev x = some (.p k i (plb pl) (0 + e * z))) (hk : σ.hp k i = some (pl, .row ty' (els f (xs.map E)))) (hE : ∀ x, (E x).plain = true ∧ (V.cells (E x)).length = z) (hlt : e < xs.length) (hy : σ.ev y = some (.v f (E a))) (hd : dd = none) (hL : L k = true) :
    LocEff P N ops ⟨dd, .store t x y, tt, pos, af, none⟩ L σ (fun δ => δ = ⟨[(k, i, some (pl, .row ty' (els f ((xs.set e a).map E))))], .any, []⟩) :=
  .of (fun δ h => by subst h; exact ⟨fun e he => by simp at he; subst he; exact hL, fun e he => by cases he⟩) rfl fun τ h1 h2 => by
    refine ⟨_, e_store_eep (σ := τ) hzz (by rw [h1 x (by simp [Op.operands])]; exact hx) ((h2 k i hL).trans hk) hE hlt (by rw [h1 y (by simp [Op.operands])]; exact hy) hd, fun τ' h => ⟨_, rfl, ?_⟩⟩
    subst hd
    exact h
theorem x_store_efp {k i e j ty' : Nat} {pl : Pl} {xs : List α} {a a' : α} {c : V} [hz : TSz P t 1] (hx : σ.ev x = some (.p k i (plb pl) (0 + e * z + j))) (hk : σ.hp k i = some (pl, .row ty' (els f (xs.map E)))) (hE : ∀ x, (E x).plain = true ∧ (V.cells (E x)).length = z) (ha : xs[e]? = some a) (hy : σ.ev y = some (.v f c)) (hpl : c.plain = true) (hc : V.cells c = [c])
    (hj : j < z) (hs : (V.cells (E a)).set j c = V.cells (E a')) (hd : dd = none) (hL : L k = true) :
    LocEff P N ops ⟨dd, .store t x y, tt, pos, af, none⟩ L σ (fun δ => δ = ⟨[(k, i, some (pl, .row ty' (els f ((xs.set e a').map E))))], .any, []⟩) :=
  .of (fun δ h => by subst h; exact ⟨fun e he => by simp at he; subst he; exact hL, fun e he => by cases he⟩) rfl fun τ h1 h2 => by
    refine ⟨_, e_store_efp (σ := τ) (by rw [h1 x (by simp [Op.operands])]; exact hx) ((h2 k i hL).trans hk) hE ha (by rw [h1 y (by simp [Op.operands])]; exact hy) hpl hc hj hs hd, fun τ' h => ⟨_, rfl, ?_⟩⟩
    subst hd
    exact h
end
end Bf
