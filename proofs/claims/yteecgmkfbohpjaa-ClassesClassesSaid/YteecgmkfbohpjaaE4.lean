/- The engine, part 4: quiet operations that read memory or call a pure function. No program is named here. -/
import Derived.Test.YteecgmkfbohpjaaE3
namespace Bf
open Go Go.RowKit

def hasSize (P : Program) (t z : Nat) : Bool := match P.info? t with | some i => i.size == z | none => false
def isAggB (P : Program) (t : Nat) (b : Bool) : Bool := match P.underlying t with | some (.struct _) => b | some (.array _ _) => b | some _ => !b | none => false
def fieldOff (P : Program) (s f : Nat) : Option Nat := match P.underlying s with | some (.struct fs) => (match fs[f]? with | some fd => (match P.info? fd.type with | some i => if i.size = 0 then none else some fd.offset | none => none) | none => none) | _ => none

class TSz (P : Program) (t : TypeId) (z : outParam Nat) : Prop where h : hasSize P t z = true
class TAgg (P : Program) (t : TypeId) (b : outParam Bool) : Prop where h : isAggB P t b = true
class TFld (P : Program) (s f : Nat) (off : outParam Nat) : Prop where h : fieldOff P s f = some off
class TSl (P : Program) (t : TypeId) (e : outParam TypeId) : Prop where h : P.underlying t = some (.slice e)
class TInt (P : Program) (t : TypeId) (k : outParam IntKind) : Prop where h : P.underlying t = some (.int k)
class TArr (P : Program) (t : TypeId) (n : outParam Nat) (e : outParam TypeId) : Prop where h : P.underlying t = some (.array n e)
class TMap (P : Program) (t : TypeId) (k e : outParam TypeId) : Prop where h : P.underlying t = some (.map k e)
class TZero (P : Program) (t : TypeId) (v : outParam Value) : Prop where h : (P.info? t).bind (·.zero) = some v
class TBytes (P : Program) (t : TypeId) (n : outParam Nat) : Prop where h : (match P.info? t with | some i => i.bytes == n | none => false) = true
class TStr (P : Program) (t : TypeId) : Prop where h : P.underlying t = some .string
class TBool (P : Program) (t : TypeId) : Prop where h : P.underlying t = some .bool
class TFn (P : Program) (f : FuncId) : Prop where h : isFn P f = true

section
variable {P : Program} (w : World)
theorem run_isAgg {t : TypeId} {b : Bool} (h : isAggB P t b = true) : (isAgg t).run P w = .ok b w := by
  unfold isAggB at h
  cases hu : P.underlying t with
  | none => rw [hu] at h; cases h
  | some d => rw [hu] at h; cases d <;> simp_all [isAgg, run_underlying hu]
theorem rsz {t z : Nat} (h : hasSize P t z = true) : (Go.sizeOf t).run P w = .ok z w := by
  unfold hasSize at h
  cases hi : P.info? t with
  | none => rw [hi] at h; cases h
  | some i => rw [hi] at h; simpa [Go.sizeOf, typeInfo, hi] using h
theorem run_fieldPlace {s f off : Nat} (h : fieldOff P s f = some off) (a : Addr) : (Instr.fieldAt s (.pointer (some a)) f).run P w = .ok (.pointer (some (a.add off))) w := by
  unfold fieldOff at h
  cases hu : P.underlying s with
  | none => rw [hu] at h; cases h
  | some d =>
    rw [hu] at h
    cases d <;> try (cases h; done)
    rename_i fs
    simp only at h
    cases hf : fs[f]? with
    | none => rw [hf] at h; cases h
    | some fd =>
      rw [hf] at h
      simp only at h
      cases hi : P.info? fd.type with
      | none => rw [hi] at h; cases h
      | some i =>
        rw [hi] at h
        simp only at h
        by_cases h0 : i.size = 0
        · simp [h0] at h
        · simp only [h0, if_false, Option.some.injEq] at h
          simp [Instr.fieldAt, run_underlying hu, hf, Instr.sureAddr, fieldPlace, Go.sizeOf, typeInfo, hi, h0, h]

theorem addr_add (b o n : Nat) : Addr.add ⟨b, o, none⟩ n = ⟨b, o + n, none⟩ := Addr.add_lit b o n

/-- A variable of one cell. -/
theorem run_loadVar1 {t : TypeId} (h : isAggB P t false = true) (a : Addr) (v : Value) (hv : w.cell? a = some v) : (loadVar t a).run P w = .ok v w := by
  simp [loadVar, run_isAgg w h, hv]
/-- A struct or an array. -/
theorem run_loadVarN {t z : Nat} (h : isAggB P t true = true) (hz : hasSize P t z = true) (b o : Nat) (vs : List Value) (hl : vs.length = z)
    (hv : ∀ (j : Nat) u, vs[j]? = some u → w.cell? ⟨b, o + j, none⟩ = some u) : (loadVar t ⟨b, o, none⟩).run P w = .ok (.agg vs.toArray) w := by
  have hc := run_loadCells_list (P := P) w ⟨b, o, none⟩ vs (fun j u hu => by rw [addr_add]; exact hv j u hu)
  rw [hl] at hc
  simp [loadVar, run_isAgg w h, rsz w hz, hc]
end


section
variable {P : Program} {hp : Nat → Option Blk} {ev : Operand → Option D} {dst : Option Nat} {t tt ty : TypeId} {pos : String} {af : Array Edge} {g : Option (Nat × Bool)} {x y c : Operand} {d : D} {f f1 f2 : Bool}

theorem VRep.st_of {w : World} {I : Nat → Prop} {xs : List V} {vs : List Value} (h : VReps w I xs vs) (h1 : ∀ u ∈ vs, u.oneCell' = true) : VRep w I (.st xs) (.agg vs.toArray) := .st xs vs h.1 h1 h.2

theorem q_conv {k k' : IntKind} {a : Int} [hs : TInt P t k] [hd : TInt P ty k'] (hx : ev x = some (.v f1 (.i k a))) : Quiet P hp ev ⟨dst, .convert t ty x, tt, pos, af, g⟩ (.v true (.i k' (k'.wrap a))) :=
  Quiet.of ⟨rfl, fun C φ I w ρ _ hρ => by
    have h1 := (hρ x (by simp [Op.operands]) _ hx).i_inv
    have hk : P.intKind ty = k' := by simp [Program.intKind, hd.h]
    have hr := run_convert_int (P := P) w t ty k a (by rw [hs.h]; rfl) (by rw [hk]; exact hd.h)
    simp only [execOp, h1, Sem.run_bind, hr, Sem.run_pure, Result.andThen_ok, hk]
    exact ⟨rfl, .v _ _ _ (.i _ _)⟩⟩
theorem q_nil {k off : Nat} (hx : ev x = some (.p k off)) : Quiet P hp ev ⟨dst, .nilCheck x, tt, pos, af, g⟩ (.p k off) :=
  Quiet.of ⟨rfl, fun C φ I w ρ _ hρ => by
    have h0 := hρ x (by simp [Op.operands]) _ hx
    cases hu : ρ x with
    | pointer a =>
      rw [hu] at h0
      cases h0 with
      | p _ _ b c h =>
        simp only [execOp, hu]
        exact ⟨rfl, .p _ _ b c h⟩
    | _ => rw [hu] at h0; cases h0⟩

/-! #### Loads out of data -/
theorem q_load1_q {z : V} {zs : List V} [ha : TAgg P t false] (hx : ev x = some (.v f (.q (z :: zs)))) : Quiet P hp ev ⟨dst, .load t x, tt, pos, af, g⟩ (.v f z) :=
  Quiet.of ⟨rfl, fun C φ I w ρ _ hρ => by
    obtain ⟨vs, b, o, h1, h2, h3, h4, h5⟩ := (hρ x (by simp [Op.operands]) _ hx).v_inv.q_inv
    obtain ⟨v, vs', rfl, hv, _⟩ := h2.cons_inv
    have hc := h5 0 v rfl
    simp only [execOp, h1, Instr.loadAt, Instr.sureAddr, Sem.run_bind, Sem.run_pure, Result.andThen_ok, run_loadVar1 w ha.h ⟨b, o, none⟩ v hc]
    exact ⟨rfl, .v _ _ _ hv⟩⟩

theorem q_loadN_q {ys : List V} {z : Nat} [ha : TAgg P t true] [hz : TSz P t z] (hx : ev x = some (.v f (.q ys))) (hl : Nat.ble z ys.length = true) : Quiet P hp ev ⟨dst, .load t x, tt, pos, af, g⟩ (.v f (.st (ys.take z))) :=
  Quiet.of ⟨rfl, fun C φ I w ρ _ hρ => by
    obtain ⟨vs, b, o, h1, h2, h3, h4, h5⟩ := (hρ x (by simp [Op.operands]) _ hx).v_inv.q_inv
    have hle : z ≤ vs.length := by rw [← h2.1]; simpa using hl
    have hr := run_loadVarN (P := P) w ha.h hz.h b o (vs.take z) (by simp; omega) (fun j u hu => by
      rw [List.getElem?_take] at hu
      split at hu
      · exact h5 j u hu
      · cases hu)
    simp only [execOp, h1, Instr.loadAt, Instr.sureAddr, Sem.run_bind, Sem.run_pure, Result.andThen_ok, hr]
    exact ⟨rfl, .v _ _ _ (.st_of (h2.take z) (fun u hu => h3 u (List.mem_of_mem_take hu)))⟩⟩

theorem take_cells {z : Nat} {e : V} (hst : e.isSt = true) (hl : (V.cells e).length = z) : V.st ((V.cells e).take z) = e := by
  cases e <;> simp [V.isSt] at hst
  simp only [V.cells] at hl ⊢
  rw [← hl, List.take_length]

/-- A whole element. -/
theorem q_load_e {e : V} {z : Nat} [ha : TAgg P t true] [hz : TSz P t z] (hx : ev x = some (.v f (.q (V.cells e)))) (hst : e.isSt = true) (hl : (V.cells e).length = z) : Quiet P hp ev ⟨dst, .load t x, tt, pos, af, g⟩ (.v f e) := by
  have h := q_loadN_q (P := P) (hp := hp) (t := t) (dst := dst) (tt := tt) (pos := pos) (af := af) (g := g) (z := z) hx (by rw [hl]; simp)
  rw [take_cells hst hl] at h
  exact h

/-! #### Loads out of the call's own blocks -/
def D.joinV : List D → Option (Bool × List V)
  | [] => some (true, [])
  | .v f x :: r => match D.joinV r with | some (f', xs) => some (f && f', x :: xs) | none => none
  | _ => none

theorem joinV_rep {w : World} {I : Nat → Prop} {base : Nat} {φ : Phi} : ∀ {cs : List D} {f : Bool} {xs : List V} {vs : List Value}, D.joinV cs = some (f, xs) → cs.length = vs.length →
    (∀ (i : Nat) x v, cs[i]? = some x → vs[i]? = some v → DRep w I base φ x v) → VReps w (fresh f I base) xs vs
  | [], _, _, vs, h, hl, _ => by
    cases h
    have : vs = [] := List.eq_nil_of_length_eq_zero (by simpa using hl.symm)
    rw [this]; exact .nil
  | .v f x :: r, _, _, [], h, hl, _ => by simp at hl
  | .v f x :: r, f', xs, v :: vs, h, hl, hr => by
    simp only [D.joinV] at h
    cases hj : D.joinV r with
    | none => rw [hj] at h; cases h
    | some p =>
      obtain ⟨f2, ys⟩ := p
      rw [hj] at h
      simp at h
      obtain ⟨rfl, rfl⟩ := h
      have h1 := joinV_rep hj (by simpa using hl) (fun i x v hx hv => hr (i + 1) x v (by simpa using hx) (by simpa using hv))
      have h0 := (hr 0 _ v rfl rfl).v_inv
      refine .cons (h0.mono (fun _ _ => rfl) (fun b hb => ⟨hb.1, fun e => hb.2 (by simp at e; exact e.1)⟩)) (h1.mono (fun _ _ => rfl) (fun b hb => ⟨hb.1, fun e => hb.2 (by simp at e; exact e.2)⟩))
  | .p .. :: r, _, _, _, h, _, _ => by simp [D.joinV] at h
  | .pe .. :: r, _, _, _, h, _, _ => by simp [D.joinV] at h
  | .o .. :: r, _, _, _, h, _, _ => by simp [D.joinV] at h
  | .m .. :: r, _, _, _, h, _, _ => by simp [D.joinV] at h
  | .st .. :: r, _, _, _, h, _, _ => by simp [D.joinV] at h

theorem DRep.p_inv {w : World} {I : Nat → Prop} {base : Nat} {φ : Phi} {k off : Nat} {u : Value} (h : DRep w I base φ (.p k off) u) : ∃ b c, φ k = some (b, c) ∧ u = .pointer (some ⟨b, off, none⟩) := by
  cases h with | p _ _ b c h => exact ⟨b, c, h, rfl⟩
theorem DRep.pe_inv {w : World} {I : Nat → Prop} {base : Nat} {φ : Phi} {k i z off : Nat} {u : Value} (h : DRep w I base φ (.pe k i z off) u) : ∃ b c, φ k = some (b, c) ∧ u = .pointer (some ⟨b, i * z + off, none⟩) := by
  cases h with | pe _ _ _ _ b c h => exact ⟨b, c, h, rfl⟩

theorem cell_of_cells {w : World} {b : Nat} {vs : List Value} {ty : TypeId} {fr : Nat × Nat} (h : w.heap[b]? = some (.cells vs.toArray ty fr)) (j : Nat) : w.cell? ⟨b, j, none⟩ = vs[j]? := by
  simp [World.cell?, h]

theorem q_load1_p {k off : Nat} {ty' : TypeId} {cs : List D} [ha : TAgg P t false] (hx : ev x = some (.p k off)) (hk : hp k = some (.cells ty' cs)) (hc : cs[off]? = some d) : Quiet P hp ev ⟨dst, .load t x, tt, pos, af, g⟩ d :=
  Quiet.of ⟨rfl, fun C φ I w ρ hw hρ => by
    obtain ⟨b, c, h1, h2⟩ := (hρ x (by simp [Op.operands]) _ hx).p_inv
    obtain ⟨b', c', vs, h3, h4, h5, h6, h7⟩ := hw.own k _ hk
    rw [h1] at h3; cases h3
    have hlt : off < vs.length := by rw [← h5]; exact (List.getElem?_eq_some_iff.1 hc).1
    have hv : vs[off]? = some vs[off] := List.getElem?_eq_getElem hlt
    have hcell : w.cell? ⟨b, off, none⟩ = some vs[off] := (cell_of_cells h4 off).trans hv
    simp only [execOp, h2, Instr.loadAt, Instr.sureAddr, Sem.run_bind, Sem.run_pure, Result.andThen_ok, run_loadVar1 w ha.h ⟨b, off, none⟩ _ hcell]
    exact ⟨rfl, h7 off d _ hc hv⟩⟩

theorem q_loadN_p {k off : Nat} {ty' : TypeId} {cs : List D} {z : Nat} {xs : List V} [ha : TAgg P t true] [hz : TSz P t z] (hx : ev x = some (.p k off)) (hk : hp k = some (.cells ty' cs))
    (hl : Nat.ble (off + z) cs.length = true) (hj : D.joinV ((cs.drop off).take z) = some (f, xs)) : Quiet P hp ev ⟨dst, .load t x, tt, pos, af, g⟩ (.v f (.st xs)) :=
  Quiet.of ⟨rfl, fun C φ I w ρ hw hρ => by
    obtain ⟨b, c, h1, h2⟩ := (hρ x (by simp [Op.operands]) _ hx).p_inv
    obtain ⟨b', c', vs, h3, h4, h5, h6, h7⟩ := hw.own k _ hk
    rw [h1] at h3; cases h3
    have hle : off + z ≤ vs.length := by rw [← h5]; simpa using hl
    have hr := run_loadVarN (P := P) w ha.h hz.h b off ((vs.drop off).take z) (by simp; omega) (fun j u hu => by
      rw [cell_of_cells h4]
      rw [List.getElem?_take] at hu
      split at hu
      · simpa using hu
      · cases hu)
    simp only [execOp, h2, Instr.loadAt, Instr.sureAddr, Sem.run_bind, Sem.run_pure, Result.andThen_ok, hr]
    refine ⟨rfl, .v _ _ _ (.st_of (joinV_rep (φ := φ) hj (by simp [h5]) (fun i x v hx hv => ?_)) (fun u hu => h6 u (List.mem_of_mem_drop (List.mem_of_mem_take hu))))⟩
    rw [List.getElem?_take] at hx hv
    split at hx
    · rename_i hi
      rw [if_pos hi] at hv
      exact h7 (off + i) x v (by simpa using hx) (by simpa using hv)
    · cases hx⟩

theorem joinV_map (f : Bool) : ∀ (xs : List V), xs ≠ [] → D.joinV (xs.map (D.v f)) = some (f, xs)
  | [], h => absurd rfl h
  | [x], _ => by simp [D.joinV]
  | x :: y :: r, _ => by
    have := joinV_map f (y :: r) (by simp)
    simp only [List.map_cons, D.joinV] at this ⊢
    rw [this]
    simp

/-- A whole box, as it was laid. -/
theorem q_load_b {k : Nat} {ty' : TypeId} {e : V} {z : Nat} [ha : TAgg P t true] [hz : TSz P t z] (hx : ev x = some (.p k 0)) (hk : hp k = some (.cells ty' ((V.cells e).map (D.v f)))) (hst : e.isSt = true)
    (hl : (V.cells e).length = z) (h0 : Nat.blt 0 z = true) : Quiet P hp ev ⟨dst, .load t x, tt, pos, af, g⟩ (.v f e) := by
  have hne : V.cells e ≠ [] := fun e' => by rw [e'] at hl; subst hl; simp at h0
  have h := q_loadN_p (P := P) (hp := hp) (t := t) (dst := dst) (tt := tt) (pos := pos) (af := af) (g := g) (z := z) (f := f) (xs := V.cells e) hx hk (by simp [hl]) (by
    rw [List.drop_zero, List.take_of_length_le (by simp [hl])]
    exact joinV_map f _ hne)
  have h2 := take_cells hst hl
  rw [List.take_of_length_le (by omega)] at h2
  rw [h2] at h
  exact h

theorem DRep.o_inv {w : World} {I : Nat → Prop} {base : Nat} {φ : Phi} {k len : Nat} {u : Value} (h : DRep w I base φ (.o k len) u) : (φ k = none ∧ len = 0 ∧ u = .slice none 0 0) ∨ ∃ b c, φ k = some (b, c) ∧ u = .slice (some ⟨b, 0, none⟩) len c := by
  cases h with
  | onil _ h => exact .inl ⟨h, rfl, rfl⟩
  | o _ _ b c h => exact .inr ⟨b, c, h, rfl⟩

/-- An element's cells in a slice of the call's own. -/
theorem elem_cells {w : World} {C : Ctx} {hp : Nat → Option Blk} {φ : Phi} {I : Nat → Prop} (hw : WOk C hp φ I w) {k b c ty z i : Nat} {f : Bool} {xs : List V} {e : V} (hk : hp k = some (.sl f ty z xs)) (hφ : φ k = some (b, c)) (he : xs[i]? = some e) :
    ∃ u : Value, VRep w (fresh f I C.base) e u ∧ e.plain = true ∧ u.cells.size = z ∧ ∀ (j : Nat) v, u.cells.toList[j]? = some v → w.cell? ⟨b, i * z + j, none⟩ = some v := by
  obtain ⟨u0, cells, h1, h2, h3, h4⟩ := hw.own k _ hk
  obtain ⟨hp', u, hu, hc⟩ := h4.2 i e he
  have hi : i < xs.length := (List.getElem?_eq_some_iff.1 he).1
  have hlen : u.cells.toList.length = z := by
    rw [hc, List.length_take, List.length_drop, h4.1]
    have : (i + 1) * z ≤ xs.length * z := Nat.mul_le_mul_right _ hi
    rw [Nat.add_mul] at this
    omega
  refine ⟨u, hu, hp', by simpa using hlen, fun j v hv => ?_⟩
  have hj : j < z := by rw [← hlen]; exact (List.getElem?_eq_some_iff.1 hv).1
  rw [hc, List.getElem?_take, if_pos hj, List.getElem?_drop] at hv
  rcases h1.o_inv with ⟨hn, _⟩ | ⟨b', c', hb, rfl⟩
  · rw [hn] at hφ; cases hφ
  · rw [hφ] at hb; cases hb
    have := h2.cells (g := b) rfl (i * z + j) v hv
    rwa [addr_add, Nat.zero_add] at this

theorem q_load1_e {k i z off : Nat} {ty' : TypeId} {xs : List V} {e e' : V} [ha : TAgg P t false] (hx : ev x = some (.pe k i z off)) (hk : hp k = some (.sl f ty' z xs)) (he : xs[i]? = some e) (hc : (V.cells e)[off]? = some e') :
    Quiet P hp ev ⟨dst, .load t x, tt, pos, af, g⟩ (.v f e') :=
  Quiet.of ⟨rfl, fun C φ I w ρ hw hρ => by
    obtain ⟨b, c, h1, h2⟩ := (hρ x (by simp [Op.operands]) _ hx).pe_inv
    obtain ⟨u, h3, h4, h5, h6⟩ := elem_cells hw hk h1 he
    obtain ⟨h7, h8⟩ := h3.cells h4
    obtain ⟨v, hv, hr⟩ := h7.get hc
    simp only [execOp, h2, Instr.loadAt, Instr.sureAddr, Sem.run_bind, Sem.run_pure, Result.andThen_ok, run_loadVar1 w ha.h ⟨b, i * z + off, none⟩ _ (h6 off v hv)]
    exact ⟨rfl, .v _ _ _ hr⟩⟩

theorem q_load_ee {k i z : Nat} {ty' : TypeId} {xs : List V} {e : V} [ha : TAgg P t true] [hz : TSz P t z] (hx : ev x = some (.pe k i z 0)) (hk : hp k = some (.sl f ty' z xs)) (he : xs[i]? = some e) (hst : e.isSt = true) :
    Quiet P hp ev ⟨dst, .load t x, tt, pos, af, g⟩ (.v f e) :=
  Quiet.of ⟨rfl, fun C φ I w ρ hw hρ => by
    obtain ⟨b, c, h1, h2⟩ := (hρ x (by simp [Op.operands]) _ hx).pe_inv
    obtain ⟨u, h3, h4, h5, h6⟩ := elem_cells hw hk h1 he
    have hr := run_loadVarN (P := P) w ha.h hz.h b (i * z + 0) u.cells.toList (by simpa using h5) (fun j v hv => h6 j v hv)
    simp only [execOp, h2, Instr.loadAt, Instr.sureAddr, Sem.run_bind, Sem.run_pure, Result.andThen_ok, hr]
    refine ⟨rfl, .v _ _ _ ?_⟩
    cases e <;> simp [V.isSt] at hst
    obtain ⟨vs, rfl, h7, h8⟩ := h3.st_inv
    simpa [Value.cells] using VRep.st_of h7 h8⟩

theorem q_loadN_e {k i z off : Nat} {ty' : TypeId} {xs : List V} {e : V} {n : Nat} [ha : TAgg P t true] [hz : TSz P t n] (hx : ev x = some (.pe k i z off)) (hk : hp k = some (.sl f ty' z xs)) (he : xs[i]? = some e)
    (hl : Nat.ble (off + n) (V.cells e).length = true) : Quiet P hp ev ⟨dst, .load t x, tt, pos, af, g⟩ (.v f (.st (((V.cells e).drop off).take n))) :=
  Quiet.of ⟨rfl, fun C φ I w ρ hw hρ => by
    obtain ⟨b, c, h1, h2⟩ := (hρ x (by simp [Op.operands]) _ hx).pe_inv
    obtain ⟨u, h3, h4, h5, h6⟩ := elem_cells hw hk h1 he
    obtain ⟨h7, h8⟩ := h3.cells h4
    have hle : off + n ≤ u.cells.toList.length := by rw [← h7.1]; simpa using hl
    have hr := run_loadVarN (P := P) w ha.h hz.h b (i * z + off) ((u.cells.toList.drop off).take n) (by simp only [List.length_take, List.length_drop]; omega) (fun j v hv => by
      rw [List.getElem?_take] at hv
      split at hv
      · rw [Nat.add_assoc]; exact h6 (off + j) v (by simpa using hv)
      · cases hv)
    simp only [execOp, h2, Instr.loadAt, Instr.sureAddr, Sem.run_bind, Sem.run_pure, Result.andThen_ok, hr]
    exact ⟨rfl, .v _ _ _ (.st_of ((h7.drop off).take n) (fun u hu => h8 u (List.mem_of_mem_drop (List.mem_of_mem_take hu))))⟩⟩

/-! #### Addresses -/
theorem q_fld_q {s fl off : Nat} {ys : List V} [hf : TFld P s fl off] (hx : ev x = some (.v f (.q ys))) : Quiet P hp ev ⟨dst, .fieldAddr s x fl, tt, pos, af, g⟩ (.v f (.q (ys.drop off))) :=
  Quiet.of ⟨rfl, fun C φ I w ρ _ hρ => by
    obtain ⟨vs, b, o, h1, h2, h3, h4, h5⟩ := (hρ x (by simp [Op.operands]) _ hx).v_inv.q_inv
    simp only [execOp, h1, Sem.run_bind, Sem.run_pure, Result.andThen_ok, run_fieldPlace w hf.h, addr_add]
    refine ⟨rfl, .v _ _ _ ?_⟩
    have h6 := h2.drop off
    exact .q _ _ b (o + off) h6.1 (fun u hu => h3 u (List.mem_of_mem_drop hu)) h4 h6.2 (fun j u hu => by rw [Nat.add_assoc]; exact h5 (off + j) u (by simpa using hu))⟩
theorem q_fld_p {s fl off k o : Nat} [hf : TFld P s fl off] (hx : ev x = some (.p k o)) : Quiet P hp ev ⟨dst, .fieldAddr s x fl, tt, pos, af, g⟩ (.p k (o + off)) :=
  Quiet.of ⟨rfl, fun C φ I w ρ _ hρ => by
    obtain ⟨b, c, h1, h2⟩ := (hρ x (by simp [Op.operands]) _ hx).p_inv
    simp only [execOp, h2, Sem.run_bind, Sem.run_pure, Result.andThen_ok, run_fieldPlace w hf.h, addr_add]
    exact ⟨rfl, .p _ _ b c h1⟩⟩
theorem q_fld_e {s fl off k i z o : Nat} [hf : TFld P s fl off] (hx : ev x = some (.pe k i z o)) : Quiet P hp ev ⟨dst, .fieldAddr s x fl, tt, pos, af, g⟩ (.pe k i z (o + off)) :=
  Quiet.of ⟨rfl, fun C φ I w ρ _ hρ => by
    obtain ⟨b, c, h1, h2⟩ := (hρ x (by simp [Op.operands]) _ hx).pe_inv
    simp only [execOp, h2, Sem.run_bind, Sem.run_pure, Result.andThen_ok, run_fieldPlace w hf.h, addr_add, Nat.add_assoc]
    exact ⟨rfl, .pe _ _ _ _ b c h1⟩⟩

theorem run_index_slice {w : World} {el z : Nat} (ht : P.underlying t = some (.slice el)) (hz : hasSize P el z = true) (b o len cap : Nat) (k : IntKind) (n : Int) (h0 : 0 ≤ n) (h1 : n < len) :
    (Instr.indexAt t (.slice (some ⟨b, o, none⟩) len cap) (.int k n)).run P w = .ok (.pointer (some ⟨b, o + n.toNat * z, none⟩)) w := by
  have he : P.elem t = el := by simp [Program.elem, ht]
  rw [run_indexAt_slice w t ⟨b, o, none⟩ len cap k n (by rw [he]; exact ht), if_pos ⟨h0, h1⟩, he, rsz w hz]
  simp only [Result.andThen_ok, addr_add]

theorem q_idx_l {el z : Nat} {xs : List V} {e : V} {k : IntKind} {n : Int} [ht : TSl P t el] [hz : TSz P el z] (hx : ev x = some (.v f (.l z xs))) (hy : ev y = some (.v f2 (.i k n))) (h0 : 0 ≤ n) (he : xs[n.toNat]? = some e) (hpl : e.plain = true) :
    Quiet P hp ev ⟨dst, .indexAddr t x y, tt, pos, af, g⟩ (.v f (.q (V.cells e))) :=
  Quiet.of ⟨rfl, fun C φ I w ρ _ hρ => by
    obtain ⟨A, cp, b, o, val, h1, h2, h3, h4, h5, h6, h7⟩ := (hρ x (by simp [Op.operands]) _ hx).v_inv.l_inv
    have h8 := (hρ y (by simp [Op.operands]) _ hy).i_inv
    have hlt : n.toNat < xs.length := (List.getElem?_eq_some_iff.1 he).1
    obtain ⟨rfl, hI⟩ := h4 (by omega)
    simp only [execOp, h1, h8, Sem.run_bind, Sem.run_pure, Result.andThen_ok, run_index_slice ht.h hz.h b o xs.length cp k n h0 (by omega)]
    refine ⟨rfl, .v _ _ _ ?_⟩
    obtain ⟨h9, h10⟩ := (h5 _ _ he).cells hpl
    exact .q _ _ b _ h9.1 h10 hI h9.2 (fun j u hu => by rw [Nat.add_assoc]; exact h7 n.toNat j e u he (by simpa using hu))⟩

theorem q_idx_o {el z kk len : Nat} {ty' : TypeId} {xs : List V} {k : IntKind} {n : Int} [ht : TSl P t el] [hz : TSz P el z] (hx : ev x = some (.o kk len)) (_hk : hp kk = some (.sl f ty' z xs)) (hy : ev y = some (.v f2 (.i k n))) (h0 : 0 ≤ n) (h1 : n < len) :
    Quiet P hp ev ⟨dst, .indexAddr t x y, tt, pos, af, g⟩ (.pe kk n.toNat z 0) :=
  Quiet.of ⟨rfl, fun C φ I w ρ _ hρ => by
    have h8 := (hρ y (by simp [Op.operands]) _ hy).i_inv
    rcases (hρ x (by simp [Op.operands]) _ hx).o_inv with ⟨_, rfl, _⟩ | ⟨b, c, hb, hu⟩
    · simp at h1; omega
    · simp only [execOp, h8, hu, Sem.run_bind, Sem.run_pure, Result.andThen_ok, run_index_slice ht.h hz.h b 0 len c k n h0 h1]
      refine ⟨rfl, ?_⟩
      rw [Nat.zero_add]
      exact .pe kk n.toNat z 0 b c hb⟩

/-! #### Lengths -/
theorem q_len_l {el z : Nat} {xs : List V} [ht : TSl P t el] (hx : ev x = some (.v f (.l z xs))) : Quiet P hp ev ⟨dst, .call { callee := .builtin .len, args := #[x], argTypes := #[t] }, tt, pos, af, g⟩ (.v true (.i .i64 (xs.length : Nat))) :=
  Quiet.of ⟨rfl, fun C φ I w ρ _ hρ => by
    obtain ⟨A, cp, b, o, val, h1, _⟩ := (hρ x (by simp [Op.operands, Call.operands]) _ hx).v_inv.l_inv
    have he : P.elem t = el := by simp [Program.elem, ht.h]
    have hr := run_len_slice (P := P) w t tt A xs.length cp (by rw [he]; exact ht.h)
    simp only [execOp, resolve, invoke, builtin, List.map_toArray, List.map_cons, List.map_nil, h1, Sem.run_bind, Sem.run_pure, Result.andThen_ok, hr]
    exact ⟨rfl, .v _ _ _ (.i _ _)⟩⟩
theorem q_len_o {el kk len : Nat} [ht : TSl P t el] (hx : ev x = some (.o kk len)) : Quiet P hp ev ⟨dst, .call { callee := .builtin .len, args := #[x], argTypes := #[t] }, tt, pos, af, g⟩ (.v true (.i .i64 (len : Nat))) :=
  Quiet.of ⟨rfl, fun C φ I w ρ _ hρ => by
    have he : P.elem t = el := by simp [Program.elem, ht.h]
    have h9 := hρ x (by simp [Op.operands, Call.operands]) _ hx
    generalize hu : ρ x = u at h9
    cases h9 with
    | onil =>
      have hr := run_len_slice (P := P) w t tt none 0 0 (by rw [he]; exact ht.h)
      simp only [execOp, resolve, invoke, builtin, List.map_toArray, List.map_cons, List.map_nil, hu, Sem.run_bind, Sem.run_pure, Result.andThen_ok, hr]
      exact ⟨rfl, .v _ _ _ (.i _ _)⟩
    | o _ _ b c hb =>
      have hr := run_len_slice (P := P) w t tt (some ⟨b, 0, none⟩) len c (by rw [he]; exact ht.h)
      simp only [execOp, resolve, invoke, builtin, List.map_toArray, List.map_cons, List.map_nil, hu, Sem.run_bind, Sem.run_pure, Result.andThen_ok, hr]
      exact ⟨rfl, .v _ _ _ (.i _ _)⟩⟩
theorem q_len_nil {el : Nat} [ht : TSl P t el] (hx : ev x = some (.v f (.raw (.slice none 0 0)))) : Quiet P hp ev ⟨dst, .call { callee := .builtin .len, args := #[x], argTypes := #[t] }, tt, pos, af, g⟩ (.v true (.i .i64 0)) :=
  Quiet.of ⟨rfl, fun C φ I w ρ _ hρ => by
    have he : P.elem t = el := by simp [Program.elem, ht.h]
    have h1 := ((hρ x (by simp [Op.operands, Call.operands]) _ hx).v_inv.raw_inv).1
    have hr := run_len_slice (P := P) w t tt none 0 0 (by rw [he]; exact ht.h)
    simp only [execOp, resolve, invoke, builtin, List.map_toArray, List.map_cons, List.map_nil, h1, Sem.run_bind, Sem.run_pure, Result.andThen_ok, hr]
    exact ⟨rfl, .v _ _ _ (.i _ _)⟩⟩
end
end Bf
