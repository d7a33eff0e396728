/- The engine, part 4: quiet operations that read memory or call a pure function. No program is named here. -/
import Derived.Test.YtedblpbpoekdlaaF3
namespace Bf
open Go Go.RowKit

def hasSize (P : Program) (t z : Nat) : Bool := match P.info? t with | some i => i.size == z | none => false
def isAggB (P : Program) (t : Nat) (b : Bool) : Bool := match P.underlying t with | some (.struct _) => b | some (.array _ _) => b | some _ => !b | none => false
def fieldOff (P : Program) (s f : Nat) : Option Nat := match P.underlying s with | some (.struct fs) => (match fs[f]? with | some fd => (match P.info? fd.type with | some i => if i.size = 0 then none else some fd.offset | none => none) | none => none) | _ => none

class TSz (P : Program) (t : TypeId) (z : outParam Nat) : Prop where h : hasSize P t z = true
class TAgg (P : Program) (t : TypeId) (b : outParam Bool) : Prop where h : isAggB P t b = true
class TFld (P : Program) (s f : Nat) (off : outParam Nat) : Prop where h : fieldOff P s f = some off
class TSl (P : Program) (t : TypeId) (e : outParam TypeId) : Prop where h : P.underlying t = some (.slice e)
class TInt (P : Program) (t : TypeId) (k : outParam IntKind) : Prop where h : P.underlying t = some (.int k)
class TArr (P : Program) (t : TypeId) (n : outParam Nat) (e : outParam TypeId) : Prop where h : P.underlying t = some (.array n e)
class TMap (P : Program) (t : TypeId) (k e : outParam TypeId) : Prop where h : P.underlying t = some (.map k e)
class TZero (P : Program) (t : TypeId) (v : outParam Value) : Prop where h : (P.info? t).bind (·.zero) = some v
class TBytes (P : Program) (t : TypeId) (n : outParam Nat) : Prop where h : (match P.info? t with | some i => i.bytes == n | none => false) = true
class TStr (P : Program) (t : TypeId) : Prop where h : P.underlying t = some .string
class TBool (P : Program) (t : TypeId) : Prop where h : P.underlying t = some .bool
class TFn (P : Program) (f : FuncId) : Prop where h : isFn P f = true

section
variable {P : Program} (w : World)
theorem run_isAgg {t : TypeId} {b : Bool} (h : isAggB P t b = true) : (isAgg t).run P w = .ok b w := by
  unfold isAggB at h
  cases hu : P.underlying t with
  | none => rw [hu] at h; cases h
  | some d => rw [hu] at h; cases d <;> simp_all [isAgg, run_underlying hu]
theorem rsz {t z : Nat} (h : hasSize P t z = true) : (Go.sizeOf t).run P w = .ok z w := by
  unfold hasSize at h
  cases hi : P.info? t with
  | none => rw [hi] at h; cases h
  | some i => rw [hi] at h; simpa [Go.sizeOf, typeInfo, hi] using h
theorem run_fieldPlace {s f off : Nat} (h : fieldOff P s f = some off) (a : Addr) : (Instr.fieldAt s (.pointer (some a)) f).run P w = .ok (.pointer (some (a.add off))) w := by
  unfold fieldOff at h
  cases hu : P.underlying s with
  | none => rw [hu] at h; cases h
  | some d =>
    rw [hu] at h
    cases d <;> try (cases h; done)
    rename_i fs
    simp only at h
    cases hf : fs[f]? with
    | none => rw [hf] at h; cases h
    | some fd =>
      rw [hf] at h
      simp only at h
      cases hi : P.info? fd.type with
      | none => rw [hi] at h; cases h
      | some i =>
        rw [hi] at h
        simp only at h
        by_cases h0 : i.size = 0
        · simp [h0] at h
        · simp only [h0, if_false, Option.some.injEq] at h
          simp [Instr.fieldAt, run_underlying hu, hf, Instr.sureAddr, fieldPlace, Go.sizeOf, typeInfo, hi, h0, h]

theorem addr_add (b o n : Nat) : Addr.add ⟨b, o, none⟩ n = ⟨b, o + n, none⟩ := Addr.add_lit b o n

/-- A variable of one cell. -/
theorem run_loadVar1 {t : TypeId} (h : isAggB P t false = true) (a : Addr) (v : Value) (hv : w.cell? a = some v) : (loadVar t a).run P w = .ok v w := by
  simp [loadVar, run_isAgg w h, hv]
/-- A struct or an array. -/
theorem run_loadVarN {t z : Nat} (h : isAggB P t true = true) (hz : hasSize P t z = true) (b o : Nat) (vs : List Value) (hl : vs.length = z)
    (hv : ∀ (j : Nat) u, vs[j]? = some u → w.cell? ⟨b, o + j, none⟩ = some u) : (loadVar t ⟨b, o, none⟩).run P w = .ok (.agg vs.toArray) w := by
  have hc := run_loadCells_list (P := P) w ⟨b, o, none⟩ vs (fun j u hu => by rw [addr_add]; exact hv j u hu)
  rw [hl] at hc
  simp [loadVar, run_isAgg w h, rsz w hz, hc]
end


section
variable {P : Program} {hp : Hp} {ev : Operand → Option D} {dst : Option Nat} {t tt ty : TypeId} {pos : String} {af : Array Edge} {g : Option (Nat × Bool)} {x y c : Operand} {d : D} {f f1 f2 : Bool}

theorem VRep.st_of {w : World} {I : Nat → Prop} {xs : List V} {vs : List Value} (h : VReps w I xs vs) (h1 : ∀ u ∈ vs, u.oneCell' = true) : VRep w I (.st xs) (.agg vs.toArray) := .st xs vs h.1 h1 h.2

theorem DRep.p_inv {w : World} {I : Nat → Prop} {base k i b off : Nat} {u : Value} (h : DRep w I base (.p k i b off) u) : u = .pointer (some ⟨b, off, none⟩) := by cases h; rfl
theorem DRep.m_inv {w : World} {I : Nat → Prop} {base k i b : Nat} {u : Value} (h : DRep w I base (.m k i b) u) : u = .map (some b) := by cases h; rfl
theorem q_conv {k k' : IntKind} {a : Int} [hs : TInt P t k] [hd : TInt P ty k'] (hx : ev x = some (.v f1 (.i k a))) : Quiet P hp ev ⟨dst, .convert t ty x, tt, pos, af, g⟩ (.v true (.i k' (k'.wrap a))) :=
  Quiet.of ⟨rfl, fun C I w ρ _ hρ => by
    have h1 := (hρ x (by simp [Op.operands]) _ hx).i_inv
    have hk : P.intKind ty = k' := by simp [Program.intKind, hd.h]
    have hr := run_convert_int (P := P) w t ty k a (by rw [hs.h]; rfl) (by rw [hk]; exact hd.h)
    simp only [execOp, h1, Sem.run_bind, hr, Sem.run_pure, Result.andThen_ok, hk]
    exact ⟨rfl, .v _ _ _ (.i _ _)⟩⟩
theorem q_nil {k i b off : Nat} (hx : ev x = some (.p k i b off)) : Quiet P hp ev ⟨dst, .nilCheck x, tt, pos, af, g⟩ (.p k i b off) :=
  Quiet.of ⟨rfl, fun C I w ρ _ hρ => by
    have h0 := (hρ x (by simp [Op.operands]) _ hx).p_inv
    simp only [execOp, h0]
    exact ⟨rfl, .p _ _ _ _⟩⟩
/-! #### Loads out of data -/
theorem q_load1_q {z : V} {zs : List V} [ha : TAgg P t false] (hx : ev x = some (.v f (.q (z :: zs)))) : Quiet P hp ev ⟨dst, .load t x, tt, pos, af, g⟩ (.v f z) :=
  Quiet.of ⟨rfl, fun C I w ρ _ hρ => by
    obtain ⟨vs, b, o, h1, h2, h3, h4, h5⟩ := (hρ x (by simp [Op.operands]) _ hx).v_inv.q_inv
    obtain ⟨v, vs', rfl, hv, _⟩ := h2.cons_inv
    have hc := h5 0 v rfl
    simp only [execOp, h1, Instr.loadAt, Instr.sureAddr, Sem.run_bind, Sem.run_pure, Result.andThen_ok, run_loadVar1 w ha.h ⟨b, o, none⟩ v hc]
    exact ⟨rfl, .v _ _ _ hv⟩⟩

theorem q_loadN_q {ys : List V} {z : Nat} [ha : TAgg P t true] [hz : TSz P t z] (hx : ev x = some (.v f (.q ys))) (hl : Nat.ble z ys.length = true) : Quiet P hp ev ⟨dst, .load t x, tt, pos, af, g⟩ (.v f (.st (ys.take z))) :=
  Quiet.of ⟨rfl, fun C I w ρ _ hρ => by
    obtain ⟨vs, b, o, h1, h2, h3, h4, h5⟩ := (hρ x (by simp [Op.operands]) _ hx).v_inv.q_inv
    have hle : z ≤ vs.length := by rw [← h2.1]; simpa using hl
    have hr := run_loadVarN (P := P) w ha.h hz.h b o (vs.take z) (by simp; omega) (fun j u hu => by
      rw [List.getElem?_take] at hu
      split at hu
      · exact h5 j u hu
      · cases hu)
    simp only [execOp, h1, Instr.loadAt, Instr.sureAddr, Sem.run_bind, Sem.run_pure, Result.andThen_ok, hr]
    exact ⟨rfl, .v _ _ _ (.st_of (h2.take z) (fun u hu => h3 u (List.mem_of_mem_take hu)))⟩⟩

theorem take_cells {z : Nat} {e : V} (hst : e.isSt = true) (hl : (V.cells e).length = z) : V.st ((V.cells e).take z) = e := by
  cases e <;> simp [V.isSt] at hst
  simp only [V.cells] at hl ⊢
  rw [← hl, List.take_length]

/-- A whole element. -/
theorem q_load_e {e : V} {z : Nat} [ha : TAgg P t true] [hz : TSz P t z] (hx : ev x = some (.v f (.q (V.cells e)))) (hst : e.isSt = true) (hl : (V.cells e).length = z) : Quiet P hp ev ⟨dst, .load t x, tt, pos, af, g⟩ (.v f e) := by
  have h := q_loadN_q (P := P) (hp := hp) (t := t) (dst := dst) (tt := tt) (pos := pos) (af := af) (g := g) (z := z) hx (by rw [hl]; simp)
  rw [take_cells hst hl] at h
  exact h

/-! #### Loads out of the call's own blocks -/
/-- Cells side by side, as a value: data if all of them are. -/
def D.joinV : List D → Option (Bool × List V)
  | [] => some (true, [])
  | .v f x :: r => match D.joinV r with | some (f', xs) => some (f && f', x :: xs) | none => none
  | _ => none
def D.join (ds : List D) : D := match D.joinV ds with | some (f, xs) => .v f (.st xs) | none => .st ds

theorem joinV_rep {w : World} {I : Nat → Prop} {base : Nat} : ∀ {cs : List D} {f : Bool} {xs : List V} {vs : List Value}, D.joinV cs = some (f, xs) → DReps w I base cs vs → VReps w (fresh f I base) xs vs
  | [], _, _, vs, h, hr => by
    cases h
    rw [hr.nil_inv]; exact .nil
  | d :: r, f', xs, vs, h, hr => by
    obtain ⟨v, vs', rfl, h0, h1⟩ := hr.cons_inv
    cases d with
    | v f x =>
      simp only [D.joinV] at h
      cases hj : D.joinV r with
      | none => rw [hj] at h; cases h
      | some p =>
        obtain ⟨f2, ys⟩ := p
        rw [hj] at h
        simp at h
        obtain ⟨rfl, rfl⟩ := h
        refine .cons (h0.v_inv.mono (fun _ _ => rfl) (fun b hb => ⟨hb.1, fun e => hb.2 (by simp at e; exact e.1)⟩)) ((joinV_rep hj h1).mono (fun _ _ => rfl) (fun b hb => ⟨hb.1, fun e => hb.2 (by simp at e; exact e.2)⟩))
    | _ => simp [D.joinV] at h
theorem join_rep {w : World} {I : Nat → Prop} {base : Nat} {ds : List D} {vs : List Value} (h : DReps w I base ds vs) (h1 : ∀ v ∈ vs, v.oneCell' = true) : DRep w I base (D.join ds) (.agg vs.toArray) := by
  unfold D.join
  cases e : D.joinV ds with
  | none => exact .st _ _ h.1 h1 h.2
  | some p =>
    obtain ⟨f, xs⟩ := p
    exact .v _ _ _ (VRep.st_of (joinV_rep e h) h1)

theorem cell_of_cells {w : World} {b : Nat} {vs : List Value} {ty : TypeId} {fr : Nat × Nat} (h : w.heap[b]? = some (.cells vs.toArray ty fr)) (j : Nat) : w.cell? ⟨b, j, none⟩ = vs[j]? := by
  simp [World.cell?, h]

theorem RowRep.cells {w : World} {I : Nat → Prop} {base b n ty : Nat} {xs : List D} {vs : List Value} (h : RowRep w I base b n ty xs vs) : DReps w I base xs (vs.take xs.length) :=
  ⟨by have := h.le; have := h.len; simp; omega, fun i d v hd hv => h.rep i d v hd (by
    rw [List.getElem?_take] at hv
    split at hv
    · exact hv
    · cases hv)⟩
theorem RowRep.get {w : World} {I : Nat → Prop} {base b n ty : Nat} {xs : List D} {vs : List Value} (h : RowRep w I base b n ty xs vs) {j : Nat} {d : D} (hd : xs[j]? = some d) : ∃ v, vs[j]? = some v ∧ w.cell? ⟨b, j, none⟩ = some v ∧ DRep w I base d v ∧ v.oneCell' = true := by
  have hlt : j < vs.length := by have := h.le; have := h.len; have := (List.getElem?_eq_some_iff.1 hd).1; omega
  have hv : vs[j]? = some vs[j] := List.getElem?_eq_getElem hlt
  exact ⟨vs[j], hv, (cell_of_cells h.blk j).trans hv, h.rep j d _ hd hv, h.one _ (List.getElem_mem hlt)⟩
/-- A stretch of cells. -/
theorem RowRep.seg {w : World} {I : Nat → Prop} {base b n ty : Nat} {xs : List D} {vs : List Value} (h : RowRep w I base b n ty xs vs) {off z : Nat} {ds : List D} (hd : (xs.drop off).take z = ds) (hz : ds.length = z) :
    ∃ us, us.length = z ∧ DReps w I base ds us ∧ (∀ u ∈ us, u.oneCell' = true) ∧ us = (vs.drop off).take z ∧ ∀ (j : Nat) u, us[j]? = some u → w.cell? ⟨b, off + j, none⟩ = some u := by
  have hc := ((h.cells).drop off).take z
  rw [hd] at hc
  have hle := h.le
  have hlen := h.len
  have hl : ((xs.drop off).take z).length = z := by rw [hd]; exact hz
  simp at hl
  have he : ((vs.take xs.length).drop off).take z = (vs.drop off).take z := by
    apply List.ext_getElem?
    intro j
    simp only [List.getElem?_take, List.getElem?_drop]
    by_cases hj : j < z
    · simp only [hj, if_true]
      rw [if_pos (by omega)]
    · simp [hj]
  rw [he] at hc
  refine ⟨_, by rw [← hc.1]; exact hz, hc, fun u hu => h.one u (List.mem_of_mem_drop (List.mem_of_mem_take hu)), rfl, fun j u hu => ?_⟩
  rw [cell_of_cells h.blk]
  rw [List.getElem?_take] at hu
  split at hu
  · simpa using hu
  · cases hu

theorem WOk.row {C : Ctx} {hp : Hp} {I : Nat → Prop} {w : World} (hw : WOk C hp I w) {k i b n ty : Nat} {xs : List D} (hk : hp k i = some (some (b, n), .row ty xs)) : ∃ vs, RowRep w I C.base b n ty xs vs := hw.own k i _ _ hk

/-- One cell. -/
theorem q_load1 {k i b n off : Nat} {ty' : TypeId} {xs : List D} [ha : TAgg P t false] (hx : ev x = some (.p k i b off)) (hk : hp k i = some (some (b, n), .row ty' xs)) (hc : xs[off]? = some d) : Quiet P hp ev ⟨dst, .load t x, tt, pos, af, g⟩ d :=
  Quiet.of ⟨rfl, fun C I w ρ hw hρ => by
    have h1 := (hρ x (by simp [Op.operands]) _ hx).p_inv
    obtain ⟨vs, hr⟩ := hw.row hk
    obtain ⟨v, _, h3, h4, _⟩ := hr.get hc
    simp only [execOp, h1, Instr.loadAt, Instr.sureAddr, Sem.run_bind, Sem.run_pure, Result.andThen_ok, run_loadVar1 w ha.h ⟨b, off, none⟩ _ h3]
    exact ⟨rfl, h4⟩⟩
/-- Some cells. -/
theorem q_loadN {k i b n off z : Nat} {ty' : TypeId} {xs ds : List D} [ha : TAgg P t true] [hz : TSz P t z] (hx : ev x = some (.p k i b off)) (hk : hp k i = some (some (b, n), .row ty' xs))
    (hd : (xs.drop off).take z = ds) (hl : ds.length = z) : Quiet P hp ev ⟨dst, .load t x, tt, pos, af, g⟩ (D.join ds) :=
  Quiet.of ⟨rfl, fun C I w ρ hw hρ => by
    have h1 := (hρ x (by simp [Op.operands]) _ hx).p_inv
    obtain ⟨vs, hr⟩ := hw.row hk
    obtain ⟨us, g1, g2, g3, _, g4⟩ := hr.seg hd hl
    have hrr := run_loadVarN (P := P) w ha.h hz.h b off us g1 g4
    simp only [execOp, h1, Instr.loadAt, Instr.sureAddr, Sem.run_bind, Sem.run_pure, Result.andThen_ok, hrr]
    exact ⟨rfl, join_rep g2 g3⟩⟩

/-- The cells of data. -/
def cellsD (f : Bool) (e : V) : List D := (V.cells e).map (D.v f)
theorem joinV_map (f : Bool) : ∀ (xs : List V), xs ≠ [] → D.joinV (xs.map (D.v f)) = some (f, xs)
  | [], h => absurd rfl h
  | [x], _ => by simp [D.joinV]
  | x :: y :: r, _ => by
    have := joinV_map f (y :: r) (by simp)
    simp only [List.map_cons, D.joinV] at this ⊢
    rw [this]
    simp
theorem join_cells {f : Bool} {e : V} (hst : e.isSt = true) (hne : V.cells e ≠ []) : D.join (cellsD f e) = .v f e := by
  unfold D.join cellsD
  rw [joinV_map f _ hne]
  cases e <;> simp [V.isSt] at hst
  rfl
/-- A whole struct of data, as it was laid. -/
theorem q_loadE {k i b n off z : Nat} {ty' : TypeId} {xs : List D} {e : V} [ha : TAgg P t true] [hz : TSz P t z] (hx : ev x = some (.p k i b off)) (hk : hp k i = some (some (b, n), .row ty' xs))
    (hd : (xs.drop off).take z = cellsD f e) (hst : e.isSt = true) (hl : (V.cells e).length = z) (h0 : Nat.blt 0 z = true) : Quiet P hp ev ⟨dst, .load t x, tt, pos, af, g⟩ (.v f e) := by
  have h := q_loadN (P := P) (hp := hp) (t := t) (dst := dst) (tt := tt) (pos := pos) (af := af) (g := g) (z := z) hx hk hd (by simp [cellsD, hl])
  rwa [join_cells hst (fun e' => by rw [e'] at hl; subst hl; simp at h0)] at h

/-! #### Addresses -/
theorem q_fld_q {s fl off : Nat} {ys : List V} [hf : TFld P s fl off] (hx : ev x = some (.v f (.q ys))) : Quiet P hp ev ⟨dst, .fieldAddr s x fl, tt, pos, af, g⟩ (.v f (.q (ys.drop off))) :=
  Quiet.of ⟨rfl, fun C I w ρ _ hρ => by
    obtain ⟨vs, b, o, h1, h2, h3, h4, h5⟩ := (hρ x (by simp [Op.operands]) _ hx).v_inv.q_inv
    simp only [execOp, h1, Sem.run_bind, Sem.run_pure, Result.andThen_ok, run_fieldPlace w hf.h, addr_add]
    refine ⟨rfl, .v _ _ _ ?_⟩
    have h6 := h2.drop off
    exact .q _ _ b (o + off) h6.1 (fun u hu => h3 u (List.mem_of_mem_drop hu)) h4 h6.2 (fun j u hu => by rw [Nat.add_assoc]; exact h5 (off + j) u (by simpa using hu))⟩
theorem q_fld_p {s fl off k i b o : Nat} [hf : TFld P s fl off] (hx : ev x = some (.p k i b o)) : Quiet P hp ev ⟨dst, .fieldAddr s x fl, tt, pos, af, g⟩ (.p k i b (o + off)) :=
  Quiet.of ⟨rfl, fun C I w ρ _ hρ => by
    have h2 := (hρ x (by simp [Op.operands]) _ hx).p_inv
    simp only [execOp, h2, Sem.run_bind, Sem.run_pure, Result.andThen_ok, run_fieldPlace w hf.h, addr_add]
    exact ⟨rfl, .p _ _ _ _⟩⟩

theorem run_index_slice {w : World} {el z : Nat} (ht : P.underlying t = some (.slice el)) (hz : hasSize P el z = true) (b o len cap : Nat) (k : IntKind) (n : Int) (h0 : 0 ≤ n) (h1 : n < len) :
    (Instr.indexAt t (.slice (some ⟨b, o, none⟩) len cap) (.int k n)).run P w = .ok (.pointer (some ⟨b, o + n.toNat * z, none⟩)) w := by
  have he : P.elem t = el := by simp [Program.elem, ht]
  rw [run_indexAt_slice w t ⟨b, o, none⟩ len cap k n (by rw [he]; exact ht), if_pos ⟨h0, h1⟩, he, rsz w hz]
  simp only [Result.andThen_ok, addr_add]

theorem q_idx_l {el z : Nat} {xs : List V} {e : V} {k : IntKind} {n : Int} [ht : TSl P t el] [hz : TSz P el z] (hx : ev x = some (.v f (.l z xs))) (hy : ev y = some (.v f2 (.i k n))) (h0 : 0 ≤ n) (he : xs[n.toNat]? = some e) (hpl : e.plain = true) :
    Quiet P hp ev ⟨dst, .indexAddr t x y, tt, pos, af, g⟩ (.v f (.q (V.cells e))) :=
  Quiet.of ⟨rfl, fun C I w ρ _ hρ => by
    obtain ⟨A, cp, b, o, val, h1, h2, h3, h4, h5, h6, h7⟩ := (hρ x (by simp [Op.operands]) _ hx).v_inv.l_inv
    have h8 := (hρ y (by simp [Op.operands]) _ hy).i_inv
    have hlt : n.toNat < xs.length := (List.getElem?_eq_some_iff.1 he).1
    obtain ⟨rfl, hI⟩ := h4 (by omega)
    simp only [execOp, h1, h8, Sem.run_bind, Sem.run_pure, Result.andThen_ok, run_index_slice ht.h hz.h b o xs.length cp k n h0 (by omega)]
    refine ⟨rfl, .v _ _ _ ?_⟩
    obtain ⟨h9, h10⟩ := (h5 _ _ he).cells hpl
    exact .q _ _ b _ h9.1 h10 hI h9.2 (fun j u hu => by rw [Nat.add_assoc]; exact h7 n.toNat j e u he (by simpa using hu))⟩

theorem DRep.o_inv {w : World} {I : Nat → Prop} {base k i z off len : Nat} {pl : Pl} {u : Value} (h : DRep w I base (.o k i pl z off len) u) : (pl = none ∧ off = 0 ∧ len = 0 ∧ u = .slice none 0 0) ∨ ∃ b n cap, pl = some (b, n) ∧ u = .slice (some ⟨b, off, none⟩) len cap ∧ len ≤ cap ∧ cap ≤ maxLen ∧ off + cap * z ≤ n := by
  cases h with
  | onil => exact .inl ⟨rfl, rfl, rfl, rfl⟩
  | o _ _ b n _ _ _ cap h1 h2 h3 => exact .inr ⟨b, n, cap, rfl, rfl, h1, h2, h3⟩
theorem DRep.osome {w : World} {I : Nat → Prop} {base k i b n z off len : Nat} {u : Value} (h : DRep w I base (.o k i (some (b, n)) z off len) u) : ∃ cap, u = .slice (some ⟨b, off, none⟩) len cap ∧ len ≤ cap ∧ cap ≤ maxLen ∧ off + cap * z ≤ n := by
  rcases h.o_inv with ⟨h, _⟩ | ⟨b', n', cap, h, h2⟩
  · cases h
  · cases h; exact ⟨cap, h2⟩

theorem q_idx_o {el z kk ii b nn off len : Nat} {k : IntKind} {n : Int} [ht : TSl P t el] [hz : TSz P el z] (hx : ev x = some (.o kk ii (some (b, nn)) z off len)) (hy : ev y = some (.v f2 (.i k n))) (h0 : 0 ≤ n) (h1 : n < len) :
    Quiet P hp ev ⟨dst, .indexAddr t x y, tt, pos, af, g⟩ (.p kk ii b (off + n.toNat * z)) :=
  Quiet.of ⟨rfl, fun C I w ρ _ hρ => by
    have h8 := (hρ y (by simp [Op.operands]) _ hy).i_inv
    obtain ⟨cap, hu, _⟩ := (hρ x (by simp [Op.operands]) _ hx).osome
    simp only [execOp, h8, hu, Sem.run_bind, Sem.run_pure, Result.andThen_ok, run_index_slice ht.h hz.h b off len cap k n h0 h1]
    exact ⟨rfl, .p _ _ _ _⟩⟩
/-- An index that is in range shows that the slice is there. -/
theorem q_idx_op {el z kk ii off len : Nat} {pl : Pl} {k : IntKind} {n : Int} [ht : TSl P t el] [hz : TSz P el z] (hx : ev x = some (.o kk ii pl z off len)) {b nn : Nat} (hpl : pl = some (b, nn)) (hy : ev y = some (.v f2 (.i k n))) (h0 : 0 ≤ n) (h1 : n < len) :
    Quiet P hp ev ⟨dst, .indexAddr t x y, tt, pos, af, g⟩ (.p kk ii b (off + n.toNat * z)) := by subst hpl; exact q_idx_o hx hy h0 h1

/-! #### Lengths -/
theorem q_len_l {el z : Nat} {xs : List V} [ht : TSl P t el] (hx : ev x = some (.v f (.l z xs))) : Quiet P hp ev ⟨dst, .call { callee := .builtin .len, args := #[x], argTypes := #[t] }, tt, pos, af, g⟩ (.v true (.i .i64 (xs.length : Nat))) :=
  Quiet.of ⟨rfl, fun C I w ρ _ hρ => by
    obtain ⟨A, cp, b, o, val, h1, _⟩ := (hρ x (by simp [Op.operands, Call.operands]) _ hx).v_inv.l_inv
    have he : P.elem t = el := by simp [Program.elem, ht.h]
    have hr := run_len_slice (P := P) w t tt A xs.length cp (by rw [he]; exact ht.h)
    simp only [execOp, resolve, invoke, builtin, List.map_toArray, List.map_cons, List.map_nil, h1, Sem.run_bind, Sem.run_pure, Result.andThen_ok, hr]
    exact ⟨rfl, .v _ _ _ (.i _ _)⟩⟩
theorem q_len_o {el k i z off len : Nat} {pl : Pl} [ht : TSl P t el] (hx : ev x = some (.o k i pl z off len)) : Quiet P hp ev ⟨dst, .call { callee := .builtin .len, args := #[x], argTypes := #[t] }, tt, pos, af, g⟩ (.v true (.i .i64 (len : Nat))) :=
  Quiet.of ⟨rfl, fun C I w ρ _ hρ => by
    have he : P.elem t = el := by simp [Program.elem, ht.h]
    rcases (hρ x (by simp [Op.operands, Call.operands]) _ hx).o_inv with ⟨_, _, rfl, hu⟩ | ⟨b, n, cap, _, hu, _⟩
    · have hr := run_len_slice (P := P) w t tt none 0 0 (by rw [he]; exact ht.h)
      simp only [execOp, resolve, invoke, builtin, List.map_toArray, List.map_cons, List.map_nil, hu, Sem.run_bind, Sem.run_pure, Result.andThen_ok, hr]
      exact ⟨rfl, .v _ _ _ (.i _ _)⟩
    · have hr := run_len_slice (P := P) w t tt (some ⟨b, off, none⟩) len cap (by rw [he]; exact ht.h)
      simp only [execOp, resolve, invoke, builtin, List.map_toArray, List.map_cons, List.map_nil, hu, Sem.run_bind, Sem.run_pure, Result.andThen_ok, hr]
      exact ⟨rfl, .v _ _ _ (.i _ _)⟩⟩
theorem q_len_nil {el : Nat} [ht : TSl P t el] (hx : ev x = some (.v f (.raw (.slice none 0 0)))) : Quiet P hp ev ⟨dst, .call { callee := .builtin .len, args := #[x], argTypes := #[t] }, tt, pos, af, g⟩ (.v true (.i .i64 0)) :=
  Quiet.of ⟨rfl, fun C I w ρ _ hρ => by
    have he : P.elem t = el := by simp [Program.elem, ht.h]
    have h1 := ((hρ x (by simp [Op.operands, Call.operands]) _ hx).v_inv.raw_inv).1
    have hr := run_len_slice (P := P) w t tt none 0 0 (by rw [he]; exact ht.h)
    simp only [execOp, resolve, invoke, builtin, List.map_toArray, List.map_cons, List.map_nil, h1, Sem.run_bind, Sem.run_pure, Result.andThen_ok, hr]
    exact ⟨rfl, .v _ _ _ (.i _ _)⟩⟩
end
end Bf
