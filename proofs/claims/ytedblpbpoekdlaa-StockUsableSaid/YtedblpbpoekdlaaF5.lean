/- The engine, part 5: quiet operations: equality of structs, calls of pure functions, closures, values built of parts. No program is named here. -/
import Derived.Laws.StructEq
import Derived.Test.YtedblpbpoekdlaaF4
namespace Bf
open Go Go.RowKit

/-! #### Equality, leaf by leaf -/
inductive Lf where
  | int | bool | str
def leafEq : Lf → V → V → Option Bool
  | .int, .i k a, .i k' b => if k = k' then some (a == b) else none
  | .bool, .b a, .b b => some (a == b)
  | .str, .s a, .s b => some (a.toList == b.toList)
  | _, _, _ => none
def eqsV : List Lf → List V → List V → Option Bool
  | [], [], [] => some true
  | l :: ls, x :: xs, y :: ys => match leafEq l x y, eqsV ls xs ys with | some a, some b => some (a && b) | _, _ => none
  | _, _, _ => none

/-- The leaves of the fields, one behind the other. -/
def cmpFs (P : Program) (rec : TypeId → Option (List Lf)) : Nat → List Field → Option (List Lf)
  | _, [] => some []
  | n, f :: fs => if f.offset = n ∧ f.name ≠ "_" then (match rec f.type with | some m => if hasSize P f.type m.length then (match cmpFs P rec (n + m.length) fs with | some r => some (m ++ r) | none => none) else none | none => none) else none
/-- The leaves of a type that is compared leaf by leaf. -/
def cmpT (P : Program) : Nat → TypeId → Option (List Lf)
  | 0, _ => none
  | d + 1, t => match P.underlying t with
    | some (.int _) => some [.int]
    | some .bool => some [.bool]
    | some .string => some [.str]
    | some (.struct fs) => if P.stoodInHeld t then none else cmpFs P (cmpT P d) 0 fs.toList
    | _ => none
abbrev cmpF (P : Program) (d : Nat) : Nat → List Field → Option (List Lf) := cmpFs P (cmpT P d)

theorem eqsV_split : ∀ {ls ms : List Lf} {xs ys : List V} {r : Bool}, eqsV (ls ++ ms) xs ys = some r → ∃ a b, eqsV ls (xs.take ls.length) (ys.take ls.length) = some a ∧ eqsV ms (xs.drop ls.length) (ys.drop ls.length) = some b ∧ r = (a && b)
  | [], ms, xs, ys, r, h => ⟨true, r, by simp [eqsV], by simpa using h, by simp⟩
  | l :: ls, ms, [], ys, r, h => by simp [eqsV] at h
  | l :: ls, ms, x :: xs, [], r, h => by simp [eqsV] at h
  | l :: ls, ms, x :: xs, y :: ys, r, h => by
    simp only [List.cons_append, eqsV] at h
    cases h1 : leafEq l x y with
    | none => rw [h1] at h; cases h
    | some a =>
      cases h2 : eqsV (ls ++ ms) xs ys with
      | none => rw [h1, h2] at h; cases h
      | some b =>
        rw [h1, h2] at h
        cases h
        obtain ⟨a', b', e1, e2, e3⟩ := eqsV_split h2
        refine ⟨a && a', b', ?_, ?_, ?_⟩
        · simp only [List.length_cons, List.take_succ_cons, eqsV, h1, e1]
        · simpa using e2
        · rw [e3, Bool.and_assoc]
theorem eqsV_len : ∀ {ls : List Lf} {xs ys : List V} {r : Bool}, eqsV ls xs ys = some r → xs.length = ls.length ∧ ys.length = ls.length
  | [], [], [], _, _ => ⟨rfl, rfl⟩
  | [], [], _ :: _, _, h => by simp [eqsV] at h
  | [], _ :: _, _, _, h => by simp [eqsV] at h
  | _ :: _, [], _, _, h => by simp [eqsV] at h
  | _ :: _, _ :: _, [], _, h => by simp [eqsV] at h
  | l :: ls, x :: xs, y :: ys, r, h => by
    simp only [eqsV] at h
    cases h1 : leafEq l x y with
    | none => rw [h1] at h; cases h
    | some a =>
      cases h2 : eqsV ls xs ys with
      | none => rw [h1, h2] at h; cases h
      | some b =>
        obtain ⟨e1, e2⟩ := eqsV_len h2
        simp [e1, e2]

section
variable {P : Program}

theorem run_part_agg {t z : Nat} (ha : isAggB P t true = true) (hz : hasSize P t z = true) (cs : Array Value) (off : Nat) (W : World) : (part t cs off).run P W = .ok (.agg (cs.extract off (off + z))) W := by
  simp [part, run_isAgg W ha, rsz W hz]
theorem run_part_one {t : Nat} (ha : isAggB P t false = true) (cs : List Value) (off : Nat) {v : Value} (hv : cs[off]? = some v) (W : World) : (part t cs.toArray off).run P W = .ok v W := by
  simp [part, run_isAgg W ha, hv]

/-- Two values of a type that is compared leaf by leaf: 'fuel d' is enough. -/
theorem run_eqsV : ∀ (d : Nat), (∀ (t : TypeId) (ls : List Lf) (xs ys : List V) (r : Bool), cmpT P d t = some ls → eqsV ls xs ys = some r →
      ∀ (w w' : World) (I I' : Nat → Prop) (vs us : List Value), VReps w I xs vs → VReps w' I' ys us → ∀ (e : Nat) (W : World),
        (isAggB P t true = true → (Op.equalIn (d + e) t (.agg vs.toArray) (.agg us.toArray)).run P W = .ok r W) ∧
        (isAggB P t false = true → ∀ v u, vs = [v] → us = [u] → (Op.equalIn (d + e) t v u).run P W = .ok r W)) ∧
    (∀ (fs : List Field) (n : Nat) (ls : List Lf) (xs ys : List V) (r : Bool), cmpF P d n fs = some ls → eqsV ls (xs.drop n) (ys.drop n) = some r →
      ∀ (w w' : World) (I I' : Nat → Prop) (vs us : List Value), VReps w I xs vs → VReps w' I' ys us → ∀ (e : Nat) (W : World),
        (Op.eqFields (d + e) vs.toArray us.toArray fs).run P W = .ok r W) := by
  intro d
  induction d with
  | zero =>
    refine ⟨fun t ls xs ys r h => by simp [cmpT] at h, fun fs => ?_⟩
    cases fs with
    | nil =>
      intro n ls xs ys r h he w w' I I' vs us _ _ e W
      simp only [cmpF, cmpFs, Option.some.injEq] at h
      subst h
      obtain ⟨h1, h2⟩ := eqsV_len he
      rw [List.eq_nil_of_length_eq_zero h1, List.eq_nil_of_length_eq_zero h2] at he
      simp only [eqsV, Option.some.injEq] at he
      subst he
      simp [Op.eqFields]
    | cons f fs =>
      intro n ls xs ys r h
      simp [cmpF, cmpFs, cmpT] at h
  | succ d ih =>
    have hT : ∀ (t : TypeId) (ls : List Lf) (xs ys : List V) (r : Bool), cmpT P (d + 1) t = some ls → eqsV ls xs ys = some r →
      ∀ (w w' : World) (I I' : Nat → Prop) (vs us : List Value), VReps w I xs vs → VReps w' I' ys us → ∀ (e : Nat) (W : World),
        (isAggB P t true = true → (Op.equalIn (d + 1 + e) t (.agg vs.toArray) (.agg us.toArray)).run P W = .ok r W) ∧
        (isAggB P t false = true → ∀ v u, vs = [v] → us = [u] → (Op.equalIn (d + 1 + e) t v u).run P W = .ok r W) := by
      intro t ls xs ys r ht he w w' I I' vs us hv hu e W
      rw [show d + 1 + e = (d + e) + 1 by omega]
      unfold cmpT at ht
      cases hun : P.underlying t with
      | none => rw [hun] at ht; cases ht
      | some dd =>
        rw [hun] at ht
        have leaf : ∀ l, ls = [l] → ∀ v u, vs = [v] → us = [u] → ∃ x y, leafEq l x y = some r ∧ VRep w I x v ∧ VRep w' I' y u := by
          intro l hl v u hv1 hu1
          subst hl
          obtain ⟨h1, h2⟩ := eqsV_len he
          match xs, ys, h1, h2 with
          | [x], [y], _, _ =>
            simp only [eqsV] at he
            cases hle : leafEq l x y with
            | none => rw [hle] at he; cases he
            | some a =>
              rw [hle] at he
              simp at he
              subst he
              refine ⟨x, y, hle, ?_, ?_⟩
              · exact hv.2 0 x v rfl (by rw [hv1]; rfl)
              · exact hu.2 0 y u rfl (by rw [hu1]; rfl)
        cases dd <;> simp at ht
        case int k =>
          refine ⟨fun h => by simp [isAggB, hun] at h, fun _ v u e1 e2 => ?_⟩
          obtain ⟨x, y, h1, h2, h3⟩ := leaf .int ht.symm v u e1 e2
          cases x <;> cases y <;> simp [leafEq] at h1
          rw [h2.i_inv, h3.i_inv]
          obtain ⟨rfl, rfl⟩ := h1
          exact run_equalIn_int W _ t _ k _ _ hun
        case bool =>
          refine ⟨fun h => by simp [isAggB, hun] at h, fun _ v u e1 e2 => ?_⟩
          obtain ⟨x, y, h1, h2, h3⟩ := leaf .bool ht.symm v u e1 e2
          cases x <;> cases y <;> simp [leafEq] at h1
          rw [h2.b_inv, h3.b_inv, ← h1]
          exact run_equalIn_bool' W _ t _ _ hun
        case string =>
          refine ⟨fun h => by simp [isAggB, hun] at h, fun _ v u e1 e2 => ?_⟩
          obtain ⟨x, y, h1, h2, h3⟩ := leaf .str ht.symm v u e1 e2
          cases x <;> cases y <;> simp [leafEq] at h1
          rw [h2.s_inv, h3.s_inv, ← h1]
          exact run_equalIn_string W _ t _ _ hun
        case struct fs =>
          refine ⟨fun _ => ?_, fun h => by simp [isAggB, hun] at h⟩
          obtain ⟨hst, hcf⟩ := ht
          have hfs : P.fieldsOf t = fs := by simp [Program.fieldsOf, hun]
          rw [run_equalIn_struct W (d + e) t vs.toArray us.toArray (by rw [hfs]; exact hun) hst, hfs]
          exact ih.2 fs.toList 0 ls xs ys r hcf (by simpa using he) w w' I I' vs us hv hu e W
    refine ⟨hT, ?_⟩
    intro fs
    induction fs with
    | nil =>
      intro n ls xs ys r h he w w' I I' vs us _ _ e W
      simp only [cmpF, cmpFs, Option.some.injEq] at h
      subst h
      obtain ⟨h1, h2⟩ := eqsV_len he
      rw [List.eq_nil_of_length_eq_zero h1, List.eq_nil_of_length_eq_zero h2] at he
      simp only [eqsV, Option.some.injEq] at he
      subst he
      simp [Op.eqFields]
    | cons f fs ihf =>
      intro n ls xs ys r h he w w' I I' vs us hv hu e W
      unfold cmpF cmpFs at h
      split at h
      case isFalse => cases h
      case isTrue hc =>
        obtain ⟨ho, hn⟩ := hc
        cases hm : cmpT P (d + 1) f.type with
        | none => rw [hm] at h; cases h
        | some m =>
          rw [hm] at h
          simp only at h
          split at h
          case isFalse => cases h
          case isTrue hsz =>
            cases hr : cmpFs P (cmpT P (d + 1)) (n + m.length) fs with
            | none => rw [hr] at h; cases h
            | some rr =>
              rw [hr] at h
              simp only [Option.some.injEq] at h
              subst h
              obtain ⟨a, b, e1, e2, rfl⟩ := eqsV_split he
              rw [List.drop_drop, List.drop_drop] at e2
              have h1 := hT f.type m _ _ a hm e1 w w' I I' ((vs.drop n).take m.length) ((us.drop n).take m.length) ((hv.drop n).take _) ((hu.drop n).take _) e W
              have h2 := ihf (n + m.length) rr xs ys b hr e2 w w' I I' vs us hv hu e W
              have hlen := eqsV_len e1
              have hlv : ((vs.drop n).take m.length).length = m.length := by rw [← ((hv.drop n).take m.length).1]; exact hlen.1
              have hlu : ((us.drop n).take m.length).length = m.length := by rw [← ((hu.drop n).take m.length).1]; exact hlen.2
              have key : ∃ p q, (part f.type vs.toArray f.offset).run P W = .ok p W ∧ (part f.type us.toArray f.offset).run P W = .ok q W ∧ (Op.equalIn (d + 1 + e) f.type p q).run P W = .ok a W := by
                have hagg : isAggB P f.type true = true ∨ (isAggB P f.type false = true ∧ m.length = 1) := by
                  unfold cmpT at hm
                  cases hun : P.underlying f.type with
                  | none => rw [hun] at hm; cases hm
                  | some dd => rw [hun] at hm; cases dd <;> simp at hm <;> first | (left; simp [isAggB, hun]; done) | (right; subst hm; simp [isAggB, hun])
                rcases hagg with hg | ⟨hg, hm1⟩
                · have h3 := h1.1 hg
                  refine ⟨_, _, run_part_agg hg hsz _ _ W, run_part_agg hg hsz _ _ W, ?_⟩
                  rw [ho]
                  simpa [List.extract_eq_take_drop, List.extract_toArray] using h3
                · obtain ⟨v, hv1⟩ := List.length_eq_one_iff.1 (hlv.trans hm1)
                  obtain ⟨u, hu1⟩ := List.length_eq_one_iff.1 (hlu.trans hm1)
                  have h3 := h1.2 hg v u hv1 hu1
                  have gv : vs[n]? = some v := by
                    have : ((vs.drop n).take m.length)[0]? = some v := by rw [hv1]; rfl
                    simpa [List.getElem?_take, hm1] using this
                  have gu : us[n]? = some u := by
                    have : ((us.drop n).take m.length)[0]? = some u := by rw [hu1]; rfl
                    simpa [List.getElem?_take, hm1] using this
                  rw [ho]
                  exact ⟨v, u, run_part_one hg vs n gv W, run_part_one hg us n gu W, h3⟩
              obtain ⟨p, q, k1, k2, k3⟩ := key
              simp only [Op.eqFields, hn, ne_eq, not_false_eq_true, if_true, Sem.run_bind, k1, k2, k3, Result.andThen_ok]
              cases a
              · simp
              · simpa using h2
end

class TCmp (P : Program) (t : TypeId) (ls : outParam (List Lf)) : Prop where
  h : (∃ d, d ≤ 10000 ∧ cmpT P d t = some ls) ∧ isAggB P t true = true ∧ P.eqGuardType P.depth t = false

section
variable {P : Program} {hp : Hp} {ev : Operand → Option D} {dst : Option Nat} {t tt ty : TypeId} {pos : String} {af : Array Edge} {g : Option (Nat × Bool)} {x y c : Operand} {d : D} {f f1 f2 : Bool}

theorem run_eq_struct {ls : List Lf} (hc : TCmp P t ls) {xs ys : List V} {r : Bool} (he : eqsV ls xs ys = some r) {w w' : World} {I I' : Nat → Prop} {vs us : List Value} (hv : VReps w I xs vs) (hu : VReps w' I' ys us) (W : World) :
    (Op.equalIn 10000 t (.agg vs.toArray) (.agg us.toArray)).run P W = .ok r W := by
  obtain ⟨⟨d, hd, hcm⟩, hag, _⟩ := hc.h
  have := ((run_eqsV (P := P) d).1 t ls xs ys r hcm he w w' I I' vs us hv hu (10000 - d) W).1 hag
  rwa [show d + (10000 - d) = 10000 by omega] at this

theorem q_eqs {ls : List Lf} {xs ys : List V} {r : Bool} [hc : TCmp P t ls] (hx : ev x = some (.v f1 (.st xs))) (hy : ev y = some (.v f2 (.st ys))) (he : eqsV ls xs ys = some r) :
    Quiet P hp ev ⟨dst, .binOp .eql t x y ty, tt, pos, af, g⟩ (.v true (.b r)) :=
  Quiet.of ⟨rfl, fun C I w ρ _ hρ => by
    obtain ⟨vs, h1, h2, _⟩ := (hρ x (by simp [Op.operands]) _ hx).v_inv.st_inv
    obtain ⟨us, h3, h4, _⟩ := (hρ y (by simp [Op.operands]) _ hy).v_inv.st_inv
    simp only [execOp, h1, h3, Sem.run_bind, run_eqGuard_agg w _ t x y _ _ hc.h.2.2, Result.andThen_ok, run_eql_struct, run_eq_struct hc he h2 h4 w, Sem.run_pure]
    exact ⟨rfl, .v _ _ _ (.b _)⟩⟩
theorem q_nes {ls : List Lf} {xs ys : List V} {r : Bool} [hc : TCmp P t ls] (hx : ev x = some (.v f1 (.st xs))) (hy : ev y = some (.v f2 (.st ys))) (he : eqsV ls xs ys = some r) :
    Quiet P hp ev ⟨dst, .binOp .neq t x y ty, tt, pos, af, g⟩ (.v true (.b (!r))) :=
  Quiet.of ⟨rfl, fun C I w ρ _ hρ => by
    obtain ⟨vs, h1, h2, _⟩ := (hρ x (by simp [Op.operands]) _ hx).v_inv.st_inv
    obtain ⟨us, h3, h4, _⟩ := (hρ y (by simp [Op.operands]) _ hy).v_inv.st_inv
    simp only [execOp, h1, h3, Sem.run_bind, run_eqGuard_agg w _ t x y _ _ hc.h.2.2, Result.andThen_ok, run_neq_struct, run_eq_struct hc he h2 h4 w, Sem.run_pure]
    exact ⟨rfl, .v _ _ _ (.b _)⟩⟩
theorem q_eqb {a b : Bool} [hb : TBool P t] (hx : ev x = some (.v f1 (.b a))) (hy : ev y = some (.v f2 (.b b))) :
    Quiet P hp ev ⟨dst, .binOp .eql t x y ty, tt, pos, af, g⟩ (.v true (.b (a == b))) :=
  Quiet.of ⟨rfl, fun C I w ρ _ hρ => by
    have h1 := (hρ x (by simp [Op.operands]) _ hx).b_inv
    have h2 := (hρ y (by simp [Op.operands]) _ hy).b_inv
    have h3 := run_equalIn_bool' (P := P) w 9999 t a b hb.h
    simp only [execOp, h1, h2, eqGuard_at_bool, Sem.run_bind, Sem.run_pure, Result.andThen_ok]
    simp only [binOp, Op.equal, Op.maxDepth, Sem.run_bind, h3, Result.andThen_ok, Sem.run_pure]
    exact ⟨rfl, .v _ _ _ (.b _)⟩⟩
theorem q_neb {a b : Bool} [hb : TBool P t] (hx : ev x = some (.v f1 (.b a))) (hy : ev y = some (.v f2 (.b b))) :
    Quiet P hp ev ⟨dst, .binOp .neq t x y ty, tt, pos, af, g⟩ (.v true (.b (a != b))) :=
  Quiet.of ⟨rfl, fun C I w ρ _ hρ => by
    have h1 := (hρ x (by simp [Op.operands]) _ hx).b_inv
    have h2 := (hρ y (by simp [Op.operands]) _ hy).b_inv
    have h3 := run_equalIn_bool' (P := P) w 9999 t a b hb.h
    simp only [execOp, h1, h2, eqGuard_at_bool, Sem.run_bind, Sem.run_pure, Result.andThen_ok]
    simp only [binOp, Op.equal, Op.maxDepth, Sem.run_bind, h3, Result.andThen_ok, Sem.run_pure]
    exact ⟨rfl, .v _ _ _ (.b _)⟩⟩
end
end Bf
