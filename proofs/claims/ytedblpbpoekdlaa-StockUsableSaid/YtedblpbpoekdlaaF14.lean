/- The engine, part 18 (begun): map keys that are compared leaf by leaf. No program is named here. -/
import Derived.Test.YtedblpbpoekdlaaF13
namespace Bf
open Go Go.RowKit

def ckFs (b : Bool) (n : Nat) (cs : Array Value) : List Field → Sem Unit
  | [] => pure ()
  | f :: fs => do
    if f.name ≠ "_" then Instr.checkKey b n f.type (← part f.type cs f.offset)
    ckFs b n cs fs

theorem ckFs_forIn (P : Program) (b : Bool) (n : Nat) (cs : Array Value) : ∀ (fs : List Field) (W : World), (forIn fs PUnit.unit (fun f _ => do
      if f.name ≠ "_" then Instr.checkKey b n f.type (← part f.type cs f.offset)
      pure (ForInStep.yield PUnit.unit) : Field → PUnit → Sem (ForInStep PUnit))).run P W = (ckFs b n cs fs).run P W
  | [], W => by simp [ckFs]
  | f :: fs, W => by
    simp only [List.forIn_cons, ckFs]
    by_cases h : f.name ≠ "_"
    · simp only [h, if_true, ne_eq, not_false_eq_true, Sem.run_bind, Sem.run_pure]
      cases hp : (part f.type cs f.offset).run P W with
      | halt x w => simp [Result.andThen]
      | ok v w =>
        simp only [Result.andThen]
        cases hk : (Instr.checkKey b n f.type v).run P w with
        | halt x w => simp [Result.andThen]
        | ok u w2 =>
          have := ckFs_forIn P b n cs fs w2
          simp only [Sem.run_bind] at this
          simpa [Result.andThen] using this
    · simp only [h, if_false, Sem.run_bind, Sem.run_pure, Result.andThen]
      exact ckFs_forIn P b n cs fs W

theorem run_checkKey_struct {P : Program} {t : TypeId} {fs : Array Field} (hun : P.underlying t = some (.struct fs)) (b : Bool) (n : Nat) (cs : Array Value) (W : World) :
    (Instr.checkKey b (n + 1) t (.agg cs)).run P W = (ckFs b n cs fs.toList).run P W := by
  rw [← ckFs_forIn]
  simp only [Instr.checkKey, Sem.run_bind, run_underlying hun, Result.andThen]
  simp
  generalize Sem.run P (forIn fs PUnit.unit _) W = r
  cases r <;> rfl

/-- A key of a type that is compared leaf by leaf can be hashed. -/
theorem run_checkKey {P : Program} : ∀ (d : Nat), (∀ (t : TypeId) (ls : List Lf) (b : Bool) (e : Nat) (W : World), cmpT P d t = some ls →
      (isAggB P t true = true → ∀ cs : List Value, cs.length = ls.length → (Instr.checkKey b (d + e) t (.agg cs.toArray)).run P W = .ok () W) ∧ (isAggB P t false = true → ∀ v, (Instr.checkKey b (d + e) t v).run P W = .ok () W)) ∧
    (∀ (fs : List Field) (n : Nat) (ls : List Lf) (b : Bool) (e : Nat) (W : World), cmpF P d n fs = some ls → ∀ cs : List Value, cs.length = n + ls.length → (ckFs b (d + e) cs.toArray fs).run P W = .ok () W) := by
  intro d
  induction d with
  | zero =>
    refine ⟨fun t ls b e W h => by simp [cmpT] at h, fun fs => ?_⟩
    cases fs with
    | nil => intro n ls b e W _ cs _; simp [ckFs]
    | cons f fs => intro n ls b e W h; simp [cmpF, cmpFs, cmpT] at h
  | succ d ih =>
    have hT : ∀ (t : TypeId) (ls : List Lf) (b : Bool) (e : Nat) (W : World), cmpT P (d + 1) t = some ls →
      (isAggB P t true = true → ∀ cs : List Value, cs.length = ls.length → (Instr.checkKey b (d + 1 + e) t (.agg cs.toArray)).run P W = .ok () W) ∧ (isAggB P t false = true → ∀ v, (Instr.checkKey b (d + 1 + e) t v).run P W = .ok () W) := by
      intro t ls b e W ht
      rw [show d + 1 + e = (d + e) + 1 by omega]
      unfold cmpT at ht
      cases hun : P.underlying t with
      | none => rw [hun] at ht; cases ht
      | some dd =>
        rw [hun] at ht
        cases dd <;> simp at ht
        case int k => exact ⟨fun h => by simp [isAggB, hun] at h, fun _ v => by simp [Instr.checkKey, run_underlying hun, Result.andThen]⟩
        case bool => exact ⟨fun h => by simp [isAggB, hun] at h, fun _ v => by simp [Instr.checkKey, run_underlying hun, Result.andThen]⟩
        case string => exact ⟨fun h => by simp [isAggB, hun] at h, fun _ v => by simp [Instr.checkKey, run_underlying hun, Result.andThen]⟩
        case struct fs =>
          refine ⟨fun _ cs hl => ?_, fun h => by simp [isAggB, hun] at h⟩
          rw [run_checkKey_struct hun]
          exact ih.2 fs.toList 0 ls b e W ht.2 cs (by omega)
    refine ⟨hT, ?_⟩
    intro fs
    induction fs with
    | nil => intro n ls b e W _ cs _; simp [ckFs]
    | cons f fs ihf =>
      intro n ls b e W h cs hl
      unfold cmpF cmpFs at h
      split at h
      case isFalse => cases h
      case isTrue hc =>
        obtain ⟨ho, hn⟩ := hc
        cases hm : cmpT P (d + 1) f.type with
        | none => rw [hm] at h; cases h
        | some m =>
          rw [hm] at h
          simp only at h
          split at h
          case isFalse => cases h
          case isTrue hsz =>
            cases hr : cmpFs P (cmpT P (d + 1)) (n + m.length) fs with
            | none => rw [hr] at h; cases h
            | some rr =>
              rw [hr] at h
              simp only [Option.some.injEq] at h
              subst h
              simp at hl
              have h2 := ihf (n + m.length) rr b e W hr cs (by omega)
              have h1 := hT f.type m b e W hm
              have key : ∃ p, (part f.type cs.toArray f.offset).run P W = .ok p W ∧ (Instr.checkKey b (d + 1 + e) f.type p).run P W = .ok () W := by
                have hagg : isAggB P f.type true = true ∨ (isAggB P f.type false = true ∧ m.length = 1) := by
                  unfold cmpT at hm
                  cases hun : P.underlying f.type with
                  | none => rw [hun] at hm; cases hm
                  | some dd => rw [hun] at hm; cases dd <;> simp at hm <;> first | (left; simp [isAggB, hun]; done) | (right; subst hm; simp [isAggB, hun])
                rcases hagg with hg | ⟨hg, hm1⟩
                · refine ⟨_, run_part_agg hg hsz _ _ W, ?_⟩
                  have h3 := h1.1 hg ((cs.drop n).take m.length) (by simp; omega)
                  rw [ho]
                  simpa [List.extract_eq_take_drop, List.extract_toArray] using h3
                · have hlt : n < cs.length := by omega
                  rw [ho]
                  exact ⟨cs[n], run_part_one hg cs n (List.getElem?_eq_getElem hlt) W, h1.2 hg _⟩
              obtain ⟨p, k1, k2⟩ := key
              simp only [ckFs, hn, ne_eq, not_false_eq_true, if_true, Sem.run_bind, k1, k2, Result.andThen_ok]
              exact h2

/-- The first entry whose key is equal. -/
def lookL (ls : List Lf) (xs : List V) : List (List V) → Nat → Option (Option Nat)
  | [], _ => some none
  | ys :: rest, i => match eqsV ls xs ys with
    | some true => some (some i)
    | some false => lookL ls xs rest (i + 1)
    | none => none

theorem run_findAsking {P : Program} {t : TypeId} {ls : List Lf} (hc : TCmp P t ls) {w : World} {I I' : Nat → Prop} {xs : List V} {vs : List Value} (hv : VReps w I xs vs) (W : World) :
    ∀ (es : List MapEntry) (kss : List (List V)) (i : Nat) (r : Option Nat), es.length = kss.length → (∀ (j : Nat) e ys, es[j]? = some e → kss[j]? = some ys → ∃ us, e.key = .agg us ∧ VReps w I' ys us.toList) → lookL ls xs kss i = some r →
      (Instr.findAsking t (.agg vs.toArray) es i).run P W = .ok (r.bind fun j => (es[j - i]?).map fun e => (j, e.val)) W ∧ ∀ j, r = some j → i ≤ j ∧ j - i < es.length
  | [], kss, i, r, hl, _, h => by
    cases kss with
    | nil => simp [lookL] at h; subst h; simp [Instr.findAsking]
    | cons => simp at hl
  | e :: es, kss, i, r, hl, hk, h => by
    cases kss with
    | nil => simp at hl
    | cons ys kss =>
      obtain ⟨us, hus, hu⟩ := hk 0 e ys rfl rfl
      simp only [lookL] at h
      have he : ∀ q, eqsV ls xs ys = some q → (Op.equal t (.agg vs.toArray) e.key).run P W = .ok q W := fun q hq => by
        have := run_eq_struct hc hq hv hu W
        rw [hus]
        simpa [Op.equal, Op.maxDepth] using this
      cases hq : eqsV ls xs ys with
      | none => rw [hq] at h; cases h
      | some q =>
        rw [hq] at h
        cases q with
        | true =>
          simp only [Option.some.injEq] at h
          subst h
          refine ⟨?_, fun j hj => by cases hj; simp⟩
          simp [Instr.findAsking, Sem.run_bind, he true hq, Result.andThen]
        | false =>
          simp only at h
          obtain ⟨h1, h2⟩ := run_findAsking hc hv W es kss (i + 1) r (by simpa using hl) (fun j e' ys' a b => hk (j + 1) e' ys' (by simpa using a) (by simpa using b)) h
          refine ⟨?_, fun j hj => by obtain ⟨a, b⟩ := h2 j hj; simp; omega⟩
          simp only [Instr.findAsking, Sem.run_bind, he false hq, Result.andThen_ok, Bool.false_eq_true, if_false, h1]
          cases r with
          | none => rfl
          | some j =>
            obtain ⟨a, b⟩ := h2 j rfl
            have : j - i = (j - (i + 1)) + 1 := by omega
            simp [this]

theorem TCmp.struct {P : Program} {t : TypeId} {ls : List Lf} (hc : TCmp P t ls) : ∃ fs, P.underlying t = some (.struct fs) := by
  obtain ⟨⟨d, _, hcm⟩, hag, _⟩ := hc.h
  cases d with
  | zero => simp [cmpT] at hcm
  | succ d =>
    unfold cmpT at hcm
    cases hun : P.underlying t with
    | none => rw [hun] at hcm; cases hcm
    | some dd =>
      rw [hun] at hcm
      cases dd <;> simp at hcm <;> first | (simp [isAggB, hun] at hag; done) | exact ⟨_, rfl⟩

theorem run_findKey {P : Program} {t : TypeId} {ls : List Lf} (hc : TCmp P t ls) {w : World} {I I' : Nat → Prop} {xs : List V} {vs : List Value} (hv : VReps w I xs vs) (W : World) (es : List MapEntry) (kss : List (List V)) (r : Option Nat) (hl : es.length = kss.length)
    (hk : ∀ (j : Nat) e ys, es[j]? = some e → kss[j]? = some ys → ∃ us, e.key = .agg us ∧ VReps w I' ys us.toList) (h : lookL ls xs kss 0 = some r) :
    (Instr.findKey t (.agg vs.toArray) es).run P W = .ok (r.bind fun j => (es[j]?).map fun e => (j, e.val)) W ∧ ∀ j, r = some j → j < es.length := by
  obtain ⟨fs, hun⟩ := hc.struct
  obtain ⟨h1, h2⟩ := run_findAsking hc hv W es kss 0 r hl hk h
  refine ⟨?_, fun j hj => by have := (h2 j hj).2; simpa using this⟩
  simp only [Nat.sub_zero] at h1
  cases es with
  | nil =>
    cases r with
    | none => simp [Instr.findKey, Instr.findNow, run_underlying hun, Result.andThen]
    | some j => exact absurd (h2 j rfl).2 (by simp)
  | cons e es =>
    have hn : Instr.findNow (.struct fs) (.agg vs.toArray) (e :: es) 0 = none := by simp [Instr.findNow, Instr.sameNow]
    simp only [Instr.findKey, Sem.run_bind, run_underlying hun, Result.andThen_ok, hn]
    exact h1

theorem run_checkKey_cmp {P : Program} {t : TypeId} {ls : List Lf} (hc : TCmp P t ls) (b : Bool) {vs : List Value} (hl : vs.length = ls.length) (W : World) : (Instr.checkKey b 10000 t (.agg vs.toArray)).run P W = .ok () W := by
  obtain ⟨⟨d, hd, hcm⟩, hag, _⟩ := hc.h
  have := ((run_checkKey (P := P) d).1 t ls b (10000 - d) W hcm).1 hag vs hl
  rwa [show d + (10000 - d) = 10000 by omega] at this
end Bf
