/- The engine, part 15: maps of the call's own. No program is named here. -/
import Derived.MapKept
import Derived.Test.YtedblpbpoekdlaaF14
namespace Bf
open Go Go.RowKit
open Go.MapKept (run_getObj_map run_setObj_map)

def leafT (P : Program) (t : TypeId) : Lf → Prop
  | .int => ∃ k, P.underlying t = some (.int k)
  | .bool => P.underlying t = some .bool
  | .str => P.underlying t = some .string
/-- A type that keys may have: a struct that is compared leaf by leaf, or one leaf. -/
class TKey (P : Program) (t : TypeId) (ag : outParam Bool) (ls : outParam (List Lf)) : Prop where
  h : (ag = true ∧ TCmp P t ls) ∨ (ag = false ∧ ∃ l, ls = [l] ∧ leafT P t l)

theorem bytes_eq {a b : ByteArray} (h : (a.toList == b.toList) = true) : a = b := by
  have h : a.toList = b.toList := by simpa using h
  rw [ByteArray.toList_eq, ByteArray.toList_eq] at h
  cases a; cases b
  simpa [Array.toList_inj] using h
theorem bytes_data (a b : ByteArray) : (a == b) = (a.data == b.data) := by cases a; cases b; rfl
theorem bytes_beq (a b : ByteArray) : (a == b) = (a.toList == b.toList) := by
  rw [Bool.eq_iff_iff]
  refine ⟨fun h => ?_, fun h => ?_⟩
  · rw [bytes_data] at h
    rw [ByteArray.toList_eq, ByteArray.toList_eq]
    simpa using h
  · rw [bytes_eq h, bytes_data]
    simp

theorem leaf_same {l : Lf} {x y : V} (h : leafEq l x y = some true) {w w' : World} {I I' : Nat → Prop} {v u : Value} (hx : VRep w I x v) (hy : VRep w' I' y u) : v = u ∧ ∀ n, Instr.sameBits n v v = true := by
  cases l <;> cases x <;> cases y <;> simp [leafEq] at h
  · obtain ⟨h1, h2⟩ := h
    subst h1; subst h2
    rw [hx.i_inv, hy.i_inv]
    exact ⟨rfl, fun n => by cases n <;> simp [Instr.sameBits]⟩
  · subst h
    rw [hx.b_inv, hy.b_inv]
    exact ⟨rfl, fun n => by cases n <;> simp [Instr.sameBits]⟩
  · have := bytes_eq (by simpa using h)
    subst this
    rw [hx.s_inv, hy.s_inv]
    exact ⟨rfl, fun n => by cases n <;> simp [Instr.sameBits, bytes_data]⟩

theorem eqs_same : ∀ {ls : List Lf} {xs ys : List V} {w w' : World} {I I' : Nat → Prop} {vs us : List Value}, eqsV ls xs ys = some true → VReps w I xs vs → VReps w' I' ys us → vs = us ∧ ∀ u ∈ us, ∀ n, Instr.sameBits n u u = true
  | [], [], [], _, _, _, _, vs, us, _, hx, hy => by rw [hx.nil_inv, hy.nil_inv]; simp
  | l :: ls, x :: xs, y :: ys, _, _, _, _, vs, us, h, hx, hy => by
    obtain ⟨v, vs', rfl, hv, hvs⟩ := hx.cons_inv
    obtain ⟨u, us', rfl, hu, hus⟩ := hy.cons_inv
    simp only [eqsV] at h
    cases h1 : leafEq l x y with
    | none => rw [h1] at h; cases h
    | some a =>
      cases h2 : eqsV ls xs ys with
      | none => rw [h1, h2] at h; cases h
      | some b =>
        rw [h1, h2] at h
        simp at h
        obtain ⟨rfl, rfl⟩ := h
        obtain ⟨rfl, g1⟩ := leaf_same h1 hv hu
        obtain ⟨rfl, g2⟩ := eqs_same h2 hvs hus
        exact ⟨rfl, fun z hz n => by rcases List.mem_cons.1 hz with rfl | hz; exact g1 n; exact g2 z hz n⟩
  | [], [], _ :: _, _, _, _, _, _, _, h, _, _ => by simp [eqsV] at h
  | [], _ :: _, _, _, _, _, _, _, _, h, _, _ => by simp [eqsV] at h
  | _ :: _, [], _, _, _, _, _, _, _, h, _, _ => by simp [eqsV] at h
  | _ :: _, _ :: _, [], _, _, _, _, _, _, h, _, _ => by simp [eqsV] at h

/-- A value of a key reads, cell by cell. -/
theorem key_cells {w : World} {I : Nat → Prop} {x : V} {v : Value} (h : VRep w I x v) (hp : x.plain = true) : (x.isSt = true → ∃ vs : List Value, v = .agg vs.toArray ∧ VReps w I (V.cells x) vs) ∧ (x.isSt = false → VReps w I (V.cells x) [v]) := by
  refine ⟨fun hs => ?_, fun hs => ?_⟩
  · cases x <;> simp [V.isSt] at hs
    obtain ⟨vs, rfl, h1, _⟩ := h.st_inv
    exact ⟨vs, rfl, h1⟩
  · cases x <;> simp [V.isSt, V.plain] at hs hp <;> exact .cons h .nil

theorem same_key {ls : List Lf} {x y : V} {w w' : World} {I I' : Nat → Prop} {v u : Value} (he : eqsV ls (V.cells x) (V.cells y) = some true) (hs : x.isSt = y.isSt) (hx : VRep w I x v) (hy : VRep w' I' y u) (px : x.plain = true) (py : y.plain = true) : v = u ∧ Instr.sameBits 10000 v v = true := by
  obtain ⟨a1, a2⟩ := key_cells hx px
  obtain ⟨b1, b2⟩ := key_cells hy py
  cases hxs : x.isSt with
  | true =>
    obtain ⟨vs, rfl, g1⟩ := a1 hxs
    obtain ⟨us, rfl, g2⟩ := b1 (hs ▸ hxs)
    obtain ⟨rfl, g3⟩ := eqs_same he g1 g2
    refine ⟨rfl, ?_⟩
    simp only [Instr.sameBits, beq_self_eq_true, Bool.true_and, List.all_eq_true, List.toList_toArray]
    intro p hp
    have := List.of_mem_zip hp
    have e : p.1 = p.2 := by
      have : ∀ (l : List Value) (p : Value × Value), p ∈ l.zip l → p.1 = p.2 := fun l => by
        induction l with
        | nil => simp
        | cons a l ih => intro p hp; rcases List.mem_cons.1 hp with rfl | hp; rfl; exact ih p hp
      exact this _ _ hp
    rw [← e]
    exact g3 _ this.1 _
  | false =>
    obtain ⟨e, g3⟩ := eqs_same he (a2 hxs) (b2 (hs ▸ hxs))
    cases e
    exact ⟨rfl, g3 _ (by simp) _⟩

/-- The first entry whose key is equal, of one leaf. -/
theorem run_findNow {P : Program} {t : TypeId} {l : Lf} (hl : leafT P t l) {d : TypeDesc} (hd : P.underlying t = some d) {x : V} {v : Value} {w : World} {I I' : Nat → Prop} (hx : VRep w I x v) (hsx : x.isSt = false) (hpx : x.plain = true) :
    ∀ (es : List MapEntry) (ks : List V) (i : Nat) (r : Option Nat), es.length = ks.length → (∀ (j : Nat) e y, es[j]? = some e → ks[j]? = some y → VRep w I' y e.key ∧ y.isSt = false ∧ y.plain = true) → lookL [l] (V.cells x) (ks.map V.cells) i = some r →
      Instr.findNow d v es i = some (r.bind fun j => (es[j - i]?).map fun e => (j, e.val)) ∧ ∀ j, r = some j → i ≤ j ∧ j - i < es.length
  | [], ks, i, r, hlen, _, h => by
    cases ks with
    | nil => simp [lookL] at h; subst h; simp [Instr.findNow]
    | cons => simp at hlen
  | e :: es, ks, i, r, hlen, hk, h => by
    cases ks with
    | nil => simp at hlen
    | cons y ks =>
      obtain ⟨hy, hsy, hpy⟩ := hk 0 e y rfl rfl
      have cx : V.cells x = [x] := by cases x <;> simp_all [V.cells, V.isSt]
      have cy : V.cells y = [y] := by cases y <;> simp_all [V.cells, V.isSt]
      have hs : ∀ q, leafEq l x y = some q → Instr.sameNow d v e.key = some q := fun q hq => by
        cases l <;> cases x <;> cases y <;> simp [leafEq] at hq
        · obtain ⟨k0, hk0⟩ := hl
          rw [hd] at hk0; cases hk0
          rw [hx.i_inv, hy.i_inv]
          simp [Instr.sameNow, hq]
        · have hl : P.underlying t = some .bool := hl
          rw [hd] at hl; cases hl
          rw [hx.b_inv, hy.b_inv]
          simp [Instr.sameNow, hq]
        · have hl : P.underlying t = some .string := hl
          rw [hd] at hl; cases hl
          rw [hx.s_inv, hy.s_inv]
          simp only [Instr.sameNow, bytes_beq, hq]
      simp only [List.map_cons, lookL, cx, cy, eqsV] at h
      cases hq : leafEq l x y with
      | none => rw [hq] at h; cases h
      | some q =>
        rw [hq] at h
        cases q with
        | true =>
          simp at h
          subst h
          refine ⟨?_, fun j hj => by cases hj; simp⟩
          simp [Instr.findNow, hs true hq]
        | false =>
          simp only [Bool.and_true] at h
          obtain ⟨h1, h2⟩ := run_findNow hl hd hx hsx hpx es ks (i + 1) r (by simpa using hlen) (fun j e' y' a b => hk (j + 1) e' y' (by simpa using a) (by simpa using b)) (by rw [cx]; exact h)
          refine ⟨?_, fun j hj => by obtain ⟨a, b⟩ := h2 j hj; simp; omega⟩
          simp only [Instr.findNow, hs false hq, h1]
          cases r with
          | none => rfl
          | some j =>
            obtain ⟨a, b⟩ := h2 j rfl
            have : j - i = (j - (i + 1)) + 1 := by omega
            simp [this]

theorem checkKey_leaf {P : Program} {t : TypeId} {d : TypeDesc} (hd : P.underlying t = some d) (hk : (∃ k, d = .int k) ∨ d = .bool ∨ d = .string) {b : Bool} {v : Value} (W : World) : (Instr.checkKey b 10000 t v).run P W = .ok () W := by
  show (Instr.checkKey b (9999 + 1) t v).run P W = .ok () W
  unfold Instr.checkKey
  rcases hk with ⟨k, rfl⟩ | rfl | rfl <;> simp [run_underlying hd, Result.andThen]
section
variable {P : Program} {t : TypeId} {ag : Bool} {ls : List Lf}
theorem key_find (hc : TKey P t ag ls) {w : World} {I I' : Nat → Prop} {x : V} {v : Value} (hx : VRep w I x v) (hsx : x.isSt = ag) (hpx : x.plain = true) (W : World) (es : List MapEntry) (ks : List V) (r : Option Nat) (hlen : es.length = ks.length)
    (hk : ∀ (j : Nat) e y, es[j]? = some e → ks[j]? = some y → VRep w I' y e.key ∧ y.isSt = ag ∧ y.plain = true) (h : lookL ls (V.cells x) (ks.map V.cells) 0 = some r) :
    (Instr.findKey t v es).run P W = .ok (r.bind fun j => (es[j]?).map fun e => (j, e.val)) W ∧ ∀ j, r = some j → j < es.length := by
  rcases hc.h with ⟨hag, hc'⟩ | ⟨hag, l, hls, hlf⟩ <;> subst hag
  · obtain ⟨vs, rfl, g1⟩ := (key_cells hx hpx).1 hsx
    refine run_findKey (I' := I') hc' g1 W es (ks.map V.cells) r (by simpa using hlen) (fun j e ys he hy => ?_) h
    rw [List.getElem?_map] at hy
    cases hkj : ks[j]? with
    | none => rw [hkj] at hy; cases hy
    | some y =>
      rw [hkj] at hy; cases hy
      obtain ⟨a1, a2, a3⟩ := hk j e y he hkj
      obtain ⟨us, e1, g2⟩ := (key_cells a1 a3).1 a2
      exact ⟨us.toArray, e1, by simpa using g2⟩
  · subst hls
    obtain ⟨d, hd⟩ : ∃ d, P.underlying t = some d := by
      cases l
      · obtain ⟨k, hk⟩ := hlf; exact ⟨_, hk⟩
      · exact ⟨_, hlf⟩
      · exact ⟨_, hlf⟩
    obtain ⟨h1, h2⟩ := run_findNow hlf hd hx hsx hpx es ks 0 r hlen hk h
    refine ⟨?_, fun j hj => by simpa using (h2 j hj).2⟩
    simp only [Nat.sub_zero] at h1
    simp only [Instr.findKey, Sem.run_bind, run_underlying hd, Result.andThen_ok, h1, Sem.run_pure]
theorem key_check (hc : TKey P t ag ls) (b : Bool) {w : World} {I : Nat → Prop} {x : V} {v : Value} (hx : VRep w I x v) (hsx : x.isSt = ag) (hpx : x.plain = true) (hl : (V.cells x).length = ls.length) (W : World) : (Instr.checkKey b 10000 t v).run P W = .ok () W := by
  rcases hc.h with ⟨hag, hc'⟩ | ⟨hag, l, hls, hlf⟩ <;> subst hag
  · obtain ⟨vs, rfl, g1⟩ := (key_cells hx hpx).1 hsx
    exact run_checkKey_cmp hc' b (by rw [← g1.1]; exact hl) W
  · cases l
    · obtain ⟨k, hk⟩ := hlf
      exact checkKey_leaf hk (by simp) W
    · have hk : P.underlying t = some .bool := hlf
      exact checkKey_leaf hk (by simp) W
    · have hk : P.underlying t = some .string := hlf
      exact checkKey_leaf hk (by simp) W
end

theorem vrep_t {w : World} {I : Nat → Prop} {xs : List V} {vs : List Value} (h : VReps w I xs vs) : VRep w I (.t xs) (.tuple vs.toArray) := .t xs vs h.1 h.2

section
variable {P : Program} {N : Rm} {σ : St} {dst : Nat} {t tt ty : TypeId} {pos : String} {af : Array Edge} {g : Option (Nat × Bool)} {x y y2 : Operand} {d : D} {d' : V} {f f1 f2 : Bool}

theorem e_makeMap {kt et : TypeId} {ag : Bool} {ls : List Lf} (k i : Nat) [ht : TMap P t kt et] [hc : TKey P kt ag ls] (hN : N.can dst = true) :
    Eff P N ⟨some dst, .makeMap t none, tt, pos, af, g⟩ σ (laid σ dst k i 0 (.mp true ag []) (fun b => .m k i b)) :=
  ⟨rfl, fun _ h => laid_gh h, fun C hCN I a w h => by
    subst hCN
    simp only [execOp, Option.map_none, Instr.makeMap, Sem.run_bind, Sem.run_pure, Result.andThen_ok, run_newObj]
    exact ⟨_, I, ⟨w.heap.size, rfl⟩, (h.lay k i 0 (.mp true ag []) (keeps_alloc w (.map #[] 0)) (by simp) ⟨w.heap.size, 0, [], 0, rfl, heap_alloc_new w _, rfl, by simp, by simp, by simp, .nil⟩).gput (.m _ _ _) hN⟩⟩
theorem zeroE_rep {w : World} {I : Nat → Prop} {v : Value} (h : oneAll v = true) : VRep w I (zeroE v) v := by
  obtain ⟨h1, h2⟩ := zeroV_reps (w := w) (I := I) h
  cases v with
  | agg cs => have := VRep.st_of h1 h2; simpa [zeroE, zeroV, Value.cells] using this
  | _ => simp only [zeroV] at h1; obtain ⟨u, us, e, g1, _⟩ := h1.cons_inv; simp [Value.cells] at e; rw [← e.1] at g1; exact g1
/-- What a map holds for a key. -/
def mapGet (xs : List (V × V)) (z : V) : Option Nat → V
  | some j => match xs[j]? with | some p => p.2 | none => z
  | none => z

theorem q_lookup {hp : Hp} {ev : Operand → Option D} {dst : Option Nat} {kt et : TypeId} {ag : Bool} {ls : List Lf} {zv : Value} {k i b n : Nat} {xs : List (V × V)} {kv : V} {r : Option Nat} [ht : TMap P t kt et] [hc : TKey P kt ag ls] [hz : TZero P et zv] (hx : ev x = some (.m k i b)) (hk : hp k i = some (some (b, n), .mp f ag xs)) (hy : ev y = some (.v f2 kv))
    (hl : lookL ls (V.cells kv) (xs.map fun p => V.cells p.1) 0 = some r) (hs : kv.isSt = ag) (hpl : kv.plain = true) (hn : (V.cells kv).length = ls.length) (h1 : oneAll zv = true) (hd : mapGet xs (zeroE zv) r = d') :
    Quiet P hp ev ⟨dst, .lookup t x y false, tt, pos, af, g⟩ (.v f d') :=
  Quiet.of ⟨rfl, fun C I w ρ hw hρ => by
    have e2 := (hρ x (by simp [Op.operands]) _ hx).m_inv
    obtain ⟨b', n', es, clock, e3, e4, hm⟩ := hw.own k i _ _ hk
    cases e3
    have hkv := (hρ y (by simp [Op.operands]) _ hy).v_inv
    obtain ⟨g1, g2⟩ := key_find (P := P) (t := kt) (ag := ag) (ls := ls) hc hkv hs hpl w es (xs.map (·.1)) r (by simp [hm.len]) (fun j e y he hy => by
      rw [List.getElem?_map] at hy
      cases hxj : xs[j]? with
      | none => rw [hxj] at hy; cases hy
      | some p => rw [hxj] at hy; cases hy; exact ⟨(hm.rep j p e hxj he).1, (hm.kind p (List.mem_of_getElem? hxj)).1, (hm.kind p (List.mem_of_getElem? hxj)).2.1⟩) (by simpa [List.map_map, Function.comp_def] using hl)
    have g3 := key_check (P := P) (t := kt) (ag := ag) (ls := ls) hc es.toArray.isEmpty hkv hs hpl hn w
    have hzz := hz.h
    cases hi : P.info? et with
    | none => rw [hi] at hzz; cases hzz
    | some ii =>
    rw [hi] at hzz
    simp only [Option.bind_some] at hzz
    simp only [execOp, Instr.lookup, e2, Sem.run_bind, run_underlying ht.h, Result.andThen_ok, run_getObj_map e4, Sem.run_pure, g3, g1]
    subst hd
    cases r with
    | none =>
      simp only [Option.bind_none, zeroValue, typeInfo, Sem.run_bind, run_program, Sem.run_pure, Result.andThen_ok, hi, hzz]
      exact ⟨rfl, .v _ _ _ (zeroE_rep h1)⟩
    | some j =>
      have hj := g2 j rfl
      have hj' : j < xs.length := by rw [← hm.len]; exact hj
      simp only [Option.bind_some, List.getElem?_eq_getElem hj, Option.map_some, Sem.run_pure, Result.andThen_ok]
      refine ⟨rfl, .v _ _ _ ?_⟩
      simp only [mapGet, List.getElem?_eq_getElem hj']
      exact (hm.rep j _ _ (List.getElem?_eq_getElem hj') (List.getElem?_eq_getElem hj)).2⟩
theorem q_lookup_ok {hp : Hp} {ev : Operand → Option D} {dst : Option Nat} {kt et : TypeId} {ag : Bool} {ls : List Lf} {zv : Value} {k i b n : Nat} {xs : List (V × V)} {kv : V} {r : Option Nat} [ht : TMap P t kt et] [hc : TKey P kt ag ls] [hz : TZero P et zv] (hx : ev x = some (.m k i b)) (hk : hp k i = some (some (b, n), .mp f ag xs)) (hy : ev y = some (.v f2 kv))
    (hl : lookL ls (V.cells kv) (xs.map fun p => V.cells p.1) 0 = some r) (hs : kv.isSt = ag) (hpl : kv.plain = true) (hn : (V.cells kv).length = ls.length) (h1 : oneAll zv = true) (hd : mapGet xs (zeroE zv) r = d') :
    Quiet P hp ev ⟨dst, .lookup t x y true, tt, pos, af, g⟩ (.v f (.t [d', .b r.isSome])) :=
  Quiet.of ⟨rfl, fun C I w ρ hw hρ => by
    have e2 := (hρ x (by simp [Op.operands]) _ hx).m_inv
    obtain ⟨b', n', es, clock, e3, e4, hm⟩ := hw.own k i _ _ hk
    cases e3
    have hkv := (hρ y (by simp [Op.operands]) _ hy).v_inv
    obtain ⟨g1, g2⟩ := key_find (P := P) (t := kt) (ag := ag) (ls := ls) hc hkv hs hpl w es (xs.map (·.1)) r (by simp [hm.len]) (fun j e y he hy => by
      rw [List.getElem?_map] at hy
      cases hxj : xs[j]? with
      | none => rw [hxj] at hy; cases hy
      | some p => rw [hxj] at hy; cases hy; exact ⟨(hm.rep j p e hxj he).1, (hm.kind p (List.mem_of_getElem? hxj)).1, (hm.kind p (List.mem_of_getElem? hxj)).2.1⟩) (by simpa [List.map_map, Function.comp_def] using hl)
    have g3 := key_check (P := P) (t := kt) (ag := ag) (ls := ls) hc es.toArray.isEmpty hkv hs hpl hn w
    have hzz := hz.h
    cases hi : P.info? et with
    | none => rw [hi] at hzz; cases hzz
    | some ii =>
    rw [hi] at hzz
    simp only [Option.bind_some] at hzz
    simp only [execOp, Instr.lookup, e2, Sem.run_bind, run_underlying ht.h, Result.andThen_ok, run_getObj_map e4, Sem.run_pure, g3, g1]
    subst hd
    cases r with
    | none =>
      simp only [Option.bind_none, zeroValue, typeInfo, Sem.run_bind, run_program, Sem.run_pure, Result.andThen_ok, hi, hzz]
      exact ⟨rfl, .v _ _ _ (vrep_t (.cons (zeroE_rep h1) (.cons (.b _) .nil)))⟩
    | some j =>
      have hj := g2 j rfl
      have hj' : j < xs.length := by rw [← hm.len]; exact hj
      simp only [Option.bind_some, List.getElem?_eq_getElem hj, Option.map_some, Sem.run_pure, Result.andThen_ok]
      refine ⟨rfl, .v _ _ _ ?_⟩
      simp only [mapGet, List.getElem?_eq_getElem hj']
      exact vrep_t (.cons (hm.rep j _ _ (List.getElem?_eq_getElem hj') (List.getElem?_eq_getElem hj)).2 (.cons (.b _) .nil))⟩
theorem q_len_m {hp : Hp} {ev : Operand → Option D} {dst : Option Nat} {kt et : TypeId} {ag : Bool} {k i b n : Nat} {xs : List (V × V)} [ht : TMap P t kt et] (hx : ev x = some (.m k i b)) (hk : hp k i = some (some (b, n), .mp f ag xs)) :
    Quiet P hp ev ⟨dst, .call { callee := .builtin .len, args := #[x], argTypes := #[t] }, tt, pos, af, g⟩ (.v true (.i .i64 (xs.length : Nat))) :=
  Quiet.of ⟨rfl, fun C I w ρ hw hρ => by
    have e2 := (hρ x (by simp [Op.operands, Call.operands]) _ hx).m_inv
    obtain ⟨b', n', es, clock, e3, e4, hm⟩ := hw.own k i _ _ hk
    cases e3
    simp [execOp, resolve, invoke, builtin, e2, Builtin.len_, run_underlying ht.h, run_getObj_map e4, Result.andThen, QRes, goInt, hm.len]
    exact .v _ _ _ (.i _ _)⟩

/-- What a map holds behind an update. -/
def mapPut (xs : List (V × V)) (kv y : V) : Option Nat → List (V × V)
  | some j => xs.set j (kv, y)
  | none => xs ++ [(kv, y)]

theorem MapRep.put {w : World} {I : Nat → Prop} {ag : Bool} {xs : List (V × V)} {es : List MapEntry} {clock : Nat} (h : MapRep w I ag xs es clock) {kv y : V} {v u : Value} (hk : kv.isSt = ag ∧ kv.plain = true ∧ y.plain = true) (hv : VRep w I kv v) (hu : VRep w I y u) :
    MapRep w I ag (xs ++ [(kv, y)]) (es ++ [{ key := v, val := u, born := clock }]) (clock + 1) where
  len := by simp [h.len]
  kind := fun p hp => by simp at hp; rcases hp with hp | rfl; exact h.kind p hp; exact hk
  rep := fun i p e hp he => by
    have := h.len
    by_cases hi : i < xs.length
    · rw [List.getElem?_append_left hi] at hp; rw [List.getElem?_append_left (by omega)] at he; exact h.rep i p e hp he
    · rw [List.getElem?_append_right (by omega)] at hp; rw [List.getElem?_append_right (by omega), this] at he
      cases hj : i - xs.length with
      | zero => rw [hj] at hp he; simp at hp he; subst hp; subst he; exact ⟨hv, hu⟩
      | succ j => rw [hj] at hp; simp at hp
  born := fun e he => by simp at he; rcases he with he | rfl; exact Nat.lt_succ_of_lt (h.born e he); exact Nat.lt_succ_self _
  dist := by
    rw [List.pairwise_append]
    exact ⟨h.dist, List.pairwise_singleton _ _, fun a ha b hb => by simp at hb; subst hb; exact Nat.ne_of_lt (h.born a ha)⟩
theorem MapRep.set {w : World} {I : Nat → Prop} {ag : Bool} {xs : List (V × V)} {es : List MapEntry} {clock : Nat} (h : MapRep w I ag xs es clock) {kv y : V} {v u : Value} {j : Nat} (hk : kv.isSt = ag ∧ kv.plain = true ∧ y.plain = true) (hv : VRep w I kv v) (hu : VRep w I y u) :
    MapRep w I ag (xs.set j (kv, y)) (es.modify j fun e => { e with key := v, val := u }) clock where
  len := by simp [h.len]
  kind := fun p hp => by rcases List.mem_or_eq_of_mem_set hp with hp | rfl; exact h.kind p hp; exact hk
  rep := fun i p e hp he => by
    rw [List.getElem?_set] at hp
    rw [List.getElem?_modify] at he
    by_cases hi : j = i
    · subst hi
      simp only [if_true] at hp he
      split at hp
      · cases hp
        cases hes : es[j]? with
        | none => rw [hes] at he; simp at he
        | some e0 => rw [hes] at he; simp at he; subst he; exact ⟨hv, hu⟩
      · cases hp
    · rw [if_neg hi] at hp
      cases hes : es[i]? with
      | none => rw [hes] at he; simp at he
      | some e0 => rw [hes] at he; simp [hi] at he; subst he; exact h.rep i p e0 hp hes
  born := fun e he => by
    obtain ⟨i, hi⟩ := List.getElem?_of_mem he
    rw [List.getElem?_modify] at hi
    cases hes : es[i]? with
    | none => rw [hes] at hi; simp at hi
    | some e0 =>
      rw [hes] at hi
      have := h.born e0 (List.mem_of_getElem? hes)
      simp at hi
      subst hi
      split <;> exact this
  dist := by
    rw [List.pairwise_iff_getElem]
    intro a b ha hb hab
    simp at ha hb
    have := List.pairwise_iff_getElem.1 h.dist a b ha hb hab
    simp only [List.getElem_modify]
    split <;> split <;> simpa using this

theorem putObj_facts {w : World} {b : Nat} (o : Obj) : (w.putObj b o).os = w.os ∧ (w.putObj b o).tape = w.tape ∧ (w.putObj b o).output = w.output ∧ (w.putObj b o).heap.size = w.heap.size := ⟨rfl, rfl, rfl, by simp [World.putObj]⟩

theorem e_mapUpdate {dd : Option Nat} {kt et : TypeId} {ag : Bool} {ls : List Lf} {k i b n : Nat} {xs : List (V × V)} {kv e : V} {r : Option Nat} [ht : TMap P t kt et] [hc : TKey P kt ag ls] (hx : σ.ev x = some (.m k i b)) (hk : σ.hp k i = some (some (b, n), .mp f ag xs)) (hy : σ.ev y = some (.v f1 kv)) (hz : σ.ev y2 = some (.v f2 e))
    (hl : lookL ls (V.cells kv) (xs.map fun p => V.cells p.1) 0 = some r) (hs : kv.isSt = ag) (hpl : kv.plain = true) (hn : (V.cells kv).length = ls.length) (hpe : e.plain = true) (hd : dd = none) :
    Eff P N ⟨dd, .mapUpdate t x y y2, tt, pos, af, g⟩ σ (fun σ' => σ' = σ.setH k i (some (some (b, n), (.mp (f && (f1 && f2)) ag (mapPut xs kv e r))))) :=
  ⟨rfl, fun _ e => by rw [e]; rfl, fun C hCN I a w h => by
    subst hCN
    subst hd
    have e2 := (h.ev hx).m_inv
    obtain ⟨b', n', es, clock, e3, e4, hm⟩ := h.wok.own k i _ _ hk
    cases e3
    have hkv := (h.ev hy).v_inv
    have hev := (h.ev hz).v_inv
    obtain ⟨g1, g2⟩ := key_find (P := P) (t := kt) (ag := ag) (ls := ls) hc hkv hs hpl w es (xs.map (·.1)) r (by simp [hm.len]) (fun j e y he hy => by
      rw [List.getElem?_map] at hy
      cases hxj : xs[j]? with
      | none => rw [hxj] at hy; cases hy
      | some p => rw [hxj] at hy; cases hy; exact ⟨(hm.rep j p e hxj he).1, (hm.kind p (List.mem_of_getElem? hxj)).1, (hm.kind p (List.mem_of_getElem? hxj)).2.1⟩) (by simpa [List.map_map, Function.comp_def] using hl)
    have g3 := key_check (P := P) (t := kt) (ag := ag) (ls := ls) hc false hkv hs hpl hn w
    have hI : ∀ o, ∀ b', I b' → (w.putObj b o).heap[b']? = w.heap[b']? := fun o b' hb' => World.putObj_heap_other (fun e' => (h.wok.owned k i b n _ hk).2.1 (e' ▸ hb'))
    have hlt : b < w.heap.size := (Array.getElem?_eq_some_iff.1 e4).1
    have hm' : ∀ o, MapRep (w.putObj b o) (fresh (f && (f1 && f2)) I C.base) ag xs es clock := fun o => hm.mono (fun b' hb' => hI o b' hb'.1) (fun b' hb' => ⟨hb'.1, fun e => hb'.2 (by simp at e; exact e.1)⟩)
    have hkv' : ∀ o, VRep (w.putObj b o) (fresh (f && (f1 && f2)) I C.base) kv (a.eval y) := fun o => hkv.mono (fun b' hb' => hI o b' hb'.1) (fun b' hb' => ⟨hb'.1, fun e => hb'.2 (by simp at e; exact e.2.1)⟩)
    have hev' : ∀ o, VRep (w.putObj b o) (fresh (f && (f1 && f2)) I C.base) e (a.eval y2) := fun o => hev.mono (fun b' hb' => hI o b' hb'.1) (fun b' hb' => ⟨hb'.1, fun e => hb'.2 (by simp at e; exact e.2.2)⟩)
    have fin : ∀ (es' : List MapEntry) (clock' : Nat), MapRep (w.putObj b (.map es'.toArray clock')) (fresh (f && (f1 && f2)) I C.base) ag (mapPut xs kv e r) es' clock' → ∃ I', Holds C (σ.setH k i (some (some (b, n), (.mp (f && (f1 && f2)) ag (mapPut xs kv e r))))) I' a (w.putObj b (.map es'.toArray clock')) := fun es' clock' hmr => by
      obtain ⟨k1, k2, k3, k4⟩ := putObj_facts (w := w) (b := b) (.map es'.toArray clock')
      exact ⟨I, h.set k i _ _ k1 k2 k3 (by rw [k4]; exact Nat.le_refl _) (fun b' _ hne => World.putObj_heap_other (fun e' => hne n (.mp f ag xs) (by rw [e']; exact hk))) (fun b' n' e' => by cases e'; exact ⟨by rw [k4]; exact hlt, .inr ⟨n, _, hk⟩⟩) ⟨b, n, es', clock', rfl, World.putObj_heap_same hlt, hmr⟩⟩
    simp only [execOp, Instr.mapUpdate, e2, Sem.run_bind, run_underlying ht.h, Result.andThen_ok, run_getObj_map e4, Sem.run_pure, g3, g1]
    cases r with
    | none =>
      simp only [Option.bind_none, run_setObj_map _ e4, Result.andThen_ok]
      have := fin (es ++ [{ key := a.eval y, val := a.eval y2, born := clock }]) (clock + 1) ((hm' _).put ⟨hs, hpl, hpe⟩ (hkv' _) (hev' _))
      simpa [EffRes, World.putObj, Act.put, run_setObj_map _ e4, Result.andThen] using this
    | some j =>
      have hj := g2 j rfl
      have hj' : j < xs.length := by rw [← hm.len]; exact hj
      have heq : eqsV ls (V.cells kv) (V.cells xs[j].1) = some true := by
        have key : ∀ (kss : List (List V)) (i : Nat), lookL ls (V.cells kv) kss i = some (some j) → i ≤ j ∧ ∃ ys, kss[j - i]? = some ys ∧ eqsV ls (V.cells kv) ys = some true := by
          intro kss
          induction kss with
          | nil => intro i h; simp [lookL] at h
          | cons ys kss ih =>
            intro i h
            simp only [lookL] at h
            cases hq : eqsV ls (V.cells kv) ys with
            | none => rw [hq] at h; cases h
            | some q =>
              rw [hq] at h
              cases q with
              | true => simp at h; subst h; exact ⟨Nat.le_refl _, ys, by simp, hq⟩
              | false =>
                obtain ⟨a1, ys', a2, a3⟩ := ih (i + 1) h
                refine ⟨by omega, ys', ?_, a3⟩
                rw [show j - i = (j - (i + 1)) + 1 by omega]
                simpa using a2
        obtain ⟨_, ys, a2, a3⟩ := key _ 0 hl
        simp [hj'] at a2
        rw [a2]; exact a3
      obtain ⟨r1, r2⟩ := hm.rep j _ _ (List.getElem?_eq_getElem hj') (List.getElem?_eq_getElem hj)
      obtain ⟨kk1, kk2, _⟩ := hm.kind _ (List.getElem_mem hj')
      obtain ⟨same, bits⟩ := same_key heq (hs.trans kk1.symm) hkv r1 hpl kk2
      simp only [Option.bind_some, List.getElem?_eq_getElem hj, Option.map_some, List.getElem?_toArray, Option.getD_some, Instr.keyThatStays, ← same, bits, if_true, Sem.run_bind, Sem.run_pure, Result.andThen_ok, run_setObj_map _ e4]
      have := fin (es.modify j fun e => { e with key := a.eval y, val := a.eval y2 }) clock ((hm' _).set ⟨hs, hpl, hpe⟩ (hkv' _) (hev' _))
      simpa [EffRes, World.putObj, Act.put, List.modify_toArray] using this⟩

def mapDel (xs : List (V × V)) : Option Nat → List (V × V)
  | some j => xs.eraseIdx j
  | none => xs
theorem MapRep.erase {w : World} {I : Nat → Prop} {ag : Bool} {xs : List (V × V)} {es : List MapEntry} {clock : Nat} (h : MapRep w I ag xs es clock) (j : Nat) : MapRep w I ag (xs.eraseIdx j) (es.eraseIdx j) clock where
  len := by simp [List.length_eraseIdx, h.len]
  kind := fun p hp => h.kind p (List.mem_of_mem_eraseIdx hp)
  rep := fun i p e hp he => by
    rw [List.getElem?_eraseIdx] at hp he
    split at hp
    · rename_i hi; rw [if_pos hi] at he; exact h.rep _ p e hp he
    · rename_i hi; rw [if_neg hi] at he; exact h.rep _ p e hp he
  born := fun e he => h.born e (List.mem_of_mem_eraseIdx he)
  dist := h.dist.sublist (List.eraseIdx_sublist _ _)

theorem e_delete {dd : Option Nat} {t2 kt et : TypeId} {ag : Bool} {ls : List Lf} {k i b n : Nat} {xs : List (V × V)} {kv : V} {r : Option Nat} [ht : TMap P t kt et] [hc : TKey P kt ag ls] (hx : σ.ev x = some (.m k i b)) (hk : σ.hp k i = some (some (b, n), .mp f ag xs)) (hy : σ.ev y = some (.v f1 kv))
    (hl : lookL ls (V.cells kv) (xs.map fun p => V.cells p.1) 0 = some r) (hs : kv.isSt = ag) (hpl : kv.plain = true) (hn : (V.cells kv).length = ls.length) (hd : dd = none) :
    Eff P N ⟨dd, .call { callee := .builtin .delete, args := #[x, y], argTypes := #[t, t2] }, tt, pos, af, g⟩ σ (fun σ' => σ' = σ.setH k i (some (some (b, n), (.mp f ag (mapDel xs r))))) :=
  ⟨rfl, fun _ e => by rw [e]; rfl, fun C hCN I a w h => by
    subst hCN
    subst hd
    have e2 := (h.ev hx).m_inv
    obtain ⟨b', n', es, clock, e3, e4, hm⟩ := h.wok.own k i _ _ hk
    cases e3
    have hkv := (h.ev hy).v_inv
    obtain ⟨g1, g2⟩ := key_find (P := P) (t := kt) (ag := ag) (ls := ls) hc hkv hs hpl w es (xs.map (·.1)) r (by simp [hm.len]) (fun j e y he hy => by
      rw [List.getElem?_map] at hy
      cases hxj : xs[j]? with
      | none => rw [hxj] at hy; cases hy
      | some p => rw [hxj] at hy; cases hy; exact ⟨(hm.rep j p e hxj he).1, (hm.kind p (List.mem_of_getElem? hxj)).1, (hm.kind p (List.mem_of_getElem? hxj)).2.1⟩) (by simpa [List.map_map, Function.comp_def] using hl)
    have g3 := key_check (P := P) (t := kt) (ag := ag) (ls := ls) hc es.toArray.isEmpty hkv hs hpl hn w
    have hlt : b < w.heap.size := (Array.getElem?_eq_some_iff.1 e4).1
    have fin : ∀ (es' : List MapEntry), MapRep w (fresh f I C.base) ag (mapDel xs r) es' clock → ∃ I', Holds C (σ.setH k i (some (some (b, n), (.mp f ag (mapDel xs r))))) I' a (w.putObj b (.map es'.toArray clock)) := fun es' hmr => by
      obtain ⟨k1, k2, k3, k4⟩ := putObj_facts (w := w) (b := b) (.map es'.toArray clock)
      refine ⟨I, h.set k i _ _ k1 k2 k3 (by rw [k4]; exact Nat.le_refl _) (fun b' _ hne => World.putObj_heap_other (fun e' => hne n (.mp f ag xs) (by rw [e']; exact hk))) (fun b' n' e' => by cases e'; exact ⟨by rw [k4]; exact hlt, .inr ⟨n, _, hk⟩⟩) ⟨b, n, es', clock, rfl, World.putObj_heap_same hlt, hmr.mono (fun b' hb' => ?_) (fun _ hb' => hb')⟩⟩
      exact World.putObj_heap_other (fun e' => (h.wok.owned k i b n _ hk).2.1 (e' ▸ hb'.1))
    simp only [execOp, resolve, invoke, builtin, List.map_toArray, List.map_cons, List.map_nil, Builtin.delete_, List.getElem?_toArray, List.getElem?_cons_zero, List.getElem?_cons_succ, e2, Sem.run_bind, run_underlying ht.h, Result.andThen_ok, run_getObj_map e4, Sem.run_pure, g3, g1]
    cases r with
    | none =>
      simp only [Option.bind_none, run_setObj_map _ e4, Result.andThen_ok, Sem.run_pure]
      have := fin es hm
      simpa [EffRes, World.putObj, Act.put, run_setObj_map _ e4, Result.andThen] using this
    | some j =>
      have hj := g2 j rfl
      simp only [Option.bind_some, List.getElem?_eq_getElem hj, Option.map_some, run_setObj_map _ e4, Result.andThen_ok, Sem.run_pure]
      have := fin (es.eraseIdx j) (hm.erase j)
      simpa [EffRes, World.putObj, Act.put, Array.eraseIdxIfInBounds, hj, run_setObj_map _ e4, Result.andThen] using this⟩

/-! #### Typed entries -/
theorem look_typed {α : Type} [BEq α] {ls : List Lf} {enc : α → V} (he : ∀ a b : α, eqsV ls (V.cells (enc a)) (V.cells (enc b)) = some (a == b)) (a : α) : ∀ (xs : List α) (i : Nat),
    lookL ls (V.cells (enc a)) (xs.map fun x => V.cells (enc x)) i = some ((xs.findIdx? (fun x => a == x)).map (· + i))
  | [], i => rfl
  | x :: xs, i => by
    simp only [List.map_cons, lookL, he, List.findIdx?_cons]
    cases h : a == x with
    | true => simp
    | false =>
      simp only [look_typed he a xs (i + 1), Bool.false_eq_true, if_false, Option.map_map]
      congr 1
      congr 1
      funext j
      simp; omega
theorem look_map {α : Type} [BEq α] {ls : List Lf} {enc : α → V} (he : ∀ a b : α, eqsV ls (V.cells (enc a)) (V.cells (enc b)) = some (a == b)) (val : α → V) (a : α) (xs : List α) :
    lookL ls (V.cells (enc a)) ((xs.map fun x => (enc x, val x)).map fun p => V.cells p.1) 0 = some (xs.findIdx? (fun x => a == x)) := by
  have := look_typed he a xs 0
  simpa [List.map_map, Function.comp_def] using this
end
/-! #### Rules of a walk -/
end Bf
