/- The engine, part 9: append, make, a store into an element; freezing and other steps on what is said of a state. No program is named here. -/
import Derived.Test.YteecgmkfbohpjaaE8
namespace Bf
open Go Go.RowKit

section
variable {P : Program} {N : Rm} {σ : St} {dst : Nat} {t tt ty : TypeId} {pos : String} {af : Array Edge} {g : Option (Nat × Bool)} {x y : Operand} {d : D} {f f1 f2 : Bool}

theorem run_append_of_nil (w : World) (base : Nat) (e : TypeId) (i : TypeInfo) (size : Nat) (ht : P.underlying t = some (.slice e)) (hi : P.info? e = some i)
    (v : Value) (n : Nat) (xs : List Value) (hown : w.ownsRow base e size v n xs) (c : Nat) : (Builtin.append_ #[t, t] ty #[v, .slice none 0 c]).run P w = .ok v w := by
  rcases hown.2 with ⟨rfl, rfl⟩ | ⟨g, cap, cur, rfl, _, _, hnc, _⟩
  · simp [Builtin.append_, run_underlying ht, Go.sizeOf, typeInfo, hi, Builtin.lenOf, Builtin.firstCells]
  · simp [Builtin.append_, run_underlying ht, Go.sizeOf, typeInfo, hi, Builtin.lenOf, Builtin.firstCells, hnc, storeCells]

/-- What is appended: the cells of elements. -/
structure SrcOk (C : Ctx) (hp : Nat → Option Blk) (I : Nat → Prop) (f : Bool) (z : Nat) (ys : List V) (w : World) (u : Value) : Prop where
  ex : ∃ (A : Option Addr) (c : Nat) (news : List Value), u = .slice A ys.length c ∧ Elems w (fresh f I C.base) z ys news ∧ (∀ v ∈ news, v.oneCell' = true) ∧
    (0 < ys.length → ∃ ad, A = some ad ∧ ∀ (j : Nat) v, news[j]? = some v → w.cell? (ad.add j) = some v)

/-- The source of an append: data, or another slice of the call's own. -/
inductive Src (hp : Nat → Option Blk) (z : Nat) : D → Bool → List V → Prop
  | l {f : Bool} {ys : List V} (hpl : ∀ y ∈ ys, y.plain = true) : Src hp z (.v f (.l z ys)) f ys
  | o {k len ty : Nat} {f : Bool} {ys : List V} (hk : hp k = some (.sl f ty z ys)) (hl : len = ys.length) : Src hp z (.o k len) f ys

theorem flat_cells {w : World} {I : Nat → Prop} {z : Nat} {b o : Nat} : ∀ (ys : List V) (val : Nat → Value), (∀ (i : Nat) x, ys[i]? = some x → VRep w I x (val i)) → (∀ (i : Nat) x, ys[i]? = some x → (val i).cells.size = z) →
    (∀ y ∈ ys, y.plain = true) → (∀ (i j : Nat) x u, ys[i]? = some x → (val i).cells[j]? = some u → w.cell? ⟨b, o + (i * z + j), none⟩ = some u) →
    ∃ news : List Value, Elems w I z ys news ∧ (∀ v ∈ news, v.oneCell' = true) ∧ ∀ (j : Nat) v, news[j]? = some v → w.cell? ⟨b, o + j, none⟩ = some v
  | ys, val, h1, h2, h3, h4 => by
    induction hn : ys.length generalizing ys with
    | zero =>
      have : ys = [] := List.eq_nil_of_length_eq_zero hn
      subst this
      exact ⟨[], .nil z, by simp, by simp⟩
    | succ n ih =>
      have hne : ys ≠ [] := fun e => by rw [e] at hn; simp at hn
      obtain ⟨init, last, rfl⟩ : ∃ init last, ys = init ++ [last] := ⟨ys.dropLast, ys.getLast hne, (List.dropLast_concat_getLast hne).symm⟩
      have hl : init.length = n := by simpa using hn
      have up : ∀ (i : Nat) x, init[i]? = some x → (init ++ [last])[i]? = some x := fun i x hx => by
        rw [List.getElem?_append_left (List.getElem?_eq_some_iff.1 hx).1]; exact hx
      obtain ⟨news, e1, e2, e3⟩ := ih init (fun i x hx => h1 i x (up i x hx)) (fun i x hx => h2 i x (up i x hx)) (fun y hy => h3 y (by simp [hy])) (fun i j x u hx hu => h4 i j x u (up i x hx) hu) hl
      have hlast : (init ++ [last])[n]? = some last := by rw [← hl]; simp
      have hp := h3 last (by simp)
      have hr := h1 n last hlast
      have hz : (V.cells last).length = z := (hr.cells_size hp).symm.trans (h2 n last hlast)
      have h5 := Elems.one hr hp
      rw [hz] at h5
      refine ⟨news ++ (val n).cells.toList, e1.append h5, fun v hv => ?_, fun j v hv => ?_⟩
      · rcases List.mem_append.1 hv with hv | hv
        · exact e2 v hv
        · exact (hr.cells hp).2 v hv
      · have hnl : news.length = n * z := by rw [e1.1, hl]
        by_cases hj : j < news.length
        · rw [List.getElem?_append_left hj] at hv
          exact e3 j v hv
        · rw [List.getElem?_append_right (by omega)] at hv
          have := h4 n (j - news.length) last v hlast (by simpa using hv)
          rwa [show n * z + (j - news.length) = j by omega] at this

theorem Src.ok {C : Ctx} {hp : Nat → Option Blk} {z : Nat} {ys : List V} {d : D} (h : Src hp z d f ys) {φ : Phi} {I : Nat → Prop} {w : World} (hw : WOk C hp φ I w) {u : Value} (hu : DRep w I C.base φ d u) :
    SrcOk C hp I f z ys w u := by
  cases h with
  | l hpl =>
    obtain ⟨A, c, b, o, val, rfl, h1, h2, h3, h4, h5, h6⟩ := hu.v_inv.l_inv
    obtain ⟨news, e1, e2, e3⟩ := flat_cells ys val h4 h5 hpl h6
    exact ⟨A, c, news, rfl, e1, e2, fun hl => ⟨⟨b, o, none⟩, (h3 hl).1, fun j v hv => by rw [addr_add]; exact e3 j v hv⟩⟩
  | o hk hl =>
    subst hl
    obtain ⟨u0, cells, h1, h2, h3, h4⟩ := hw.own _ _ hk
    rcases hu.o_inv with ⟨hn, hl, rfl⟩ | ⟨b, c, hb, rfl⟩
    · have : ys = [] := List.eq_nil_of_length_eq_zero hl
      subst this
      exact ⟨none, 0, [], rfl, .nil z, by simp, fun h => by simp at h⟩
    · rcases h1.o_inv with ⟨hn, _⟩ | ⟨b', c', hb', rfl⟩
      · rw [hb] at hn; cases hn
      · rw [hb] at hb'; cases hb'
        exact ⟨some ⟨b, 0, none⟩, c, cells, rfl, h4, h3, fun _ => ⟨⟨b, 0, none⟩, rfl, fun j v hv => h2.cells (g := b) rfl j v hv⟩⟩

/-- 's = append(s, ..)' on a slice of the call's own. -/
theorem e_append {k n e z bytes : Nat} {zv : Value} {xs ys : List V} {dd : D} [ht : TSl P t e] [hz : TSz P e z] [hzv : TZero P e zv] [hby : TBytes P e bytes]
    (hx : σ.ev x = some (.o k n)) (hk : σ.hp k = some (.sl f e z xs)) (hn : n = xs.length) (hy : σ.ev y = some dd) (hs : Src σ.hp z dd f2 ys) (h0 : Nat.blt 0 z = true) (hzs : zv.cells.size = z)
    (hb : (xs.length + ys.length) * (bytes + 1) ≤ 140737488355328) (hN : N.can dst = true) :
    Effect P N ⟨some dst, .call { callee := .builtin .append, args := #[x, y], argTypes := #[t, t] }, tt, pos, af, g⟩ σ (σ.lay k (.sl (f && f2) e z (xs ++ ys)) (some dst) (.o k (n + ys.length))) :=
  ⟨rfl, rfl, fun C hCN φ I a w h => by
    subst hCN
    subst hn
    obtain ⟨A, c, news, hu, hnews, hone, hA⟩ := (hs.ok h.wok (h.ev hy)).ex
    obtain ⟨u0, cells, h1, h2, h3, h4⟩ := h.wok.own k _ hk
    obtain ⟨i, hi, hi1, hi2, _⟩ := zeroSize hz.h hzv.h w
    have hib : i.bytes = bytes := by have := hby.h; rw [hi] at this; simpa using this
    have hval : a.eval x = u0 := by
      have hd := h.ev hx
      rcases hd.o_inv with ⟨e1, e2, e3⟩ | ⟨b, c, e1, e2⟩ <;> rcases h1.o_inv with ⟨e4, e5, e6⟩ | ⟨b', c', e4, e5⟩
      · rw [e3, e6]
      · rw [e1] at e4; cases e4
      · rw [e1] at e4; cases e4
      · rw [e1] at e4; cases e4; rw [e2, e5]
    have h63 : xs.length + ys.length ≤ maxLen := by
      simp only [maxLen]
      have := Nat.le_mul_of_pos_right (xs.length + ys.length) (show 0 < bytes + 1 by omega)
      omega
    have hbb : (xs.length + ys.length) * bytes ≤ 140737488355328 := by rw [Nat.mul_add] at hb; omega
    have key : ∃ v' w', (Builtin.append_ #[t, t] tt #[u0, a.eval y]).run P w = .ok v' w' ∧ w'.ownsRow 0 e z v' (xs.length + ys.length) (cells ++ news) ∧ w.grownBy w' u0.ownBlock ∧ (v'.ownBlock = u0.ownBlock ∨ v'.ownBlock = some w.heap.size) := by
      rw [hu]
      by_cases hl : ys.length = 0
      · have hys : ys = [] := List.eq_nil_of_length_eq_zero hl
        subst hys
        have hnn : news = [] := List.eq_nil_of_length_eq_zero (by simpa using hnews.1)
        subst hnn
        cases A with
        | none => exact ⟨u0, w, run_append_of_nil w 0 e i z ht.h hi u0 _ cells h2 c, by simpa using h2, World.grownBy.refl w _, .inl rfl⟩
        | some ad =>
          obtain ⟨v', w', g1, g2, g3, _, g5⟩ := run_append_own_at (P := P) w 0 t tt e i zv z bytes ht.h hi hi1 hi2 hib hzs (by simpa using h0) u0 xs.length cells h2 ad 0 c [] (by simp) (by simp) (by simp) h63 hbb (Nat.zero_le _)
          exact ⟨v', w', g1, g2, g3, g5⟩
      · obtain ⟨ad, rfl, hcell⟩ := hA (by omega)
        obtain ⟨v', w', g1, g2, g3, _, g5⟩ := run_append_own_at (P := P) w 0 t tt e i zv z bytes ht.h hi hi1 hi2 hib hzs (by simpa using h0) u0 xs.length cells h2 ad ys.length c news hnews.1 hcell hone h63 hbb (Nat.zero_le _)
        exact ⟨v', w', g1, g2, g3, g5⟩
    obtain ⟨v', w', g1, g2, g3, g4⟩ := key
    have hrun : (execOp a.eval ⟨some dst, .call { callee := .builtin .append, args := #[x, y], argTypes := #[t, t] }, tt, pos, af, g⟩).run P w = .ok (.value v') w' := by
      simp only [execOp, resolve, invoke, builtin, Sem.run_bind, Sem.run_pure, Result.andThen_ok, List.map_toArray, List.map_cons, List.map_nil, hval, g1]
    rw [hrun]
    have hown : ∀ b, b < w.heap.size → (∀ blk c, σ.hp k = some blk → φ k ≠ some (b, c)) → w'.heap[b]? = w.heap[b]? := fun b hb hne => by
      refine g3.block b hb (fun e' => ?_)
      obtain ⟨c', hc'⟩ := Value.ownBlock_o h1 b e'.symm
      exact hne _ c' hk hc'
    have hI : ∀ b, I b → w'.heap[b]? = w.heap[b]? := fun b hb => hown b (h.wok.ilt b hb) (fun blk c hk' he => (h.wok.owned k blk b c hk' he).2.1 hb)
    have hel : Elems w' (fresh (f && f2) I C.base) z (xs ++ ys) (cells ++ news) :=
      (h4.mono (fun b hb => hI b hb.1) (fun b hb => fresh_and hb)).append (hnews.mono (fun b hb => hI b hb.1) (fun b hb => fresh_and' hb))
    have hone' : ∀ v ∈ cells ++ news, v.oneCell' = true := fun v hv => by
      rcases List.mem_append.1 hv with hv | hv
      · exact h3 v hv
      · exact hone v hv
    have hlen : (xs ++ ys).length = xs.length + ys.length := by simp
    rcases g2.2 with ⟨rfl, hz0⟩ | ⟨gg, cap, cur, rfl, _, hgg, hnc, hcm, _⟩
    · refine ⟨phiSet φ k none, I, (h.chg k _ none g3.os g3.tape g3.output g3.size hown (fun b c e' => by cases e') ?_).put (some dst) _ _ (by rw [hz0]; exact .onil _ (phiSet_same _ _ _)) (fun s e' => by cases e'; simpa using hN)⟩
      refine ⟨.slice none 0 0, _, ?_, by rw [hlen]; exact g2, hone', hel⟩
      rw [hlen, hz0]
      exact .onil _ (phiSet_same _ _ _)
    · refine ⟨phiSet φ k (some (gg, cap)), I, (h.chg k _ (some (gg, cap)) g3.os g3.tape g3.output g3.size hown (fun b c e' => ?_) ?_).put (some dst) _ _ (.o _ _ _ _ (phiSet_same _ _ _)) (fun s e' => by cases e'; simpa using hN)⟩
      · cases e'
        refine ⟨(Array.getElem?_eq_some_iff.1 hgg).1, ?_⟩
        rcases g4 with g4 | g4
        · obtain ⟨c', hc'⟩ := Value.ownBlock_o h1 gg g4.symm
          exact .inr ⟨_, c', hk, hc'⟩
        · simp [Value.ownBlock] at g4
          exact .inl (by omega)
      · refine ⟨.slice (some ⟨gg, 0, none⟩) (xs.length + ys.length) cap, _, ?_, by rw [hlen]; exact g2, hone', hel⟩
        rw [hlen]
        exact .o _ _ _ _ (phiSet_same _ _ _)⟩

def zeroE : Value → V
  | .agg cs => .st (cs.toList.map constV)
  | v => constV v

theorem zeroE_cells {v : Value} (h : oneAll v = true) : V.cells (zeroE v) = zeroV v ∧ (zeroE v).plain = true := by
  cases v <;> first | exact ⟨rfl, rfl⟩ | (simp [oneAll, Value.cells, Value.oneCell'] at h)
theorem zeroE_rep {w : World} {I : Nat → Prop} {v : Value} (h : oneAll v = true) : VRep w I (zeroE v) v := by
  obtain ⟨h1, h2⟩ := zeroV_reps (w := w) (I := I) h
  cases v with
  | agg cs => exact VRep.st_of (vs := cs.toList) h1 h2
  | tuple _ => simp [oneAll, Value.cells, Value.oneCell'] at h
  | int k n => exact .i k n
  | bool b => exact .b b
  | string s => exact .s s
  | _ => exact .raw _ rfl

/-- 'make([]T, n)'. -/
theorem e_make {e z bytes n : Nat} {zv : Value} {k1 k2 : IntKind} [ht : TSl P t e] [hz : TSz P e z] [hzv : TZero P e zv] [hby : TBytes P e bytes] (h1 : oneAll zv = true) (hzs : zv.cells.size = z)
    (hx : σ.ev x = some (.v f1 (.i k1 (n : Nat)))) (hy : σ.ev y = some (.v f2 (.i k2 (n : Nat)))) (hb : n * (bytes + 1) ≤ 281474976710656) (hN : N.can dst = true) :
    Effect P N ⟨some dst, .makeSlice t x y, tt, pos, af, g⟩ σ (σ.lay dst (.sl true e z (List.replicate n (zeroE zv))) (some dst) (.o dst n)) :=
  ⟨rfl, rfl, fun C hCN φ I a w h => by
    subst hCN
    obtain ⟨i, hi, hi1, hi2, _⟩ := zeroSize hz.h hzv.h w
    have hib : i.bytes = bytes := by have := hby.h; rw [hi] at this; simpa using this
    have h63 : n ≤ 281474976710656 := Nat.le_trans (Nat.le_mul_of_pos_right n (show 0 < bytes + 1 by omega)) hb
    have hbb : n * bytes ≤ 281474976710656 := by rw [Nat.mul_add] at hb; omega
    have hbi : (i.bytes : Int) * ((n : Nat) : Int) ≤ 281474976710656 := by
      rw [hib]
      have h : ((bytes * n : Nat) : Int) ≤ 281474976710656 := by rw [Nat.mul_comm]; omega
      rwa [Int.natCast_mul] at h
    have hr := run_make (P := P) w t e i zv ht.h hi hi1 k1 k2 (n : Nat) (n : Nat) (by omega) (by omega) hbi (by omega)
    simp only [Int.toNat_natCast] at hr
    have e1 := (h.ev hx).i_inv
    have e2 := (h.ev hy).i_inv
    simp only [execOp, e1, e2, Sem.run_bind, hr, Sem.run_pure, Result.andThen_ok]
    refine ⟨phiSet φ dst (some (w.heap.size, n)), I, (h.lay (.cells (madeCells zv.cells (n * i.size)) e) n dst _ ?_).put (some dst) _ _ (.o _ _ _ _ (phiSet_same _ _ _)) (fun s e => by cases e; simpa using hN)⟩
    have hlen : (List.replicate n (zeroE zv)).length = n := by simp
    obtain ⟨hz1, hz2⟩ := zeroV_reps (w := w.alloc (.cells (madeCells zv.cells (n * i.size)) e)) (I := fresh true I C.base) h1
    refine ⟨.slice (some ⟨w.heap.size, 0, none⟩) n n, (madeCells zv.cells (n * i.size)).toList, by rw [hlen]; exact .o _ _ _ _ (phiSet_same _ _ _), ⟨by simp [size_madeCells, hi2], .inr ⟨_, _, _, by rw [hlen], Nat.zero_le _, heap_alloc_new w _, by rw [hlen]; exact Nat.le_refl _, by simp only [maxLen]; omega, by simp [size_madeCells, hi2], ?_⟩⟩, ?_, ?_⟩
    · rw [hlen, List.take_of_length_le (by simp [size_madeCells, hi2])]
    · intro v hv
      simp only [madeCells, Array.toList_map, List.mem_map] at hv
      obtain ⟨j, hj, rfl⟩ := hv
      have hpos : 0 < n * i.size := by
        rw [Array.toList_range, List.mem_range] at hj
        omega
      have hzp : 0 < zv.cells.size := by
        rw [hzs, ← hi2]
        exact Nat.pos_of_mul_pos_left hpos
      have hmod : j % zv.cells.size < zv.cells.size := Nat.mod_lt _ hzp
      rw [getElem!_pos zv.cells _ hmod]
      exact hz2 _ (by simp)
    · refine .of_ (by simp [size_madeCells, hi2]) (fun q p hq => ?_)
      rw [List.getElem?_replicate] at hq
      split at hq
      case isFalse => cases hq
      case isTrue hqn =>
        cases hq
        refine ⟨(zeroE_cells h1).2, zv, zeroE_rep h1, hzs, fun j hj => ?_⟩
        have hlt : q * z + j < n * i.size := by
          rw [hi2]
          have : (q + 1) * z ≤ n * z := Nat.mul_le_mul_right _ hqn
          rw [Nat.add_mul] at this
          omega
        have hmod : (q * z + j) % zv.cells.size = j := by rw [hzs, Nat.mul_comm, Nat.mul_add_mod, Nat.mod_eq_of_lt hj]
        simp only [madeCells, Array.toList_map, List.getElem?_map, Array.toList_range, List.getElem?_range hlt, Option.map_some, hmod]
        have hjz : j < zv.cells.size := by omega
        rw [getElem!_pos zv.cells j hjz]
        simp [hjz]⟩
end
end Bf
