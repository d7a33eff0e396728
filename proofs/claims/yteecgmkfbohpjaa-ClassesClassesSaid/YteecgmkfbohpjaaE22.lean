/- The engine, part 22: arrays of the call's own, min and max. No program is named here. -/
import Derived.Test.YteecgmkfbohpjaaE21
namespace Bf
open Go Go.RowKit

class TZeroA (P : Program) (t : TypeId) (n : outParam Nat) (zv : outParam Value) : Prop where h : (P.info? t).bind (·.zero) = some (.agg (List.replicate n zv.cells.toList).flatten.toArray)

theorem flat_rep_get {α : Type} {l : List α} {z : Nat} (hl : l.length = z) : ∀ {n q j : Nat}, q < n → j < z → (List.replicate n l).flatten[q * z + j]? = l[j]?
  | n + 1, 0, j, _, hj => by
    simp only [List.replicate_succ, List.flatten_cons, Nat.zero_mul, Nat.zero_add]
    rw [List.getElem?_append_left (by omega)]
  | n + 1, q + 1, j, hq, hj => by
    simp only [List.replicate_succ, List.flatten_cons]
    rw [List.getElem?_append_right (by rw [Nat.add_mul]; omega), Nat.add_mul, Nat.one_mul, show q * z + z + j - l.length = q * z + j by omega]
    exact flat_rep_get hl (by omega) hj
theorem flat_rep_len {α : Type} {l : List α} (n : Nat) : (List.replicate n l).flatten.length = n * l.length := by simp

section
variable {P : Program} {N : Rm} {σ : St} {dst : Nat} {t tt ty : TypeId} {pos : String} {af : Array Edge} {g : Option (Nat × Bool)} {x y : Operand} {d : D} {f f1 f2 : Bool}
theorem e_alloc_a {n z : Nat} {zv : Value} [hzv : TZeroA P t n zv] (h1 : oneAll zv = true) (hzs : zv.cells.size = z) (hn : n ≤ maxLen) (hN : N.can dst = true) :
    Effect P N ⟨some dst, .alloc t, tt, pos, af, g⟩ σ (σ.lay dst (.sl true t z (List.replicate n (zeroE zv))) (some dst) (.p dst 0)) :=
  ⟨rfl, rfl, fun C hCN φ I a w h => by
    subst hCN
    have hzz := hzv.h
    cases hi : P.info? t with
    | none => rw [hi] at hzz; cases hzz
    | some i =>
      rw [hi] at hzz
      simp only [Option.bind_some] at hzz
      simp only [execOp, Instr.alloc, zeroValue, typeInfo, Sem.run_bind, run_program, Sem.run_pure, Result.andThen_ok, hi, hzz, newVar, newRow, run_newObj]
      have hcl : (List.replicate n zv.cells.toList).flatten.length = n * z := by rw [flat_rep_len]; simp [hzs]
      refine ⟨phiSet φ dst (some (w.heap.size, n)), I, (h.lay (.cells (List.replicate n zv.cells.toList).flatten.toArray t) n dst (.sl true t z (List.replicate n (zeroE zv))) ?_).put (some dst) _ _ (.p _ _ _ _ (phiSet_same _ _ _)) (fun s e => by cases e; simpa using hN)⟩
      have hlen : (List.replicate n (zeroE zv)).length = n := by simp
      obtain ⟨hz1, hz2⟩ := zeroV_reps (w := w.alloc (.cells (List.replicate n zv.cells.toList).flatten.toArray t)) (I := fresh true I C.base) h1
      refine ⟨.slice (some ⟨w.heap.size, 0, none⟩) n n, (List.replicate n zv.cells.toList).flatten, by rw [hlen]; exact .o _ _ _ _ (phiSet_same _ _ _), ⟨by rw [hcl, hlen], .inr ⟨_, _, _, by rw [hlen], Nat.zero_le _, heap_alloc_new w _, by rw [hlen]; exact Nat.le_refl _, hn, by simpa using hcl, ?_⟩⟩, ?_, ?_⟩
      · rw [hlen, List.take_of_length_le (by simp [hzs])]
      · intro v hv
        simp only [List.mem_flatten, List.mem_replicate] at hv
        obtain ⟨l, ⟨_, rfl⟩, hv⟩ := hv
        exact hz2 _ hv
      · refine .of_ (by rw [hcl, hlen]) (fun q p hq => ?_)
        rw [List.getElem?_replicate] at hq
        split at hq
        case isFalse => cases hq
        case isTrue hqn =>
          cases hq
          refine ⟨(zeroE_cells h1).2, zv, zeroE_rep h1, hzs, fun j hj => ?_⟩
          rw [flat_rep_get (by simpa using hzs) hqn hj]⟩

theorem q_idx_a {hp : Nat → Option Blk} {ev : Operand → Option D} {dst : Option Nat} {el z kk len : Nat} {ty' : TypeId} {xs : List V} {k : IntKind} {n : Int} [ht : TArr P t len el] [hz : TSz P el z] (hx : ev x = some (.p kk 0)) (_hk : hp kk = some (.sl f ty' z xs)) (hy : ev y = some (.v f2 (.i k n))) (h0 : 0 ≤ n) (h1 : n < len) :
    Quiet P hp ev ⟨dst, .indexAddr t x y, tt, pos, af, g⟩ (.pe kk n.toNat z 0) :=
  Quiet.of ⟨rfl, fun C φ I w ρ _ hρ => by
    have h8 := (hρ y (by simp [Op.operands]) _ hy).i_inv
    obtain ⟨b, c, hb, hu⟩ := (hρ x (by simp [Op.operands]) _ hx).p_inv
    simp only [execOp, Instr.indexAt, asIntOf, Instr.sureAddr, h8, hu, Sem.run_bind, Sem.run_pure, run_underlying ht.h, Result.andThen_ok, if_pos (show 0 ≤ n ∧ n < (len : Int) from ⟨h0, h1⟩), rsz w hz.h, addr_add]
    rw [Nat.zero_add]
    exact ⟨rfl, .pe kk n.toNat z 0 b c hb⟩⟩
theorem q_load_a {hp : Nat → Option Blk} {ev : Operand → Option D} {dst : Option Nat} {z kk : Nat} {ty' : TypeId} {xs : List V} [ha : TAgg P t true] [hz : TSz P t z] (hx : ev x = some (.p kk 0)) (hk : hp kk = some (.sl f ty' 1 xs)) (hl : xs.length = z) (ho : ∀ x ∈ xs, x.isSt = false) :
    Quiet P hp ev ⟨dst, .load t x, tt, pos, af, g⟩ (.v f (.st xs)) :=
  Quiet.of ⟨rfl, fun C φ I w ρ hw hρ => by
    obtain ⟨b, c, hb, hu⟩ := (hρ x (by simp [Op.operands]) _ hx).p_inv
    obtain ⟨vs, g1, g2, g3⟩ := arr_vals hw hk hb ho
    have hr := run_loadVarN (P := P) w ha.h hz.h b 0 vs (by rw [← g1.1]; exact hl) (fun j u hu => by rw [Nat.zero_add]; exact g3 j u hu)
    simp only [execOp, Instr.loadAt, Instr.sureAddr, hu, Sem.run_bind, Sem.run_pure, Result.andThen_ok, hr]
    exact ⟨rfl, .v _ _ _ (VRep.st_of g1 g2)⟩⟩
/-- A store of a whole array. -/
theorem e_store_a {k z : Nat} {xs ys : List V} {dd : Option Nat} [hz : TSz P t z] (hx : σ.ev x = some (.p k 0)) (hk : σ.hp k = some (.sl f ty 1 xs)) (hy : σ.ev y = some (.v f2 (.st ys))) (hl : ys.length = z) (hl2 : xs.length = z) (ho : ∀ x ∈ ys, x.isSt = false ∧ x.plain = true) (hd : dd = none) :
    Effect P N ⟨dd, .store t x y, tt, pos, af, g⟩ σ { σ with hp := upd σ.hp k (.sl f2 ty 1 ys) } :=
  ⟨rfl, rfl, fun C hCN φ I a w h => by
    subst hCN
    subst hd
    obtain ⟨b, c, h1, h2⟩ := (h.ev hx).p_inv
    obtain ⟨u0, cells, g1, g2, g3, g4⟩ := h.wok.own k _ hk
    obtain ⟨h8, h9⟩ := (h.ev hy).v_inv.cells rfl
    change VReps w _ ys _ at h8
    have hvl : (a.eval y).cells.size = z := by have := h8.1; rw [hl] at this; simpa using this.symm
    have hvl' : (a.eval y).cells.toList.length = z := by simpa using hvl
    rcases g1.o_inv with ⟨e1, _⟩ | ⟨b', cap', e1, rfl⟩
    · rw [h1] at e1; cases e1
    rw [h1] at e1; cases e1
    rcases g2.2 with ⟨e1, _⟩ | ⟨gg, cap, cur, e1, hgb, hgg, hnc, hcm, hcs, htk⟩
    · cases e1
    cases e1
    have hcur : cur.toList.length = c := by simpa using hcs
    have hgg' : w.heap[b]? = some (.cells cur.toList.toArray ty (0, 0)) := by simpa using hgg
    have hr := run_storeVar (P := P) (w := w) hz.h hgg' (off := 0) hvl (by omega) h9
    simp only [execOp, Instr.storeAt, h2, Instr.sureAddr, Sem.run_bind, Sem.run_pure, Result.andThen_ok, hr]
    simp only [List.take_zero, List.nil_append, Nat.zero_add]
    obtain ⟨k1, k2, k3, k4⟩ := @setRow_facts w b ((a.eval y).cells.toList ++ cur.toList.drop z).toArray
    have hI : ∀ b', I b' → (w.setRow b ((a.eval y).cells.toList ++ cur.toList.drop z).toArray).heap[b']? = w.heap[b']? := fun b' hb' => setRow_other w b b' _ (fun e' => (h.wok.owned k _ b c hk h1).2.1 (e' ▸ hb'))
    refine ⟨φ, I, h.turn k _ _ hk h1 k1 k2 k3 k4 (fun b' hb' => setRow_other w b b' _ hb') ⟨.slice (some ⟨b, 0, none⟩) ys.length c, (a.eval y).cells.toList, .o _ _ _ _ h1, ⟨by rw [hvl', hl, Nat.mul_one], .inr ⟨b, c, ((a.eval y).cells.toList ++ cur.toList.drop z).toArray, rfl, hgb, setRow_heap w b _ _ _ _ hgg', by omega, hcm, ?_, ?_⟩⟩, h9, ?_⟩⟩
    · simp [hvl]; omega
    · simp [hl, hvl]
    · refine .of_ (by rw [hvl', hl, Nat.mul_one]) (fun q p hq => ?_)
      obtain ⟨o1, o2⟩ := ho p (List.mem_of_getElem? hq)
      have hql : q < (a.eval y).cells.toList.length := by rw [hvl', ← hl]; exact (List.getElem?_eq_some_iff.1 hq).1
      have hv := h8.2 q p _ hq (List.getElem?_eq_getElem hql)
      have hone := h9 _ (List.getElem_mem hql)
      refine ⟨o2, _, hv.mono (fun b' hb' => hI b' hb'.1) (fun _ hb' => hb'), by rw [oneCell_cells hone]; rfl, fun j hj => ?_⟩
      have : j = 0 := by omega
      subst this
      rw [oneCell_cells hone]
      simp [List.getElem?_eq_getElem hql]⟩

theorem q_max {hp : Nat → Option Blk} {ev : Operand → Option D} {dst : Option Nat} {k : IntKind} {a b : Int} {ats : Array TypeId} (hx : ev x = some (.v f1 (.i k a))) (hy : ev y = some (.v f2 (.i k b))) :
    Quiet P hp ev ⟨dst, .call { callee := .builtin .max, args := #[x, y], argTypes := ats }, tt, pos, af, g⟩ (.v true (.i k (max a b))) :=
  Quiet.of ⟨rfl, fun C φ I w ρ _ hρ => by
    have h1 := (hρ x (by simp [Op.operands, Call.operands]) _ hx).i_inv
    have h2 := (hρ y (by simp [Op.operands, Call.operands]) _ hy).i_inv
    simp only [execOp, resolve, invoke, builtin, List.map_toArray, List.map_cons, List.map_nil, h1, h2, Builtin.max_, List.foldlM_cons, List.foldlM_nil, Builtin.max2, Sem.run_bind, Sem.run_pure, Result.andThen_ok]
    refine ⟨rfl, ?_⟩
    have : (if a < b then b else a) = max a b := by omega
    rw [this]
    exact .v _ _ _ (.i _ _)⟩
theorem q_min {hp : Nat → Option Blk} {ev : Operand → Option D} {dst : Option Nat} {k : IntKind} {a b : Int} {ats : Array TypeId} (hx : ev x = some (.v f1 (.i k a))) (hy : ev y = some (.v f2 (.i k b))) :
    Quiet P hp ev ⟨dst, .call { callee := .builtin .min, args := #[x, y], argTypes := ats }, tt, pos, af, g⟩ (.v true (.i k (min a b))) :=
  Quiet.of ⟨rfl, fun C φ I w ρ _ hρ => by
    have h1 := (hρ x (by simp [Op.operands, Call.operands]) _ hx).i_inv
    have h2 := (hρ y (by simp [Op.operands, Call.operands]) _ hy).i_inv
    simp only [execOp, resolve, invoke, builtin, List.map_toArray, List.map_cons, List.map_nil, h1, h2, Builtin.min_, List.foldlM_cons, List.foldlM_nil, Builtin.min2, Sem.run_bind, Sem.run_pure, Result.andThen_ok]
    refine ⟨rfl, ?_⟩
    have : (if b < a then b else a) = min a b := by omega
    rw [this]
    exact .v _ _ _ (.i _ _)⟩
end

/-! #### Parts of slices; nil as the empty list -/
theorem sliceBound_ok {P : Program} {k : IntKind} {n : Int} {y : Nat} {code : BoundsCode} (h0 : 0 ≤ n) (h1 : n ≤ y) (w : World) : (Instr.sliceBound (.int k n) y code).run P w = .ok n.toNat w := by
  simp [Instr.sliceBound, asIntOf, h0, h1]
section
variable {P : Program} {hp : Nat → Option Blk} {ev : Operand → Option D} {dst : Option Nat} {t tt ty : TypeId} {pos : String} {af : Array Edge} {g : Option (Nat × Bool)} {x y c : Operand} {d : D} {f f1 f2 : Bool}
theorem VRep.part {w : World} {I : Nat → Prop} {z : Nat} {xs : List V} {A : Option Addr} {len c l h : Nat} (hr : VRep w I (.l z xs) (.slice A len c)) (hl : l ≤ h) (hh : h ≤ xs.length) (m : Nat) (hm : h ≤ m) (hmc : m ≤ c) :
    VRep w I (.l z ((xs.take h).drop l)) (.slice (if m = l then A else A.map (·.add (l * z))) (h - l) (m - l)) := by
  obtain ⟨A', c', b, o, val, e, h1, h2, h3, h4, h5, h6⟩ := hr.l_inv
  cases e
  have hlen : ((xs.take h).drop l).length = h - l := by simp; omega
  rw [← hlen]
  refine .l z _ _ _ (by rw [hlen]; omega) (by omega) (fun i => val (l + i)) b (o + l * z) (fun hp => ?_) (fun i x hx => ?_) (fun i x hx => ?_) (fun i j x u hx hu => ?_)
  · rw [hlen] at hp
    obtain ⟨rfl, hI⟩ := h3 (by omega)
    rw [if_neg (by omega)]
    exact ⟨by simp [addr_add], hI⟩
  · rw [List.getElem?_drop, List.getElem?_take] at hx
    split at hx
    · exact h4 _ x hx
    · cases hx
  · rw [List.getElem?_drop, List.getElem?_take] at hx
    split at hx
    · exact h5 _ x hx
    · cases hx
  · rw [List.getElem?_drop, List.getElem?_take] at hx
    split at hx
    · have := h6 _ j x u hx hu
      rw [Nat.add_mul] at this
      rw [show o + l * z + (i * z + j) = o + (l * z + i * z + j) by omega]
      exact this
    · cases hx
theorem q_slice_h {el z : Nat} {xs : List V} {k : IntKind} {n : Int} [ht : TSl P t el] [hz : TSz P el z] (hx : ev x = some (.v f (.l z xs))) (hy : ev y = some (.v f2 (.i k n))) (h0 : 0 ≤ n) (h1 : n ≤ (xs.length : Nat)) :
    Quiet P hp ev ⟨dst, .slice t x none (some y) none, tt, pos, af, g⟩ (.v f (.l z (xs.take n.toNat))) :=
  Quiet.of ⟨rfl, fun C φ I w ρ _ hρ => by
    have hr := (hρ x (by simp [Op.operands]) _ hx).v_inv
    obtain ⟨A, cp, b, o, val, e, h2, h3, _⟩ := hr.l_inv
    have h8 := (hρ y (by simp [Op.operands]) _ hy).i_inv
    rw [e] at hr
    have hp := hr.part (l := 0) (h := n.toNat) (Nat.zero_le _) (by omega) cp (by omega) (Nat.le_refl _)
    simp only [execOp, Instr.sliceAt, Option.map_none, Option.map_some, Sem.run_bind, run_underlying ht.h, Result.andThen_ok, Instr.slice, e, h8, Instr.sliceBounds, sliceBound_ok (P := P) (y := cp) h0 (by omega), Sem.run_pure, rsz w hz.h, Option.isSome_none, Bool.false_eq_true, if_true]
    refine ⟨rfl, .v _ _ _ ?_⟩
    simpa using hp⟩
theorem q_slice_l {el z : Nat} {xs : List V} {k : IntKind} {n : Int} [ht : TSl P t el] [hz : TSz P el z] (hx : ev x = some (.v f (.l z xs))) (hy : ev y = some (.v f2 (.i k n))) (h0 : 0 ≤ n) (h1 : n ≤ (xs.length : Nat)) :
    Quiet P hp ev ⟨dst, .slice t x (some y) none none, tt, pos, af, g⟩ (.v f (.l z (xs.drop n.toNat))) :=
  Quiet.of ⟨rfl, fun C φ I w ρ _ hρ => by
    have hr := (hρ x (by simp [Op.operands]) _ hx).v_inv
    obtain ⟨A, cp, b, o, val, e, h2, h3, _⟩ := hr.l_inv
    have h8 := (hρ y (by simp [Op.operands]) _ hy).i_inv
    rw [e] at hr
    have hp := hr.part (l := n.toNat) (h := xs.length) (by omega) (Nat.le_refl _) cp (by omega) (Nat.le_refl _)
    simp only [execOp, Instr.sliceAt, Option.map_none, Option.map_some, Sem.run_bind, run_underlying ht.h, Result.andThen_ok, Instr.slice, e, h8, Instr.sliceBounds, sliceBound_ok (P := P) (y := xs.length) h0 (by omega), Sem.run_pure, rsz w hz.h, Option.isSome_none, Bool.false_eq_true, if_true]
    refine ⟨rfl, .v _ _ _ ?_⟩
    simpa using hp⟩
end

mutual
/-- Where one has nil, the other has the empty list. -/
inductive NilLe : V → V → Prop
  | refl (x : V) : NilLe x x
  | nil (z : Nat) : NilLe (.raw (.slice none 0 0)) (.l z [])
  | st {xs ys : List V} (h : NilLes xs ys) : NilLe (.st xs) (.st ys)
  | l (z : Nat) {xs ys : List V} (h : NilLes xs ys) : NilLe (.l z xs) (.l z ys)
inductive NilLes : List V → List V → Prop
  | nil : NilLes [] []
  | cons {x y : V} {xs ys : List V} (h : NilLe x y) (t : NilLes xs ys) : NilLes (x :: xs) (y :: ys)
end
theorem NilLes.len : ∀ {xs ys : List V}, NilLes xs ys → xs.length = ys.length
  | _, _, .nil => rfl
  | _, _, .cons _ t => by simp [t.len]
theorem NilLes.get : ∀ {xs ys : List V}, NilLes xs ys → ∀ {i : Nat} {y : V}, ys[i]? = some y → ∃ x, xs[i]? = some x ∧ NilLe x y
  | _, _, .nil, i, y, h => by simp at h
  | _, _, .cons h t, 0, y, hy => by simp at hy; subst hy; exact ⟨_, rfl, h⟩
  | _, _, .cons h t, i + 1, y, hy => by
    obtain ⟨x, h1, h2⟩ := t.get (i := i) (by simpa using hy)
    exact ⟨x, by simpa using h1, h2⟩
theorem NilLe.rep {w : World} {I : Nat → Prop} {x y : V} {v : Value} (h : VRep w I x v) (hn : NilLe x y) : VRep w I y v := by
  induction h generalizing y with
  | raw v h =>
    cases hn with
    | refl => exact .raw v h
    | nil z => exact .nil_slice z
  | st xs vs hl h1 h ih =>
    cases hn with
    | refl => exact .st xs vs hl h1 h
    | st hs => exact .st _ vs (hs.len ▸ hl) h1 fun i x v hx hv => by obtain ⟨x', h2, h3⟩ := hs.get hx; exact ih i x' v h2 hv h3
  | l z xs A c hc hm val b o hA h hz hcell ih =>
    cases hn with
    | refl => exact .l z xs A c hc hm val b o hA h hz hcell
    | l _ hs =>
      rw [hs.len]
      refine .l z _ A c (hs.len ▸ hc) hm val b o (fun hp => hA (hs.len ▸ hp)) (fun i x hx => ?_) (fun i x hx => ?_) (fun i j x u hx hu => ?_)
      · obtain ⟨x', h2, h3⟩ := hs.get hx; exact ih i x' h2 h3
      · obtain ⟨x', h2, _⟩ := hs.get hx; exact hz i x' h2
      · obtain ⟨x', h2, _⟩ := hs.get hx; exact hcell i j x' u h2 hu
  | b x => cases hn; exact .b x
  | i k n => cases hn; exact .i k n
  | s x => cases hn; exact .s x
  | t xs vs hl h ih => cases hn; exact .t xs vs hl h
  | q xs vs b o hl h1 hI h hcell ih => cases hn; exact .q xs vs b o hl h1 hI h hcell
  | c f caps vs hl h ih => cases hn; exact .c f caps vs hl h
theorem shift_nil {X : Cx} {σ : St} {f : Bool} {x : V} (s : Nat) (y : V) (hs : σ.fr s = some (.v f x)) (h : NilLe x y) : Shift X σ (σ.put (some s) (.v f y)) :=
  shift_re hs fun _ _ _ _ _ hd => .v _ _ _ (hd.v_inv |> fun hv => h.rep hv)
end Bf
