/- The engine, part 9: the rules of append and make, parts of slices, arrays, min and max. No program is named here. -/
import Derived.Test.YtedblpbpoekdlaaF8
namespace Bf
open Go Go.RowKit

section
variable {P : Program} {N : Rm} {σ : St} {dst : Nat} {t tt ty : TypeId} {pos : String} {af : Array Edge} {g : Option (Nat × Bool)} {x y : Operand} {d : D} {f f1 f2 : Bool}

theorem Holds.gput {C : Ctx} {σ : St} {I : Nat → Prop} {a : Act} {w : World} (h : Holds C σ I a w) {dst : Nat} {d : D} {v : Value} (hd : DRep w I C.base d v) (hN : C.N.can dst = true) : Holds C (σ.put (some dst) d) I (a.put (some dst) v) w :=
  h.put (some dst) d v hd (fun s e => by cases e; exact hN)

/-- A slice of the call's own, laid anew. -/
def grew (σ : St) (dst k i e z len : Nat) (cs : List D) (σ' : St) : Prop := ∃ pl, σ' = (σ.setH k i (some (pl, .row e cs))).put (some dst) (.o k i pl z 0 len)
theorem grew_gh {σ σ' : St} {dst k i e z len : Nat} {cs : List D} (h : grew σ dst k i e z len cs σ') : σ'.gh = σ.gh := by obtain ⟨b, rfl⟩ := h; rfl

theorem run_append_op {a : Act} {w w' : World} {v : Value} (h : (Builtin.append_ #[t, t] tt #[a.eval x, a.eval y]).run P w = .ok v w') :
    (execOp a.eval ⟨some dst, .call { callee := .builtin .append, args := #[x, y], argTypes := #[t, t] }, tt, pos, af, g⟩).run P w = .ok (.value v) w' := by
  simp only [execOp, resolve, invoke, builtin, Sem.run_bind, Sem.run_pure, Result.andThen_ok, List.map_toArray, List.map_cons, List.map_nil, h]

/-- 's = append(s, ..)' on a slice of the call's own. -/
theorem e_append {k i len e z bytes m : Nat} {zv : Value} {pl : Pl} {xs cs : List D} [ht : TSl P t e] [hz : TSz P e z] [hzv : TZero P e zv] [hby : TBytes P e bytes]
    (hx : σ.ev x = some (.o k i pl z 0 len)) (hk : σ.hp k i = some (pl, .row e xs)) (hn : len * z = xs.length) (hy : σ.ev y = some d) (hs : Src σ.hp z d cs m) (hz1 : oneAll zv = true) (hzs : zv.cells.size = z)
    (hb : (len + m) * (bytes + 1) ≤ 140737488355328) (hN : N.can dst = true) :
    Eff P N ⟨some dst, .call { callee := .builtin .append, args := #[x, y], argTypes := #[t, t] }, tt, pos, af, g⟩ σ (grew σ dst k i e z (len + m) (xs ++ cs)) :=
  ⟨rfl, fun _ h => grew_gh h, fun C hCN I a w h => by
    subst hCN
    obtain ⟨pl', junk, v, w', h1, h2, h3, h4⟩ := app_core (P := P) (t := t) (tt := tt) h (h.ev hx) hk (by omega) hs (h.ev hy) hz1 hzs hb
    have hj := h2 rfl
    subst hj
    rw [run_append_op h1]
    exact ⟨_, I, ⟨pl', rfl⟩, by simpa using h3.gput h4 hN⟩⟩
/-- The same where the slice begins somewhere within its block. -/
theorem e_appendq {k i off len e z bytes m : Nat} {zv : Value} {pl : Pl} {xs cs : List D} [ht : TSl P t e] [hz : TSz P e z] [hzv : TZero P e zv] [hby : TBytes P e bytes]
    (hx : σ.ev x = some (.o k i pl z off len)) (hk : σ.hp k i = some (pl, .row e xs)) (hn : off + len * z = xs.length) (hy : σ.ev y = some d) (hs : Src σ.hp z d cs m) (hz1 : oneAll zv = true) (hzs : zv.cells.size = z)
    (hb : (len + m) * (bytes + 1) ≤ 140737488355328) (hN : N.can dst = true) :
    Eff P N ⟨some dst, .call { callee := .builtin .append, args := #[x, y], argTypes := #[t, t] }, tt, pos, af, g⟩ σ (fun σ' => ∃ pl junk, σ' = (σ.setH k i (some (pl, .row e (junk ++ (xs.drop off ++ cs))))).put (some dst) (.o k i pl z junk.length (len + m))) :=
  ⟨rfl, fun _ h => by obtain ⟨_, _, rfl⟩ := h; rfl, fun C hCN I a w h => by
    subst hCN
    obtain ⟨pl', junk, v, w', h1, h2, h3, h4⟩ := app_core (P := P) (t := t) (tt := tt) h (h.ev hx) hk (by omega) hs (h.ev hy) hz1 hzs hb
    rw [run_append_op h1]
    exact ⟨_, I, ⟨pl', junk, rfl⟩, h3.gput h4 hN⟩⟩
/-- 'append(nil, ..)'. -/
theorem e_append_nil {e z bytes m : Nat} {zv : Value} {cs : List D} (k i : Nat) [ht : TSl P t e] [hz : TSz P e z] [hzv : TZero P e zv] [hby : TBytes P e bytes]
    (hx : σ.ev x = some (.v f (.raw (.slice none 0 0)))) (hy : σ.ev y = some d) (hs : Src σ.hp z d cs m) (hm : ∀ pl blk, σ.hp k i = some (pl, blk) → cs = [] ∨ True) (hz1 : oneAll zv = true) (hzs : zv.cells.size = z)
    (hb : m * (bytes + 1) ≤ 140737488355328) (hN : N.can dst = true) :
    Eff P N ⟨some dst, .call { callee := .builtin .append, args := #[x, y], argTypes := #[t, t] }, tt, pos, af, g⟩ σ (grew σ dst k i e z m cs) :=
  ⟨rfl, fun _ h => grew_gh h, fun C hCN I a w h => by
    subst hCN
    obtain ⟨A, c, news, hu2, hnews, hone, hnl, hA⟩ := hs.ok h.wok (h.ev hy)
    obtain ⟨ii, hi, hi1, hi2, _⟩ := zeroSize hz.h hzv.h w
    have hib : ii.bytes = bytes := by have := hby.h; rw [hi] at this; simpa using this
    have hv := (h.ev hx).v_inv.raw_inv.1
    have h63 : m ≤ 140737488355328 := by have := Nat.le_mul_of_pos_right m (show 0 < bytes + 1 by omega); omega
    have hbb : m * bytes ≤ 140737488355328 := by rw [Nat.mul_add] at hb; omega
    by_cases hm0 : m = 0
    · subst hm0
      have hc0 : cs = [] := List.eq_nil_of_length_eq_zero (by simpa using hs.len)
      subst hc0
      have hr : (Builtin.append_ #[t, t] tt #[a.eval x, a.eval y]).run P w = .ok (.slice none 0 0) w := by
        rw [hv, hu2]
        cases A <;> simp [Builtin.append_, run_underlying ht.h, Go.sizeOf, typeInfo, hi, Builtin.lenOf, Builtin.firstCells, loadCells, loadCellsFrom]
      rw [run_append_op hr]
      exact ⟨_, I, ⟨none, rfl⟩, (h.set k i none (.row e []) rfl rfl rfl (Nat.le_refl _) (fun _ _ _ => rfl) (fun b n e => by cases e) rfl).gput (.onil k i z) hN⟩
    · obtain ⟨b, o, rfl, hcell⟩ := hA (by omega)
      have hr := run_append_nil (P := P) w t tt e ii zv ht.h hi hi1 ⟨b, o, none⟩ m c news (by rw [hi2]; exact hnl) (fun j u hu => by rw [addr_add]; exact hcell j u hu) (by omega) (by omega) (by rw [hib]; omega)
      rw [← hu2, ← hv] at hr
      rw [run_append_op hr]
      have hge : m ≤ grownCap w m 0 e := grownCap_ge w m 0 e
      have hcm : grownCap w m 0 e ≤ maxLen := grownCap_le_maxLen w m 0 e (by simp only [maxLen]; omega)
      have hk' : Keeps w (w.drew.alloc (.cells (news.toArray ++ Builtin.zeroCells zv.cells (grownCap w m 0 e - m)) e)) := (Below.refl _ w).drew.alloc (by simp) _
      have hzc : (Builtin.zeroCells zv.cells (grownCap w m 0 e - m)).toList.length = (grownCap w m 0 e - m) * z := by rw [Array.length_toList, size_zeroCells, hzs]
      refine ⟨_, I, ⟨some (w.heap.size, grownCap w m 0 e * z), rfl⟩, (h.lay k i _ (.row e cs) hk' (by simp) ⟨news ++ (Builtin.zeroCells zv.cells (grownCap w m 0 e - m)).toList, ?_, ?_, ?_, ?_, ?_⟩).gput (.o k i _ _ z 0 m _ hge hcm (by omega)) hN⟩
      · have := heap_alloc_new w.drew (.cells (news.toArray ++ Builtin.zeroCells zv.cells (grownCap w m 0 e - m)) e)
        refine this.trans ?_
        simp
      · rw [List.length_append, hnl, hzc, ← Nat.add_mul]
        congr 1; omega
      · rw [hs.len]; exact Nat.mul_le_mul_right _ hge
      · intro v hv
        rcases List.mem_append.1 hv with hv | hv
        · exact hone v hv
        · simp only [Builtin.zeroCells, Array.toList_map, List.mem_map, Array.toList_range, List.mem_range] at hv
          obtain ⟨j, hj, rfl⟩ := hv
          have hp : 0 < zv.cells.size := Nat.pos_of_mul_pos_left (show 0 < (grownCap w m 0 e - m) * zv.cells.size by omega)
          rw [getElem!_pos zv.cells _ (Nat.mod_lt _ hp)]
          exact (zeroV_reps (w := w) (I := I) hz1).2 _ (by simp)
      · intro j d v hd hv
        have hj : j < news.length := by rw [← hnews.1]; exact (List.getElem?_eq_some_iff.1 hd).1
        rw [List.getElem?_append_left hj] at hv
        exact (hnews.2 j d v hd hv).mono (fun b hb => hk'.block b (h.wok.ilt b hb)) (fun _ hb => hb)⟩
/-- 'append(slices.Clip(s), ..)' on data. -/
theorem e_append_cl {e z bytes m : Nat} {zv : Value} {xs : List V} {cs : List D} (k i : Nat) [ht : TSl P t e] [hz : TSz P e z] [hzv : TZero P e zv] [hby : TBytes P e bytes]
    (hx : σ.ev x = some (.cl f z xs)) (hxp : ∀ y ∈ xs, y.plain = true ∧ (V.cells y).length = z) (hy : σ.ev y = some d) (hs : Src σ.hp z d cs m) (hm : 0 < m) (hz1 : oneAll zv = true) (hzs : zv.cells.size = z)
    (hb : (xs.length + m) * (bytes + 1) ≤ 140737488355328) (hN : N.can dst = true) :
    Eff P N ⟨some dst, .call { callee := .builtin .append, args := #[x, y], argTypes := #[t, t] }, tt, pos, af, g⟩ σ (grew σ dst k i e z (xs.length + m) (els f xs ++ cs)) :=
  ⟨rfl, fun _ h => grew_gh h, fun C hCN I a w h => by
    subst hCN
    obtain ⟨A2, c, news, hu2, hnews, hone, hnl, hA2⟩ := hs.ok h.wok (h.ev hy)
    obtain ⟨ii, hi, hi1, hi2, _⟩ := zeroSize hz.h hzv.h w
    have hib : ii.bytes = bytes := by have := hby.h; rw [hi] at this; simpa using this
    have h63 : xs.length + m ≤ 140737488355328 := by have := Nat.le_mul_of_pos_right (xs.length + m) (show 0 < bytes + 1 by omega); omega
    have hbb : (xs.length + m) * bytes ≤ 140737488355328 := by rw [Nat.mul_add] at hb; omega
    have hxv := h.ev hx
    obtain ⟨A, hv, hvr⟩ : ∃ A, a.eval x = .slice A xs.length xs.length ∧ VRep w (fresh f I C.base) (.l z xs) (.slice A xs.length xs.length) := by
      generalize hu : a.eval x = u at hxv
      cases hxv with
      | cl _ _ _ A hr => exact ⟨A, rfl, hr⟩
    obtain ⟨A', c', olds, e1, _, _, ho1, ho2, ho3⟩ := hvr.flat_cells (fun y hy => (hxp y hy).1)
    cases e1
    have hol : olds.length = xs.length * z := by rw [← ho1.1, flatMap_len _ _ (fun y hy => (hxp y hy).2)]
    obtain ⟨b2, o2, rfl, hcell⟩ := hA2 hm
    have key : ∃ old, (Builtin.append_ #[t, t] tt #[a.eval x, a.eval y]).run P w = .ok (.slice (some ⟨w.heap.size, 0, none⟩) (xs.length + m) (grownCap w (xs.length + m) old e)) (w.drew.alloc (.cells (olds.toArray ++ news.toArray ++ Builtin.zeroCells zv.cells (grownCap w (xs.length + m) old e - (xs.length + m))) e)) := by
      by_cases hx0 : 0 < xs.length
      · obtain ⟨b, o, rfl, _, hcx⟩ := ho3 hx0
        refine ⟨xs.length, ?_⟩
        rw [hv, hu2]
        exact run_append_grow (P := P) w t tt e ii zv ht.h hi hi1 ⟨b, o, none⟩ xs.length xs.length olds (by rw [hi2]; exact hol) (fun j u hu => by rw [addr_add]; exact hcx j u hu) ⟨b2, o2, none⟩ m c news (by rw [hi2]; exact hnl) (fun j u hu => by rw [addr_add]; exact hcell j u hu) (by omega) (by omega) (by rw [hib]; exact growslice_fits (by omega) hbb)
      · have hx1 : xs = [] := List.eq_nil_of_length_eq_zero (by omega)
        subst hx1
        have ho0 : olds = [] := List.eq_nil_of_length_eq_zero (by simpa using hol)
        subst ho0
        refine ⟨0, ?_⟩
        rw [hv, hu2]
        simp only [List.length_nil, Nat.zero_add] at hbb h63 ⊢
        cases A with
        | none =>
          have hr := run_append_nil (P := P) w t tt e ii zv ht.h hi hi1 ⟨b2, o2, none⟩ m c news (by rw [hi2]; exact hnl) (fun j u hu => by rw [addr_add]; exact hcell j u hu) hm (by omega) (by rw [hib]; omega)
          simpa using hr
        | some ad =>
          have hr := run_append_grow (P := P) w t tt e ii zv ht.h hi hi1 ad 0 0 [] (by simp) (by simp) ⟨b2, o2, none⟩ m c news (by rw [hi2]; exact hnl) (fun j u hu => by rw [addr_add]; exact hcell j u hu) (by omega) (by omega) (by rw [hib]; exact growslice_fits (by omega) (by simpa using hbb))
          simpa using hr
    obtain ⟨old, hr⟩ := key
    rw [run_append_op hr]
    have hge : xs.length + m ≤ grownCap w (xs.length + m) old e := grownCap_ge ..
    have hcm : grownCap w (xs.length + m) old e ≤ maxLen := grownCap_le_maxLen w _ old e (by simp only [maxLen]; omega)
    have hk' : Keeps w (w.drew.alloc (.cells (olds.toArray ++ news.toArray ++ Builtin.zeroCells zv.cells (grownCap w (xs.length + m) old e - (xs.length + m))) e)) := (Below.refl _ w).drew.alloc (by simp) _
    have hzc : (Builtin.zeroCells zv.cells (grownCap w (xs.length + m) old e - (xs.length + m))).toList.length = (grownCap w (xs.length + m) old e - (xs.length + m)) * z := by rw [Array.length_toList, size_zeroCells, hzs]
    have hod : DReps w I C.base (els f xs) olds := by rw [els_map]; exact .of_v ho1
    have hall := hod.append hnews
    refine ⟨_, I, ⟨some (w.heap.size, grownCap w (xs.length + m) old e * z), rfl⟩, (h.lay k i _ (.row e (els f xs ++ cs)) hk' (by simp) ⟨olds ++ news ++ (Builtin.zeroCells zv.cells (grownCap w (xs.length + m) old e - (xs.length + m))).toList, ?_, ?_, ?_, ?_, ?_⟩).gput (.o k i _ _ z 0 _ _ hge hcm (by omega)) hN⟩
    · have := heap_alloc_new w.drew (.cells (olds.toArray ++ news.toArray ++ Builtin.zeroCells zv.cells (grownCap w (xs.length + m) old e - (xs.length + m))) e)
      refine this.trans ?_
      simp
    · rw [List.length_append, List.length_append, hol, hnl, hzc, ← Nat.add_mul, ← Nat.add_mul]
      congr 1; omega
    · rw [hall.1, List.length_append, hol, hnl, ← Nat.add_mul]; exact Nat.mul_le_mul_right _ hge
    · intro v hv
      simp only [List.mem_append] at hv
      rcases hv with (hv | hv) | hv
      · exact ho2 v hv
      · exact hone v hv
      · simp only [Builtin.zeroCells, Array.toList_map, List.mem_map, Array.toList_range, List.mem_range] at hv
        obtain ⟨j, hj, rfl⟩ := hv
        have hp : 0 < zv.cells.size := Nat.pos_of_mul_pos_left (show 0 < (grownCap w (xs.length + m) old e - (xs.length + m)) * zv.cells.size by omega)
        rw [getElem!_pos zv.cells _ (Nat.mod_lt _ hp)]
        exact (zeroV_reps (w := w) (I := I) hz1).2 _ (by simp)
    · intro j d v hd hv
      have hj : j < (olds ++ news).length := by rw [← hall.1]; exact (List.getElem?_eq_some_iff.1 hd).1
      rw [List.getElem?_append_left hj] at hv
      exact (hall.2 j d v hd hv).mono (fun b hb => hk'.block b (h.wok.ilt b hb)) (fun _ hb => hb)⟩

/-! #### make -/
def zeroE : Value → V
  | .agg cs => .st (cs.toList.map constV)
  | v => constV v
theorem zeroE_cells {v : Value} (h : oneAll v = true) : V.cells (zeroE v) = zeroV v ∧ (zeroE v).plain = true := by
  cases v <;> simp_all [zeroE, zeroV, V.cells, V.plain, constV, oneAll, Value.cells, Value.oneCell']
theorem cycle_get {α : Type} {l : List α} {z : Nat} (hl : l.length = z) : ∀ {n j : Nat}, j < n * z → (List.replicate n l).flatten[j]? = l[j % z]?
  | 0, j, hj => by simp at hj
  | n + 1, j, hj => by
    simp only [List.replicate_succ, List.flatten_cons]
    by_cases h : j < z
    · rw [List.getElem?_append_left (by omega), Nat.mod_eq_of_lt h]
    · rw [List.getElem?_append_right (by omega), hl, cycle_get hl (by rw [Nat.add_mul] at hj; omega)]
      rw [← Nat.mod_eq_sub_mod (by omega)]
theorem els_replicate (f : Bool) (n : Nat) (x : V) : els f (List.replicate n x) = (List.replicate n (cellsD f x)).flatten := by
  induction n with
  | zero => rfl
  | succ n ih => rw [List.replicate_succ, List.replicate_succ, List.flatten_cons, ← ih]; rfl

/-- 'make([]T, n)'. -/
theorem e_make {e z bytes n : Nat} {zv : Value} {k1 k2 : IntKind} (k i : Nat) [ht : TSl P t e] [hz : TSz P e z] [hzv : TZero P e zv] [hby : TBytes P e bytes] (h1 : oneAll zv = true) (hzs : zv.cells.size = z)
    (hx : σ.ev x = some (.v f1 (.i k1 (n : Nat)))) (hy : σ.ev y = some (.v f2 (.i k2 (n : Nat)))) (hb : n * (bytes + 1) ≤ 281474976710656) (hN : N.can dst = true) :
    Eff P N ⟨some dst, .makeSlice t x y, tt, pos, af, g⟩ σ (laid σ dst k i (n * z) (.row e (els true (List.replicate n (zeroE zv)))) (fun b => .o k i (some (b, n * z)) z 0 n)) :=
  ⟨rfl, fun _ h => laid_gh h, fun C hCN I a w h => by
    subst hCN
    obtain ⟨ii, hi, hi1, hi2, _⟩ := zeroSize hz.h hzv.h w
    have hib : ii.bytes = bytes := by have := hby.h; rw [hi] at this; simpa using this
    have h63 : n ≤ 281474976710656 := Nat.le_trans (Nat.le_mul_of_pos_right n (show 0 < bytes + 1 by omega)) hb
    have hbb : n * bytes ≤ 281474976710656 := by rw [Nat.mul_add] at hb; omega
    have hbi : (ii.bytes : Int) * ((n : Nat) : Int) ≤ 281474976710656 := by
      rw [hib]
      have h : ((bytes * n : Nat) : Int) ≤ 281474976710656 := by rw [Nat.mul_comm]; omega
      rwa [Int.natCast_mul] at h
    have hr := run_make (P := P) w t e ii zv ht.h hi hi1 k1 k2 (n : Nat) (n : Nat) (by omega) (by omega) hbi (by omega)
    simp only [Int.toNat_natCast] at hr
    have e1 := (h.ev hx).i_inv
    have e2 := (h.ev hy).i_inv
    simp only [execOp, e1, e2, Sem.run_bind, hr, Sem.run_pure, Result.andThen_ok]
    have hsz : (madeCells zv.cells (n * ii.size)).toList.length = n * z := by simp [size_madeCells, hi2]
    obtain ⟨hz1, hz2⟩ := zeroV_reps (w := w) (I := fresh true I C.base) h1
    have hcz : cellsD true (zeroE zv) = (zeroV zv).map (D.v true) := by unfold cellsD; rw [(zeroE_cells h1).1]
    have hclen : (cellsD true (zeroE zv)).length = z := by rw [hcz, List.length_map, hz1.1]; simpa using hzs
    have hel : (els true (List.replicate n (zeroE zv))).length = n * z := by rw [els_replicate]; simp [hclen]
    have hget : ∀ (j : Nat) v, (madeCells zv.cells (n * ii.size)).toList[j]? = some v → zv.cells.toList[j % z]? = some v ∧ j < n * z := fun j v hv => by
      have hj : j < n * z := by rw [← hsz]; exact (List.getElem?_eq_some_iff.1 hv).1
      have hzp : 0 < z := Nat.pos_of_mul_pos_left (show 0 < n * z by omega)
      have hmod : j % zv.cells.size < zv.cells.size := Nat.mod_lt _ (by omega)
      simp only [madeCells, Array.toList_map, List.getElem?_map, Array.toList_range, List.getElem?_range (show j < n * ii.size by rw [hi2]; exact hj), Option.map_some, Option.some.injEq] at hv
      rw [getElem!_pos zv.cells _ hmod] at hv
      refine ⟨?_, hj⟩
      rw [← hv, ← hzs]
      simp [hmod]
    refine ⟨_, I, ⟨w.heap.size, rfl⟩, (h.lay k i _ _ (keeps_alloc w _) (by simp) ?_).gput (.o k i _ _ z 0 n n (Nat.le_refl _) (by simp only [maxLen]; omega) (by omega)) hN⟩
    have := row_new (base := C.base) (ty := e) (ds := els true (List.replicate n (zeroE zv))) (vs := (madeCells zv.cells (n * ii.size)).toList) h.wok.ilt ⟨by rw [hel, hsz], fun j d v hd hv => ?_⟩ (fun v hv => ?_)
    · rw [hel] at this
      simpa using this
    · obtain ⟨g1, g2⟩ := hget j v hv
      rw [els_replicate, cycle_get hclen g2, hcz, List.getElem?_map] at hd
      cases hq : (zeroV zv)[j % z]? with
      | none => rw [hq] at hd; cases hd
      | some q => rw [hq] at hd; cases hd; exact .v _ _ _ (hz1.2 _ q v hq g1)
    · obtain ⟨j, hj⟩ := List.getElem?_of_mem hv
      exact hz2 v (List.mem_of_getElem? (hget j v hj).1)⟩

/-! #### Arrays -/
class TPtr (P : Program) (t : TypeId) (e : outParam TypeId) : Prop where h : P.underlying t = some (.pointer e)
class TZeroA (P : Program) (t : TypeId) (n : outParam Nat) (zv : outParam Value) : Prop where h : (P.info? t).bind (·.zero) = some (.agg (List.replicate n zv.cells.toList).flatten.toArray)

theorem e_alloc_a {n z : Nat} {zv : Value} (k i : Nat) [hzv : TZeroA P t n zv] (h1 : oneAll zv = true) (hzs : zv.cells.size = z) (hN : N.can dst = true) :
    Eff P N ⟨some dst, .alloc t, tt, pos, af, g⟩ σ (laid σ dst k i (n * z) (.row t (els true (List.replicate n (zeroE zv)))) (fun b => .p k i b 0)) :=
  ⟨rfl, fun _ h => laid_gh h, fun C hCN I a w h => by
    subst hCN
    have hzz := hzv.h
    cases hi : P.info? t with
    | none => rw [hi] at hzz; cases hzz
    | some ii =>
      rw [hi] at hzz
      simp only [Option.bind_some] at hzz
      simp only [execOp, Instr.alloc, zeroValue, typeInfo, Sem.run_bind, run_program, Sem.run_pure, Result.andThen_ok, hi, hzz, newVar, newRow, run_newObj]
      obtain ⟨hz1, hz2⟩ := zeroV_reps (w := w) (I := fresh true I C.base) h1
      have hcz : cellsD true (zeroE zv) = (zeroV zv).map (D.v true) := by unfold cellsD; rw [(zeroE_cells h1).1]
      have hclen : (cellsD true (zeroE zv)).length = z := by rw [hcz, List.length_map, hz1.1]; simpa using hzs
      have hel : (els true (List.replicate n (zeroE zv))).length = n * z := by rw [els_replicate]; simp [hclen]
      have hfl : (List.replicate n zv.cells.toList).flatten.length = n * z := by simp [hzs]
      refine ⟨_, I, ⟨w.heap.size, rfl⟩, (h.lay k i _ _ (keeps_alloc w _) (by simp) ?_).gput (.p _ _ _ _) hN⟩
      have := row_new (base := C.base) (ty := t) (ds := els true (List.replicate n (zeroE zv))) (vs := (List.replicate n zv.cells.toList).flatten) h.wok.ilt ⟨by rw [hel, hfl], fun j d v hd hv => ?_⟩ (fun v hv => ?_)
      · rw [hel] at this
        exact this
      · have hj : j < n * z := by rw [← hfl]; exact (List.getElem?_eq_some_iff.1 hv).1
        rw [cycle_get (by simpa using hzs) hj] at hv
        rw [els_replicate, cycle_get hclen hj, hcz, List.getElem?_map] at hd
        cases hq : (zeroV zv)[j % z]? with
        | none => rw [hq] at hd; cases hd
        | some q => rw [hq] at hd; cases hd; exact .v _ _ _ (hz1.2 _ q v hq hv)
      · simp only [List.mem_flatten, List.mem_replicate] at hv
        obtain ⟨l, ⟨_, rfl⟩, hv⟩ := hv
        exact hz2 _ hv⟩

theorem q_idx_a {hp : Hp} {ev : Operand → Option D} {dst : Option Nat} {el z k i b off len : Nat} {kk : IntKind} {n : Int} [ht : TArr P t len el] [hz : TSz P el z] (hx : ev x = some (.p k i b off)) (hy : ev y = some (.v f2 (.i kk n))) (h0 : 0 ≤ n) (h1 : n < len) :
    Quiet P hp ev ⟨dst, .indexAddr t x y, tt, pos, af, g⟩ (.p k i b (off + n.toNat * z)) :=
  Quiet.of ⟨rfl, fun C I w ρ _ hρ => by
    have h8 := (hρ y (by simp [Op.operands]) _ hy).i_inv
    have hu := (hρ x (by simp [Op.operands]) _ hx).p_inv
    simp only [execOp, Instr.indexAt, asIntOf, Instr.sureAddr, h8, hu, Sem.run_bind, Sem.run_pure, run_underlying ht.h, Result.andThen_ok, if_pos (show 0 ≤ n ∧ n < (len : Int) from ⟨h0, h1⟩), rsz w hz.h, addr_add]
    exact ⟨rfl, .p _ _ _ _⟩⟩

theorem q_max {hp : Hp} {ev : Operand → Option D} {dst : Option Nat} {k : IntKind} {a b : Int} {ats : Array TypeId} (hx : ev x = some (.v f1 (.i k a))) (hy : ev y = some (.v f2 (.i k b))) :
    Quiet P hp ev ⟨dst, .call { callee := .builtin .max, args := #[x, y], argTypes := ats }, tt, pos, af, g⟩ (.v true (.i k (max a b))) :=
  Quiet.of ⟨rfl, fun C I w ρ _ hρ => by
    have h1 := (hρ x (by simp [Op.operands, Call.operands]) _ hx).i_inv
    have h2 := (hρ y (by simp [Op.operands, Call.operands]) _ hy).i_inv
    simp only [execOp, resolve, invoke, builtin, List.map_toArray, List.map_cons, List.map_nil, h1, h2, Builtin.max_, List.foldlM_cons, List.foldlM_nil, Builtin.max2, Sem.run_bind, Sem.run_pure, Result.andThen_ok]
    refine ⟨rfl, ?_⟩
    have : (if a < b then b else a) = max a b := by omega
    rw [this]
    exact .v _ _ _ (.i _ _)⟩
theorem q_min {hp : Hp} {ev : Operand → Option D} {dst : Option Nat} {k : IntKind} {a b : Int} {ats : Array TypeId} (hx : ev x = some (.v f1 (.i k a))) (hy : ev y = some (.v f2 (.i k b))) :
    Quiet P hp ev ⟨dst, .call { callee := .builtin .min, args := #[x, y], argTypes := ats }, tt, pos, af, g⟩ (.v true (.i k (min a b))) :=
  Quiet.of ⟨rfl, fun C I w ρ _ hρ => by
    have h1 := (hρ x (by simp [Op.operands, Call.operands]) _ hx).i_inv
    have h2 := (hρ y (by simp [Op.operands, Call.operands]) _ hy).i_inv
    simp only [execOp, resolve, invoke, builtin, List.map_toArray, List.map_cons, List.map_nil, h1, h2, Builtin.min_, List.foldlM_cons, List.foldlM_nil, Builtin.min2, Sem.run_bind, Sem.run_pure, Result.andThen_ok]
    refine ⟨rfl, ?_⟩
    have : (if b < a then b else a) = min a b := by omega
    rw [this]
    exact .v _ _ _ (.i _ _)⟩
end

/-! #### Parts of slices -/
/-- The bounds of a part of a slice: what stands there, or what is meant where nothing stands. -/
inductive Bd (ev : Operand → Option D) (n : Nat) : Option Operand → Nat → Prop
  | none : Bd ev n none n
  | some {y : Operand} {f : Bool} {k : IntKind} {i : Int} (h : ev y = some (.v f (.i k i))) (h0 : 0 ≤ i) : Bd ev n (some y) i.toNat

theorem bound_ok {P : Program} {k : IntKind} {n : Int} {y : Nat} {code : BoundsCode} (h0 : 0 ≤ n) (h1 : n.toNat ≤ y) (w : World) : (Instr.sliceBound (.int k n) y code).run P w = .ok n.toNat w := by
  have : n ≤ (y : Int) := by omega
  simp [Instr.sliceBound, asIntOf, h0, this]
/-- low, high and the greatest one. -/
theorem bounds_ok {P : Program} {ev : Operand → Option D} {ρ : Operand → Value} {w : World} {I : Nat → Prop} {base len cap l h m : Nat} {lo hi mx : Option Operand} (hl : Bd ev 0 lo l) (hh : Bd ev len hi h) (hm : Bd ev cap mx m) (hx : mx.isSome = true → hi.isSome = true) (h1 : l ≤ h) (h2 : h ≤ m) (h3 : m ≤ cap) (isS : Bool)
    (hρ : ∀ x ∈ lo.toList ++ hi.toList ++ mx.toList, ∀ d', ev x = some d' → DRep w I base d' (ρ x)) : (Instr.sliceBounds isS len cap (lo.map ρ) (hi.map ρ) (mx.map ρ)).run P w = .ok (l, h, m) w := by
  cases hl with
  | none =>
    cases hh with
    | none =>
      cases hm with
      | none => simp [Instr.sliceBounds]
      | some e e0 => cases hx rfl
    | some g g0 =>
      have q2 := (hρ _ (by simp) _ g).i_inv
      cases hm with
      | none => simp [Instr.sliceBounds, q2, bound_ok (P := P) g0 h2]
      | some e e0 =>
        have q3 := (hρ _ (by simp) _ e).i_inv
        simp [Instr.sliceBounds, q2, q3, bound_ok (P := P) g0 h2, bound_ok (P := P) e0 h3]
  | some p p0 =>
    have q1 := (hρ _ (by simp) _ p).i_inv
    cases hh with
    | none =>
      cases hm with
      | none => simp [Instr.sliceBounds, q1, bound_ok (P := P) p0 h1]
      | some e e0 => cases hx rfl
    | some g g0 =>
      have q2 := (hρ _ (by simp) _ g).i_inv
      cases hm with
      | none => simp [Instr.sliceBounds, q1, q2, bound_ok (P := P) g0 h2, bound_ok (P := P) p0 h1]
      | some e e0 =>
        have q3 := (hρ _ (by simp) _ e).i_inv
        simp [Instr.sliceBounds, q1, q2, q3, bound_ok (P := P) g0 h2, bound_ok (P := P) e0 h3, bound_ok (P := P) p0 h1]

section
variable {P : Program} {hp : Hp} {ev : Operand → Option D} {dst : Option Nat} {t tt ty : TypeId} {pos : String} {af : Array Edge} {g : Option (Nat × Bool)} {x y c : Operand} {d : D} {f f1 f2 : Bool}
theorem VRep.part {w : World} {I : Nat → Prop} {z : Nat} {xs : List V} {A : Option Addr} {len c l h : Nat} (hr : VRep w I (.l z xs) (.slice A len c)) (hl : l ≤ h) (hh : h ≤ xs.length) (m : Nat) (hm : h ≤ m) (hmc : m ≤ c) :
    VRep w I (.l z ((xs.take h).drop l)) (.slice (if m = l then A else A.map (·.add (l * z))) (h - l) (m - l)) := by
  obtain ⟨A', c', b, o, val, e, h1, h2, h3, h4, h5, h6⟩ := hr.l_inv
  cases e
  have hlen : ((xs.take h).drop l).length = h - l := by simp; omega
  rw [← hlen]
  refine .l z _ _ _ (by rw [hlen]; omega) (by omega) (fun i => val (l + i)) b (o + l * z) (fun hp => ?_) (fun i x hx => ?_) (fun i x hx => ?_) (fun i j x u hx hu => ?_)
  · rw [hlen] at hp
    obtain ⟨rfl, hI⟩ := h3 (by omega)
    rw [if_neg (by omega)]
    exact ⟨by simp [addr_add], hI⟩
  · rw [List.getElem?_drop, List.getElem?_take] at hx
    split at hx
    · exact h4 _ x hx
    · cases hx
  · rw [List.getElem?_drop, List.getElem?_take] at hx
    split at hx
    · exact h5 _ x hx
    · cases hx
  · rw [List.getElem?_drop, List.getElem?_take] at hx
    split at hx
    · have := h6 _ j x u hx hu
      rw [Nat.add_mul] at this
      rw [show o + l * z + (i * z + j) = o + (l * z + i * z + j) by omega]
      exact this
    · cases hx

theorem run_slice_slice {w : World} {e z len cap l h m : Nat} {A : Option Addr} {lo hi mx : Option Value} (ht : P.underlying t = some (.slice e)) (hz : hasSize P e z = true) (hb : (Instr.sliceBounds true len cap lo hi mx).run P w = .ok (l, h, m) w) :
    (Instr.slice t (.slice A len cap) lo hi mx).run P w = .ok (.slice (if m = l then A else A.map (·.add (l * z))) (h - l) (m - l)) w := by
  simp only [Instr.slice, Sem.run_bind, run_underlying ht, Result.andThen_ok, hb, rsz w hz, Sem.run_pure]

/-- A part of a slice of data. (The greatest bound is not given.) -/
theorem q_slice {e z l h : Nat} {xs : List V} {lo hi : Option Operand} [ht : TSl P t e] [hz : TSz P e z] (hx : ev x = some (.v f (.l z xs))) (hl : Bd ev 0 lo l) (hh : Bd ev xs.length hi h) (h1 : l ≤ h) (h2 : h ≤ xs.length) :
    Quiet P hp ev ⟨dst, .slice t x lo hi none, tt, pos, af, g⟩ (.v f (.l z ((xs.take h).drop l))) :=
  Quiet.of ⟨rfl, fun C I w ρ _ hρ => by
    have hr := (hρ x (by simp [Op.operands]) _ hx).v_inv
    obtain ⟨A, cp, b, o, val, e', h3, h4, _⟩ := hr.l_inv
    rw [e'] at hr
    have hp := hr.part h1 h2 cp (by omega) (Nat.le_refl _)
    have hbd := bounds_ok (P := P) (ρ := ρ) (I := I) (base := C.base) (w := w) (cap := cp) hl hh .none (by simp) h1 (by omega) (Nat.le_refl _) true (fun y hy d' hd => hρ y (by simp only [Op.operands]; simp at hy ⊢; rcases hy with hy | hy <;> simp [hy]) d' hd)
    simp only [execOp, Instr.sliceAt, Sem.run_bind, run_underlying ht.h, Result.andThen_ok, e', run_slice_slice (P := P) ht.h hz.h hbd, Result.andThen_ok, Sem.run_pure]
    exact ⟨rfl, .v _ _ _ hp⟩⟩
/-- 's[l:h:h]' on data: what is behind it cannot be reached. -/
theorem q_slice3 {e z l h m : Nat} {xs : List V} {lo hi mx : Option Operand} [ht : TSl P t e] [hz : TSz P e z] (hx : ev x = some (.v f (.l z xs))) (hl : Bd ev 0 lo l) (hh : Bd ev xs.length hi h) (hm : Bd ev h mx m) (hmx : mx.isSome = true) (hhi : hi.isSome = true) (hmh : m = h) (h1 : l ≤ h) (h2 : h ≤ xs.length) :
    Quiet P hp ev ⟨dst, .slice t x lo hi mx, tt, pos, af, g⟩ (.cl f z ((xs.take h).drop l)) :=
  Quiet.of ⟨rfl, fun C I w ρ _ hρ => by
    subst hmh
    have hr := (hρ x (by simp [Op.operands]) _ hx).v_inv
    obtain ⟨A, cp, b, o, val, e', h3, h4, _⟩ := hr.l_inv
    rw [e'] at hr
    have hp := hr.part h1 h2 m (Nat.le_refl _) (by omega)
    have hm' : Bd ev cp mx m := by
      cases hm with
      | none => cases hmx
      | some a b => exact .some a b
    have hbd := bounds_ok (P := P) (ρ := ρ) (I := I) (base := C.base) (w := w) (cap := cp) hl hh hm' (fun _ => hhi) h1 (Nat.le_refl _) (by omega) true (fun y hy d' hd => hρ y (by simp only [Op.operands]; simp at hy ⊢; rcases hy with hy | hy | hy <;> simp [hy]) d' hd)
    simp only [execOp, Instr.sliceAt, Sem.run_bind, run_underlying ht.h, Result.andThen_ok, e', run_slice_slice (P := P) ht.h hz.h hbd, Result.andThen_ok, Sem.run_pure]
    have hlen : ((xs.take m).drop l).length = m - l := by simp; omega
    have hp' := hp
    rw [← hlen] at hp' ⊢
    exact ⟨rfl, .cl f z _ _ hp'⟩⟩
/-- A part of a slice of the call's own. -/
theorem q_slice_o {e z k i b n off len l h : Nat} {lo hi : Option Operand} [ht : TSl P t e] [hz : TSz P e z] (hx : ev x = some (.o k i (some (b, n)) z off len)) (hl : Bd ev 0 lo l) (hh : Bd ev len hi h) (h1 : l ≤ h) (h2 : h ≤ len) (hlz : h = l → l * z = 0 ∨ l < len) :
    Quiet P hp ev ⟨dst, .slice t x lo hi none, tt, pos, af, g⟩ (.o k i (some (b, n)) z (off + l * z) (h - l)) :=
  Quiet.of ⟨rfl, fun C I w ρ _ hρ => by
    obtain ⟨cap, e', h3, h4, h5⟩ := (hρ x (by simp [Op.operands]) _ hx).osome
    have hbd := bounds_ok (P := P) (ρ := ρ) (I := I) (base := C.base) (w := w) (cap := cap) hl hh .none (by simp) h1 (by omega) (Nat.le_refl _) true (fun y hy d' hd => hρ y (by simp only [Op.operands]; simp at hy ⊢; rcases hy with hy | hy <;> simp [hy]) d' hd)
    simp only [execOp, Instr.sliceAt, Sem.run_bind, run_underlying ht.h, Result.andThen_ok, e', run_slice_slice (P := P) ht.h hz.h hbd, Result.andThen_ok, Sem.run_pure]
    have hcz : l * z + (cap - l) * z = cap * z := by rw [← Nat.add_mul]; congr 1; omega
    have hadd : (if cap = l then (some ⟨b, off, none⟩ : Option Addr) else (some (⟨b, off, none⟩ : Addr)).map (·.add (l * z))) = some ⟨b, off + l * z, none⟩ := by
      by_cases hcl : cap = l
      · rw [if_pos hcl]
        rcases hlz (by omega) with hz0 | hz0
        · rw [hz0]; rfl
        · omega
      · rw [if_neg hcl]; simp [addr_add]
    rw [hadd]
    exact ⟨rfl, .o k i b n z _ _ _ (by omega) (by omega) (by omega)⟩⟩
/-- The whole of an array of the call's own, as a slice. -/
theorem q_slice_a {e z k i b n l h len : Nat} {pl : Pl} {ty' : TypeId} {xs : List D} {lo hi : Option Operand} [ht : TArr P t len e] [hz : TSz P e z] (hx : ev x = some (.p k i b 0)) (_hk : hp k i = some (some (b, n), .row ty' xs)) (hn : len * z ≤ n) (hlm : len ≤ maxLen) (hl : Bd ev 0 lo l) (hh : Bd ev len hi h) (h1 : l ≤ h) (h2 : h ≤ len) (hlz : l = 0 ∨ l < len) :
    Quiet P hp ev ⟨dst, .slice t x lo hi none, tt, pos, af, g⟩ (.o k i (some (b, n)) z (l * z) (h - l)) :=
  Quiet.of ⟨rfl, fun C I w ρ _ hρ => by
    have e' := (hρ x (by simp [Op.operands]) _ hx).p_inv
    have hbd := bounds_ok (P := P) (ρ := ρ) (I := I) (base := C.base) (w := w) (cap := len) hl hh .none (by simp) h1 h2 (Nat.le_refl _) false (fun y hy d' hd => hρ y (by simp only [Op.operands]; simp at hy ⊢; rcases hy with hy | hy <;> simp [hy]) d' hd)
    have hcz : l * z + (len - l) * z = len * z := by rw [← Nat.add_mul]; congr 1; omega
    have hadd : (if len = l then (⟨b, 0, none⟩ : Addr) else (⟨b, 0, none⟩ : Addr).add (l * z)) = ⟨b, l * z, none⟩ := by
      by_cases hcl : len = l
      · rw [if_pos hcl]
        rcases hlz with h0 | h0
        · rw [h0, Nat.zero_mul]
        · omega
      · rw [if_neg hcl]; simp [addr_add]
    have hbd' : (Instr.sliceBounds false len len (lo.map ρ) (hi.map ρ) none).run P w = .ok (l, h, len) w := hbd
    simp only [execOp, Instr.sliceAt, Instr.sureAddr, Sem.run_bind, e', Option.map_none, run_underlying ht.h, hbd', rsz w hz.h, hadd, Result.andThen_ok, Sem.run_pure]
    exact ⟨rfl, .o k i b n z _ _ _ (by omega) (by omega) (by omega)⟩⟩
end
end Bf
