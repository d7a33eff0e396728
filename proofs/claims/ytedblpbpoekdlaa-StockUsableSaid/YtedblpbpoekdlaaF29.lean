/- The engine, part 29: typed maps; clear; a first part of an own slice as data. No program is named here. -/
import Derived.Test.YtedblpbpoekdlaaF28
namespace Bf
open Go Go.RowKit

/-! #### Typed maps -/
section
variable {α β : Type}
def encM (EK : α → V) (EV : β → V) (xs : List (α × β)) : List (V × V) := xs.map fun p => (EK p.1, EV p.2)
def mfind (eq : α → α → Bool) (xs : List (α × β)) (k : α) : Option Nat := xs.findIdx? fun p => eq k p.1
/-- What a map holds for a key. -/
def mget (eq : α → α → Bool) (xs : List (α × β)) (z : β) (k : α) : β := match mfind eq xs k with
  | some j => (match xs[j]? with | some p => p.2 | none => z)
  | none => z
def mput (eq : α → α → Bool) (xs : List (α × β)) (k : α) (v : β) : List (α × β) := match mfind eq xs k with
  | some j => xs.set j (k, v)
  | none => xs ++ [(k, v)]
theorem look_go {EK : α → V} {EV : β → V} {eq : α → α → Bool} {ls : List Lf} (he : ∀ a b : α, eqsV ls (V.cells (EK a)) (V.cells (EK b)) = some (eq a b)) (k : α) : ∀ (xs : List (α × β)) (i : Nat),
    lookL ls (V.cells (EK k)) ((encM EK EV xs).map fun p => V.cells p.1) i = some ((mfind eq xs k).map (· + i))
  | [], i => rfl
  | x :: xs, i => by
    have ih := look_go (EV := EV) he k xs (i + 1)
    simp only [encM, mfind, List.map_cons, lookL, he, List.findIdx?_cons] at ih ⊢
    cases h : eq k x.1 with
    | true => simp
    | false =>
      simp only [ih, Bool.false_eq_true, if_false, Option.map_map]
      congr 2
      funext j
      simp only [Function.comp]
      omega
theorem look_m {EK : α → V} {EV : β → V} {eq : α → α → Bool} {ls : List Lf} (he : ∀ a b : α, eqsV ls (V.cells (EK a)) (V.cells (EK b)) = some (eq a b)) (k : α) (xs : List (α × β)) :
    lookL ls (V.cells (EK k)) ((encM EK EV xs).map fun p => V.cells p.1) 0 = some (mfind eq xs k) := by
  rw [look_go he k xs 0]
  simp
theorem mapGet_m {EK : α → V} {EV : β → V} {eq : α → α → Bool} (xs : List (α × β)) (z : β) (k : α) : mapGet (encM EK EV xs) (EV z) (mfind eq xs k) = EV (mget eq xs z k) := by
  unfold mget
  cases mfind eq xs k with
  | none => rfl
  | some j =>
    simp only [mapGet, encM, List.getElem?_map]
    cases xs[j]? <;> rfl
theorem mapPut_m {EK : α → V} {EV : β → V} {eq : α → α → Bool} (xs : List (α × β)) (k : α) (v : β) : mapPut (encM EK EV xs) (EK k) (EV v) (mfind eq xs k) = encM EK EV (mput eq xs k v) := by
  unfold mput
  cases mfind eq xs k with
  | none => simp [mapPut, encM]
  | some j => simp [mapPut, encM, List.map_set]
end
section
variable {P : Program} {N : Rm} {σ : St} {dst : Nat} {t tt ty : TypeId} {pos : String} {af : Array Edge} {g : Option (Nat × Bool)} {x y y2 : Operand} {d : D} {d' : V} {f f1 f2 : Bool}
variable {α β : Type} {EK : α → V} {EV : β → V} {eq : α → α → Bool}
theorem q_mget {hp : Hp} {ev : Operand → Option D} {dst : Option Nat} {kt et : TypeId} {ag : Bool} {ls : List Lf} {zv : Value} {k i b n : Nat} {xs : List (α × β)} {kv : α} {z : β} [ht : TMap P t kt et] [hc : TKey P kt ag ls] [hz : TZero P et zv]
    (hx : ev x = some (.m k i b)) (hk : hp k i = some (some (b, n), .mp f ag (encM EK EV xs))) (hy : ev y = some (.v f2 (EK kv))) (he : ∀ a b : α, eqsV ls (V.cells (EK a)) (V.cells (EK b)) = some (eq a b))
    (hE : ∀ a, (EK a).isSt = ag ∧ (EK a).plain = true ∧ (V.cells (EK a)).length = ls.length) (h1 : oneAll zv = true) (h0 : zeroE zv = EV z) :
    Quiet P hp ev ⟨dst, .lookup t x y false, tt, pos, af, g⟩ (.v f (EV (mget eq xs z kv))) :=
  q_lookup hx hk hy (look_m he kv xs) (hE kv).1 (hE kv).2.1 (hE kv).2.2 h1 (by rw [h0]; exact mapGet_m xs z kv)
theorem q_mgetok {hp : Hp} {ev : Operand → Option D} {dst : Option Nat} {kt et : TypeId} {ag : Bool} {ls : List Lf} {zv : Value} {k i b n : Nat} {xs : List (α × β)} {kv : α} {z : β} [ht : TMap P t kt et] [hc : TKey P kt ag ls] [hz : TZero P et zv]
    (hx : ev x = some (.m k i b)) (hk : hp k i = some (some (b, n), .mp f ag (encM EK EV xs))) (hy : ev y = some (.v f2 (EK kv))) (he : ∀ a b : α, eqsV ls (V.cells (EK a)) (V.cells (EK b)) = some (eq a b))
    (hE : ∀ a, (EK a).isSt = ag ∧ (EK a).plain = true ∧ (V.cells (EK a)).length = ls.length) (h1 : oneAll zv = true) (h0 : zeroE zv = EV z) :
    Quiet P hp ev ⟨dst, .lookup t x y true, tt, pos, af, g⟩ (.v f (.t [EV (mget eq xs z kv), .b (mfind eq xs kv).isSome])) :=
  q_lookup_ok hx hk hy (look_m he kv xs) (hE kv).1 (hE kv).2.1 (hE kv).2.2 h1 (by rw [h0]; exact mapGet_m xs z kv)
theorem q_len_mt {hp : Hp} {ev : Operand → Option D} {dst : Option Nat} {kt et : TypeId} {ag : Bool} {k i b n : Nat} {xs : List (α × β)} [ht : TMap P t kt et] (hx : ev x = some (.m k i b)) (hk : hp k i = some (some (b, n), .mp f ag (encM EK EV xs))) :
    Quiet P hp ev ⟨dst, .call { callee := .builtin .len, args := #[x], argTypes := #[t] }, tt, pos, af, g⟩ (.v true (.i .i64 (xs.length : Nat))) := by
  have := q_len_m (P := P) (tt := tt) (pos := pos) (af := af) (g := g) (dst := dst) (t := t) hx hk
  rw [show (encM EK EV xs).length = xs.length from List.length_map _] at this
  exact this
theorem e_mput {dd : Option Nat} {kt et : TypeId} {ag : Bool} {ls : List Lf} {k i b n : Nat} {xs : List (α × β)} {kv : α} {e : β} [ht : TMap P t kt et] [hc : TKey P kt ag ls] (hx : σ.ev x = some (.m k i b)) (hk : σ.hp k i = some (some (b, n), .mp true ag (encM EK EV xs)))
    (hy : σ.ev y = some (.v true (EK kv))) (hz : σ.ev y2 = some (.v true (EV e))) (he : ∀ a b : α, eqsV ls (V.cells (EK a)) (V.cells (EK b)) = some (eq a b))
    (hE : ∀ a, (EK a).isSt = ag ∧ (EK a).plain = true ∧ (V.cells (EK a)).length = ls.length) (hV : ∀ a, (EV a).plain = true) (hd : dd = none) :
    Eff P N ⟨dd, .mapUpdate t x y y2, tt, pos, af, g⟩ σ (fun σ' => σ' = σ.setH k i (some (some (b, n), (.mp true ag (encM EK EV (mput eq xs kv e)))))) := by
  have := e_mapUpdate (P := P) (N := N) (t := t) (tt := tt) (pos := pos) (af := af) (g := g) (dd := dd) hx hk hy hz (look_m he kv xs) (hE kv).1 (hE kv).2.1 (hE kv).2.2 (hV e) hd
  rw [mapPut_m] at this
  exact this
end

abbrev eqI : Int → Int → Bool := fun a b => a == b
theorem eqv_int (a b : Int) : eqsV [.int] (V.cells (vi a)) (V.cells (vi b)) = some (eqI a b) := by
  show (match leafEq .int (.i .i64 a) (.i .i64 b), some true with | some a, some b => some (a && b) | _, _ => none) = _
  simp [leafEq]

/-! #### clear -/
/-- What is left of a list that is cleared from an index on. -/
def clr {α : Type} (x0 : α) (l : Nat) (xs : List α) : List α := xs.take l ++ List.replicate (xs.length - l) x0
@[simp] theorem clr_length {α : Type} (x0 : α) (l : Nat) (xs : List α) : (clr x0 l xs).length = xs.length := by
  unfold clr
  rw [List.length_append, List.length_take, List.length_replicate]
  omega
theorem clear_cells {P : Program} {w : World} {t e z e' : Nat} {zv : Value} {b off len cap : Nat} {cur : List Value} [ht : TSl P t e] [hz : TSz P e z] [hzv : TZero P e zv] (hzs : zv.cells.size = z) (h1 : oneAll zv = true) (hg : w.heap[b]? = some (.cells cur.toArray e' (0, 0))) (hl : 0 < len) (hle : off + len * z ≤ cur.length) {tt : TypeId} :
    (Builtin.clear_ #[t] tt #[.slice (some ⟨b, off, none⟩) len cap]).run P w = .ok (.tuple #[]) (w.setRow b (splice cur off (Builtin.zeroCells zv.cells len).toList).toArray) := by
  obtain ⟨ii, hi, hi1, hi2, hi3⟩ := zeroSize hz.h hzv.h w
  have hlen : (Builtin.zeroCells zv.cells len).toList.length = len * z := by rw [Array.length_toList, size_zeroCells, hzs]
  have hone : ∀ u ∈ (Builtin.zeroCells zv.cells len).toList, u.oneCell' = true := by
    intro v hv
    simp only [Builtin.zeroCells, Array.toList_map, List.mem_map, Array.toList_range, List.mem_range] at hv
    obtain ⟨j, hj, rfl⟩ := hv
    have hp : 0 < zv.cells.size := Nat.pos_of_mul_pos_left (show 0 < len * zv.cells.size by omega)
    rw [getElem!_pos zv.cells _ (Nat.mod_lt _ hp)]
    exact (zeroV_reps (w := w) (I := fun _ => True) h1).2 _ (by simp)
  have hst := run_storeCells_at P b off e' (Builtin.zeroCells zv.cells len).toList 0 cur.toArray w hg (by simpa [hlen] using hle) hone
  simp only [Nat.add_zero] at hst
  have hsp : cur.take off ++ (Builtin.zeroCells zv.cells len).toList ++ cur.drop (off + (Builtin.zeroCells zv.cells len).toList.length) = splice cur off (Builtin.zeroCells zv.cells len).toList := rfl
  rw [hsp] at hst
  obtain ⟨m, rfl⟩ : ∃ m, len = m + 1 := ⟨len - 1, by omega⟩
  simp [Builtin.clear_, run_underlying ht.h, hi3, hst]
section
variable {P : Program} {N : Rm} {σ : St} {t tt : TypeId} {pos : String} {af : Array Edge} {g : Option (Nat × Bool)} {x : Operand} {f : Bool}
variable {α : Type} {E : α → V} {z : Nat}
theorem zero_reps {w : World} {I : Nat → Prop} {base : Nat} {zv : Value} (f : Bool) (h1 : oneAll zv = true) (hzs : zv.cells.size = z) (n : Nat) : DReps w I base (els f (List.replicate n (zeroE zv))) (Builtin.zeroCells zv.cells n).toList := by
  obtain ⟨hz1, hz2⟩ := zeroV_reps (w := w) (I := fresh f I base) h1
  have hcz : cellsD f (zeroE zv) = (zeroV zv).map (D.v f) := by unfold cellsD; rw [(zeroE_cells h1).1]
  have hclen : (cellsD f (zeroE zv)).length = z := by rw [hcz, List.length_map, hz1.1]; simpa using hzs
  have hsz : (Builtin.zeroCells zv.cells n).toList.length = n * z := by rw [Array.length_toList, size_zeroCells, hzs]
  have hel : (els f (List.replicate n (zeroE zv))).length = n * z := by rw [els_replicate]; simp [hclen]
  refine ⟨by rw [hel, hsz], fun j d v hd hv => ?_⟩
  have hj : j < n * z := by rw [← hsz]; exact (List.getElem?_eq_some_iff.1 hv).1
  have hzp : 0 < z := Nat.pos_of_mul_pos_left (show 0 < n * z by omega)
  have hmod : j % zv.cells.size < zv.cells.size := Nat.mod_lt _ (by omega)
  have g1 : zv.cells.toList[j % z]? = some v := by
    simp only [Builtin.zeroCells, Array.toList_map, List.getElem?_map, Array.toList_range, List.getElem?_range (show j < n * zv.cells.size by rw [hzs]; exact hj), Option.map_some, Option.some.injEq] at hv
    rw [getElem!_pos zv.cells _ hmod] at hv
    rw [← hv, ← hzs]
    simp [hmod]
  rw [els_replicate, cycle_get hclen hj, hcz, List.getElem?_map] at hd
  cases hq : (zeroV zv)[j % z]? with
  | none => rw [hq] at hd; cases hd
  | some q => rw [hq] at hd; cases hd; exact .v _ _ _ (hz1.2 _ q v hq g1)
theorem els_cat (f : Bool) (xs ys : List V) : els f (xs ++ ys) = els f xs ++ els f ys := by simp [els]
theorem e_clear {dd : Option Nat} {k i b n e ty' l len : Nat} {zv : Value} {xs : List α} {x0 : α} [ht : TSl P t e] [hz : TSz P e z] [hzv : TZero P e zv] (hx : σ.ev x = some (.o k i (some (b, n)) z (0 + l * z) len)) (hk : σ.hp k i = some (some (b, n), .row ty' (els f (xs.map E))))
    (hE : ∀ x, (E x).plain = true ∧ (V.cells (E x)).length = z) (hL : len = xs.length - l) (hlt : l < xs.length) (hzs : zv.cells.size = z) (h1 : oneAll zv = true) (h0 : zeroE zv = E x0) (hd : dd = none) :
    Eff P N ⟨dd, .call { callee := .builtin .clear, args := #[x], argTypes := #[t] }, tt, pos, af, g⟩ σ (fun σ' => σ' = σ.setH k i (some (some (b, n), .row ty' (els f ((clr x0 l xs).map E))))) :=
  ⟨rfl, fun σ' e => by rw [e]; rfl, fun C hCN I a w h => by
    subst hCN
    subst hd
    have hlen : l + len = xs.length := by omega
    have hl : 0 < len := by omega
    obtain ⟨cap, e', h3, h4, h5⟩ := (h.ev hx).osome
    obtain ⟨vs, hr⟩ := h.wok.row hk
    have hel : (els f (xs.map E)).length = xs.length * z := els_len f fun x => (hE x).2
    have hvl := hr.len
    have hle0 := hr.le
    have hmul : l * z + len * z = xs.length * z := by rw [← Nat.add_mul, hlen]
    have hds := zero_reps (w := w) (I := I) (base := C.base) f h1 hzs len
    have hdl : (els f (List.replicate len (zeroE zv))).length = len * z := by rw [hds.1, Array.length_toList, size_zeroCells, hzs]
    have hrun := clear_cells (P := P) (w := w) (t := t) (tt := tt) (off := 0 + l * z) (len := len) (cap := cap) hzs h1 hr.blk hl (by omega)
    have hone : ∀ u ∈ (Builtin.zeroCells zv.cells len).toList, u.oneCell' = true := by
      intro v hv
      simp only [Builtin.zeroCells, Array.toList_map, List.mem_map, Array.toList_range, List.mem_range] at hv
      obtain ⟨j, hj, rfl⟩ := hv
      have hp : 0 < zv.cells.size := Nat.pos_of_mul_pos_left (show 0 < len * zv.cells.size by omega)
      rw [getElem!_pos zv.cells _ (Nat.mod_lt _ hp)]
      exact (zeroV_reps (w := w) (I := fun _ => True) h1).2 _ (by simp)
    have hsp : Bf.splice (els f (xs.map E)) (0 + l * z) (els f (List.replicate len (zeroE zv))) = els f ((clr x0 l xs).map E) := by
      unfold Bf.splice clr
      rw [← hL]
      rw [hdl, List.drop_of_length_le (by omega), List.append_nil, List.map_append, els_cat, Nat.zero_add, ← els_rep, ← h0]
      congr 1
      have e3 : els f (xs.map E) = els f ((xs.take l).map E) ++ els f ((xs.drop l).map E) := by rw [← els_cat, ← List.map_append, List.take_append_drop]
      rw [e3, List.take_append_of_le_length (by rw [els_len f fun x => (hE x).2, List.length_take]; rw [Nat.min_eq_left (by omega)]; exact Nat.le_refl _), List.take_of_length_le (by rw [els_len f fun x => (hE x).2, List.length_take, Nat.min_eq_left (by omega)]; exact Nat.le_refl _)]
    have hres := hr.splice (off := 0 + l * z) hds hone (by omega) (h.wok.owned k i b n _ hk).2.1
    rw [hsp] at hres
    simp only [execOp, resolve, invoke, builtin, List.map_toArray, List.map_cons, List.map_nil, e', Sem.run_bind, hrun, Result.andThen_ok, Sem.run_pure]
    have := h.rerow hk hres
    exact ⟨_, I, rfl, this⟩⟩
/-- A first part of an own slice is data; the block is let go. -/
theorem shift_frzp {X : Cx} {ys : List α} (s : Nat) {k i ty : Nat} {pl : Pl} {xs : List α} (hs : σ.fr s = some (.o k i pl z 0 ys.length)) (hk : σ.hp k i = some (pl, .row ty (els f (xs.map E)))) (hE : ∀ x, (E x).plain = true ∧ (V.cells (E x)).length = z) (hy : ys = xs.take ys.length) :
    Shift X σ ((σ.setH k i none).put (some s) (.v f (.l z (ys.map E)))) := by
  cases pl with
  | some p =>
    obtain ⟨b, n⟩ := p
    refine shift_freeze s hs hk ?_ (List.length_map _) (els_plain hE)
    have e3 : els f (xs.map E) = els f (ys.map E) ++ els f ((xs.drop ys.length).map E) := by
      rw [← els_cat, ← List.map_append]
      conv => rhs; rw [hy, List.length_take]
      congr 2
      by_cases h : ys.length ≤ xs.length
      · rw [Nat.min_eq_left h, List.take_append_drop]
      · rw [Nat.min_eq_right (by omega), List.take_of_length_le (by omega), List.drop_length, List.append_nil]
    rw [List.drop_zero, e3, ← els_len f (fun x => (hE x).2), List.take_left]
  | none =>
    refine ⟨rfl, fun C I a w hC h => ⟨I, (h.forget k i).reput ?_⟩⟩
    rcases (h.fr s _ hs).o_inv with ⟨_, _, h3, h4⟩ | ⟨_, _, _, h1, _⟩
    · rw [List.length_eq_zero_iff] at h3
      subst h3
      rw [h4]
      exact .v _ _ _ (.nil_slice z)
    · cases h1
end
end Bf
