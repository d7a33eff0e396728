/- The engine, part 7: operations that lay or turn blocks of the call's own. No program is named here. -/
import Derived.Test.YtedblpbpoekdlaaF6
import Derived.Maps.AppendAt
namespace Bf
open Go Go.RowKit

/-- What an operation with an effect comes to. -/
def EffRes (P : Program) (C : Ctx) (T : St → Prop) (a : Act) (o : Oper) : Result Next → Prop
  | .ok (.value v) w' => ∃ σ' I', T σ' ∧ Holds C σ' I' (a.put o.dst v) w'
  | .ok .skip w' => ∃ σ' I', T σ' ∧ Holds C σ' I' (a.put o.dst undef) w'
  | .ok (.enter f args) w' => Calls P f args w' fun e w'' => ∃ v σ' I', e = .returned v ∧ T σ' ∧ Holds C σ' I' (a.put o.dst v) w''
  | _ => False

def Eff (P : Program) (N : Rm) (o : Oper) (σ : St) (T : St → Prop) : Prop :=
  noDefer o.op = true ∧ (∀ σ', T σ' → σ'.gh = σ.gh) ∧ ∀ (C : Ctx), C.N = N → ∀ (I : Nat → Prop) (a : Act) (w : World), Holds C σ I a w → EffRes P C T a o ((execOp a.eval o).run P w)

theorem Eff.wp {P : Program} {C : Ctx} {rd : Option Nat} {σ : St} {T : St → Prop} {I : Nat → Prop} {a : Act} {w : World} {o : Oper} {K : Act → World → Prop} {Q : Exit → Act → World → Prop}
    (he : Eff P C.N o σ T) (h : Holds C σ I a w) (hK : ∀ (σ' : St) (I' : Nat → Prop) (a' : Act) (w' : World), T σ' → Holds C σ' I' a' w' → K a' w') : o.wpIn (fenceOf rd) 0 P a w K Q := by
  have hr := he.2.2 C rfl I a w h
  refine ⟨fun _ _ => trivial, ?_⟩
  rw [noDefer_sem he.1]
  generalize (execOp a.eval o).run P w = r at hr ⊢
  cases r with
  | halt x w' => exact hr.elim
  | ok n w' =>
    cases n <;> try exact hr.elim
    case value v => obtain ⟨σ', I', ht, hh⟩ := hr; exact hK σ' I' _ _ ht hh
    case skip => obtain ⟨σ', I', ht, hh⟩ := hr; exact hK σ' I' _ _ ht hh
    case enter f args =>
      refine ⟨fun e => absurd e (by simp [fenceOf, Fence.wide]), (callsIn_of rd hr).mono ?_⟩
      rintro e w'' ⟨v, σ', I', rfl, ht, hh⟩
      exact hK σ' I' _ _ ht hh

section
variable {X : Cx} {rd : Option Nat} {P : Program} {ops : Array Oper} {rest : List Oper} {o : Oper} {σ σ' : St} {T : St → Prop} {Q : Exit → St → Prop} {d : D}

theorem run_effect (he : Eff P X.N o σ T) (hg : o.guard = none) (h : ∀ σ', T σ' → RunS X rd P ops rest σ' Q) : RunS X rd P ops (o :: rest) σ Q :=
  fun C _ _ _ hC hh => wpListIn_plain hg fun _ hK => Eff.wp (X.hN _ _ hC ▸ he) hh fun σ' I' a' w' ht hh' => hK _ _ (h σ' ht C I' a' w' (he.2.1 σ' ht ▸ hC) hh')

theorem run_effectg {s : Nat} {want f : Bool} (hg : guardSlot ops o = some (s, want)) (hs : σ.fr s = some (.v f (.b want))) (hN : Nat.blt s X.N.n = true) (he : Eff P X.N o σ T) (h : ∀ σ', T σ' → RunS X rd P ops rest σ' Q) : RunS X rd P ops (o :: rest) σ Q :=
  fun C I a w hC hh => wpListIn_step fun K hK => by
    rw [wanted_of hh hg hs (by rw [X.hN _ _ hC]; simpa using hN)]
    simp only [BEq.rfl, if_true]
    exact Eff.wp (X.hN _ _ hC ▸ he) hh fun σ' I' a' w' ht hh' => hK _ _ (h σ' ht C I' a' w' (he.2.1 σ' ht ▸ hC) hh')

/-- A step on what is said of the state alone. -/
def Shift (X : Cx) (σ σ' : St) : Prop := σ'.gh = σ.gh ∧ ∀ (C : Ctx) (I : Nat → Prop) (a : Act) (w : World), X.is σ.gh C → Holds C σ I a w → ∃ I', Holds C σ' I' a w
theorem run_shift (hs : Shift X σ σ') (h : RunS X rd P ops rest σ' Q) : RunS X rd P ops rest σ Q :=
  fun C I a w hC hh => by obtain ⟨I', hh'⟩ := hs.2 C I a w hC hh; exact h C I' a w (hs.1 ▸ hC) hh'
theorem ev_shift {c : Code} (hs : Shift X σ σ') (h : Ev X rd P c σ' Q) : Ev X rd P c σ Q :=
  fun C I a w hC hh => by obtain ⟨I', hh'⟩ := hs.2 C I a w hC hh; exact h C I' a w (hs.1 ▸ hC) hh'
theorem Shift.trans {σ'' : St} (h : Shift X σ σ') (h' : Shift X σ' σ'') : Shift X σ σ'' :=
  ⟨h'.1.trans h.1, fun C I a w hC hh => by obtain ⟨I', hh'⟩ := h.2 C I a w hC hh; exact h'.2 C I' a w (h.1 ▸ hC) hh'⟩
end

/-- The cells of what a slot holds. -/
def D.cells : D → List D
  | .v f x => cellsD f x
  | .st ds => ds
  | d => [d]
def D.plain : D → Bool
  | .v _ x => x.plain
  | .t _ => false
  | .cnd _ _ => false
  | _ => true
theorem DRep.cells {w : World} {I : Nat → Prop} {base : Nat} {d : D} {v : Value} (h : DRep w I base d v) (hp : d.plain = true) : DReps w I base d.cells v.cells.toList ∧ ∀ u ∈ v.cells.toList, u.oneCell' = true := by
  cases h with
  | v f x u h =>
    obtain ⟨h1, h2⟩ := h.cells hp
    exact ⟨.of_v h1, h2⟩
  | st xs vs hl h1 h => exact ⟨⟨hl, h⟩, by simpa [Value.cells] using h1⟩
  | t => cases hp
  | p k i b off => exact ⟨.cons (.p k i b off) .nil, by simp [Value.cells, Value.oneCell']⟩
  | o k i b n z off len cap h1 h2 h3 => exact ⟨.cons (.o k i b n z off len cap h1 h2 h3) .nil, by simp [Value.cells, Value.oneCell']⟩
  | onil k i z => exact ⟨.cons (.onil k i z) .nil, by simp [Value.cells, Value.oneCell']⟩
  | cl f z xs A h => exact ⟨.cons (.cl f z xs A h) .nil, by simp [Value.cells, Value.oneCell']⟩
  | m k i b => exact ⟨.cons (.m k i b) .nil, by simp [Value.cells, Value.oneCell']⟩
  | c f xs vs hl h => exact ⟨.cons (.c f xs vs hl h) .nil, by simp [Value.cells, Value.oneCell']⟩
  | cndt => cases hp
  | cndf => cases hp
  | any _ h => rw [oneCell_cells h]; exact ⟨.cons (.any _ h) .nil, by simpa using h⟩

theorem keeps_alloc (w : World) (o : Obj) : Keeps w (w.alloc o) := (Below.refl _ w).alloc (Nat.le_refl _) o

/-- A new block of the call's own. -/
theorem Holds.lay {C : Ctx} {σ : St} {I : Nat → Prop} {a : Act} {w w' : World} (h : Holds C σ I a w) (k i n : Nat) (blk : Blk) (hk : Keeps w w') (hsz : w.heap.size < w'.heap.size) (hb : BlkRep w' I C.base (some (w.heap.size, n)) blk) :
    Holds C (σ.setH k i (some (some (w.heap.size, n), blk))) I a w' :=
  h.set k i (some (w.heap.size, n)) blk hk.os hk.tape hk.output hk.size (fun b hb _ => hk.block b hb) (fun b n' e => by cases e; exact ⟨hsz, .inl (Nat.le_refl _)⟩) hb

theorem row_new {w : World} {I : Nat → Prop} {base : Nat} {ty : Nat} {ds : List D} {vs : List Value} (hilt : ∀ b, I b → b < w.heap.size) (h : DReps w I base ds vs) (h1 : ∀ v ∈ vs, v.oneCell' = true) :
    BlkRep (w.alloc (.cells vs.toArray ty)) I base (some (w.heap.size, ds.length)) (.row ty ds) :=
  ⟨vs, heap_alloc_new w _, h.1.symm, Nat.le_refl _, h1, fun j d v hd hv => (h.2 j d v hd hv).mono (fun b hb => (keeps_alloc w _).block b (hilt b hb)) (fun _ hb => hb)⟩

section
variable {P : Program} {N : Rm} {σ : St} {dst : Nat} {t tt ty : TypeId} {pos : String} {af : Array Edge} {g : Option (Nat × Bool)} {x y : Operand} {d : D} {f f1 f2 : Bool}

/-- A new block, under a name. -/
def laid (σ : St) (dst k i n : Nat) (blk : Blk) (d : Nat → D) (σ' : St) : Prop := ∃ b, σ' = (σ.setH k i (some (some (b, n), blk))).put (some dst) (d b)
theorem laid_gh {σ σ' : St} {dst k i n : Nat} {blk : Blk} {d : Nat → D} (h : laid σ dst k i n blk d σ') : σ'.gh = σ.gh := by obtain ⟨b, rfl⟩ := h; rfl

theorem e_alloc {zv : Value} [hz : TZero P t zv] (k i : Nat) (h1 : oneAll zv = true) (hN : N.can dst = true) :
    Eff P N ⟨some dst, .alloc t, tt, pos, af, g⟩ σ (laid σ dst k i ((zeroV zv).map (D.v true)).length (.row t ((zeroV zv).map (D.v true))) (fun b => .p k i b 0)) :=
  ⟨rfl, fun _ h => laid_gh h, fun C hCN I a w h => by
    subst hCN
    have hzz := hz.h
    obtain ⟨hz1, hz2⟩ := zeroV_reps (w := w) (I := fresh true I C.base) h1
    cases hi : P.info? t with
    | none => rw [hi] at hzz; cases hzz
    | some ii =>
      rw [hi] at hzz
      simp only [Option.bind_some] at hzz
      simp only [execOp, Instr.alloc, zeroValue, typeInfo, Sem.run_bind, run_program, Sem.run_pure, Result.andThen_ok, hi, hzz, newVar, newRow, run_newObj]
      refine ⟨_, I, ⟨w.heap.size, rfl⟩, (h.lay k i _ _ (keeps_alloc w _) (by simp) ?_).put (some dst) _ _ (.p _ _ _ _) (fun s e => by cases e; exact hN)⟩
      have := row_new (ty := t) h.wok.ilt (DReps.of_v hz1) hz2
      simpa using this⟩

theorem e_box (k i : Nat) (hx : σ.ev x = some d) (hpl : d.plain = true) (hN : N.can dst = true) :
    Eff P N ⟨some dst, .box t x, tt, pos, af, g⟩ σ (laid σ dst k i d.cells.length (.row t d.cells) (fun b => .p k i b 0)) :=
  ⟨rfl, fun _ h => laid_gh h, fun C hCN I a w h => by
    subst hCN
    obtain ⟨h1, h2⟩ := (h.ev hx).cells hpl
    simp only [execOp, Instr.box, Sem.run_bind, Sem.run_pure, Result.andThen_ok, newVar, newRow, run_newObj]
    refine ⟨_, I, ⟨w.heap.size, rfl⟩, (h.lay k i _ _ (keeps_alloc w _) (by simp) ?_).put (some dst) _ _ (.p _ _ _ _) (fun s e => by cases e; exact hN)⟩
    have := row_new (ty := t) h.wok.ilt h1 h2
    simpa using this⟩

/-! #### Stores -/
theorem run_storeVar {w : World} {z : Nat} (hz : hasSize P t z = true) {b off : Nat} {ty : TypeId} {v : Value} {cur : List Value} (hg : w.heap[b]? = some (.cells cur.toArray ty (0, 0))) (hl : v.cells.size = z) (hle : off + z ≤ cur.length) (h1 : ∀ u ∈ v.cells.toList, u.oneCell' = true) :
    (storeVar t ⟨b, off, none⟩ v).run P w = .ok () (w.setRow b (cur.take off ++ v.cells.toList ++ cur.drop (off + z)).toArray) := by
  have hst := run_storeCells_at P b off ty v.cells.toList 0 cur.toArray w hg (by simpa [hl] using hle) h1
  simp only [Nat.add_zero] at hst
  simp only [storeVar, Sem.run_bind, rsz w hz, Result.andThen_ok, hl, ne_eq, not_true_eq_false, if_false, hst]
  simp [hl]
theorem setRow_facts {w : World} {b : Nat} {cs : Array Value} : (w.setRow b cs).os = w.os ∧ (w.setRow b cs).tape = w.tape ∧ (w.setRow b cs).output = w.output ∧ (w.setRow b cs).heap.size = w.heap.size := ⟨rfl, rfl, rfl, by simp [World.setRow]⟩

/-- Cells turned, in a row of them. -/
def splice {α : Type} (xs : List α) (off : Nat) (ds : List α) : List α := xs.take off ++ ds ++ xs.drop (off + ds.length)
theorem splice_one {α : Type} {xs : List α} {off : Nat} (d : α) (h : off < xs.length) : splice xs off [d] = xs.set off d := by
  unfold splice
  rw [List.set_eq_take_append_cons_drop, if_pos h]
  simp
theorem splice_len {α : Type} {xs : List α} {off : Nat} {ds : List α} (h : off + ds.length ≤ xs.length) : (splice xs off ds).length = xs.length := by
  simp only [splice, List.length_append, List.length_take, List.length_drop]; omega
theorem splice_get {α : Type} {xs ds : List α} {off j : Nat} (h : off + ds.length ≤ xs.length) : (splice xs off ds)[j]? = if j < off then xs[j]? else if j < off + ds.length then ds[j - off]? else xs[j]? := by
  unfold splice
  have h1 : (xs.take off).length = off := by simp; omega
  by_cases hj : j < off
  · rw [if_pos hj, List.append_assoc, List.getElem?_append_left (by omega), List.getElem?_take, if_pos hj]
  · rw [if_neg hj, List.append_assoc, List.getElem?_append_right (by omega), h1]
    by_cases hj2 : j < off + ds.length
    · rw [if_pos hj2, List.getElem?_append_left (by omega)]
    · rw [if_neg hj2, List.getElem?_append_right (by omega), List.getElem?_drop]
      congr 1; omega

/-- A row of cells, turned in place. -/
theorem RowRep.splice {w : World} {I : Nat → Prop} {base b n ty : Nat} {xs ds : List D} {vs us : List Value} (h : RowRep w I base b n ty xs vs) {off : Nat} (hd : DReps w I base ds us) (h1 : ∀ u ∈ us, u.oneCell' = true) (hle : off + ds.length ≤ xs.length) (hI : ¬ I b) :
    RowRep (w.setRow b (Bf.splice vs off us).toArray) I base b n ty (Bf.splice xs off ds) (Bf.splice vs off us) := by
  have hle' := h.le
  have hlen := h.len
  have hul := hd.1
  have hw : ∀ b', I b' → (w.setRow b (Bf.splice vs off us).toArray).heap[b']? = w.heap[b']? := fun b' hb' => setRow_other w b b' _ (fun e => hI (e ▸ hb'))
  refine ⟨setRow_heap w b _ _ _ _ h.blk, by rw [splice_len (by omega)]; exact hlen, by rw [splice_len hle]; exact hle', fun v hv => ?_, fun j d v hd' hv => ?_⟩
  · unfold Bf.splice at hv
    simp only [List.mem_append] at hv
    rcases hv with (hv | hv) | hv
    · exact h.one v (List.mem_of_mem_take hv)
    · exact h1 v hv
    · exact h.one v (List.mem_of_mem_drop hv)
  · rw [splice_get hle] at hd'
    rw [splice_get (by omega), ← hul] at hv
    by_cases hj : j < off
    · rw [if_pos hj] at hd' hv
      exact (h.rep j d v hd' hv).mono hw (fun _ hb => hb)
    · rw [if_neg hj] at hd' hv
      by_cases hj2 : j < off + ds.length
      · rw [if_pos hj2] at hd' hv
        exact (hd.2 _ d v hd' hv).mono hw (fun _ hb => hb)
      · rw [if_neg hj2] at hd' hv
        exact (h.rep j d v hd' hv).mono hw (fun _ hb => hb)

/-- The world turns at one block of the call's own, in place. -/
theorem Holds.rerow {C : Ctx} {σ : St} {I : Nat → Prop} {a : Act} {w : World} (h : Holds C σ I a w) {k i b n ty : Nat} {xs xs' : List D} {vs : List Value} (hk : σ.hp k i = some (some (b, n), .row ty xs)) (hr : RowRep (w.setRow b vs.toArray) I C.base b n ty xs' vs) :
    Holds C (σ.setH k i (some (some (b, n), .row ty xs'))) I a (w.setRow b vs.toArray) := by
  obtain ⟨k1, k2, k3, k4⟩ := @setRow_facts w b vs.toArray
  exact h.set k i _ _ k1 k2 k3 (by rw [k4]; exact Nat.le_refl _) (fun b' _ hne => setRow_other w b b' _ (fun e => hne n (.row ty xs) (by rw [e]; exact hk))) (fun b' n' e => by cases e; exact ⟨by rw [k4]; exact (h.wok.owned k i b n _ hk).1, .inr ⟨n, _, hk⟩⟩) ⟨vs, hr⟩

theorem e_store {k i b n off z : Nat} {xs : List D} {dd : Option Nat} [hz : TSz P t z] (hx : σ.ev x = some (.p k i b off)) (hk : σ.hp k i = some (some (b, n), .row ty xs)) (hy : σ.ev y = some d) (hpl : d.plain = true) (hl : d.cells.length = z) (hle : off + z ≤ xs.length) (hd : dd = none) :
    Eff P N ⟨dd, .store t x y, tt, pos, af, g⟩ σ (fun σ' => σ' = σ.setH k i (some (some (b, n), .row ty (splice xs off d.cells)))) :=
  ⟨rfl, fun σ' e => by rw [e]; rfl, fun C hCN I a w h => by
    subst hCN
    subst hd
    have h1 := (h.ev hx).p_inv
    obtain ⟨vs, hr⟩ := h.wok.row hk
    obtain ⟨h8, h9⟩ := (h.ev hy).cells hpl
    have hvl : (a.eval y).cells.size = z := by have := h8.1; rw [hl] at this; simpa using this.symm
    have hle' : off + z ≤ vs.length := by have := hr.le; have := hr.len; omega
    have hrun := run_storeVar (P := P) (w := w) hz.h hr.blk hvl hle' h9
    have hsp : vs.take off ++ (a.eval y).cells.toList ++ vs.drop (off + z) = splice vs off (a.eval y).cells.toList := by unfold splice; rw [Array.length_toList, hvl]
    rw [hsp] at hrun
    simp only [execOp, Instr.storeAt, h1, Instr.sureAddr, Sem.run_bind, Sem.run_pure, Result.andThen_ok, hrun]
    exact ⟨_, I, rfl, h.rerow hk (hr.splice h8 h9 (by rw [hl]; exact hle) (h.wok.owned k i b n _ hk).2.1)⟩⟩
/-- One cell. -/
theorem e_store1 {k i b n off : Nat} {xs : List D} {dd : Option Nat} [hz : TSz P t 1] (hx : σ.ev x = some (.p k i b off)) (hk : σ.hp k i = some (some (b, n), .row ty xs)) (hy : σ.ev y = some d) (hpl : d.plain = true) (hl : d.cells = [d]) (hle : off < xs.length) (hd : dd = none) :
    Eff P N ⟨dd, .store t x y, tt, pos, af, g⟩ σ (fun σ' => σ' = σ.setH k i (some (some (b, n), .row ty (xs.set off d)))) := by
  have h := e_store (P := P) (N := N) (t := t) (tt := tt) (pos := pos) (af := af) (g := g) (z := 1) hx hk hy hpl (by rw [hl]; rfl) (by omega) hd
  rw [hl, splice_one d hle] at h
  exact h

/-! #### Slices that are built -/
theorem zeroSize {e z : Nat} {zv : Value} (hz : hasSize P e z = true) (hzz : (P.info? e).bind (·.zero) = some zv) (w : World) : ∃ i, P.info? e = some i ∧ i.zero = some zv ∧ i.size = z ∧ (zeroValue e).run P w = .ok zv w := by
  cases hi : P.info? e with
  | none => rw [hi] at hzz; cases hzz
  | some i =>
    rw [hi] at hzz
    simp only [Option.bind_some] at hzz
    refine ⟨i, rfl, hzz, by simpa [hasSize, hi] using hz, by simp [zeroValue, typeInfo, hi, hzz]⟩
theorem seg_set {α : Type} (off : Nat) : ∀ (ys : List α) (n : Nat) (xs : List α), off + n + ys.length ≤ xs.length →
    (ys.zipIdx n).foldl (fun cs p => cs.set (off + p.2) p.1) xs = xs.take (off + n) ++ ys ++ xs.drop (off + n + ys.length)
  | [], n, xs, _ => by simp
  | y :: ys, n, xs, h => by
    simp only [List.zipIdx_cons, List.foldl_cons]
    rw [seg_set off ys (n + 1) (xs.set (off + n) y) (by simp at h ⊢; omega)]
    apply List.ext_getElem?
    intro j
    simp at h
    by_cases h1 : j < off + n
    · simp [List.getElem?_append, h1, show j < off + (n + 1) by omega, show ¬ off + n = j by omega, List.length_take, show off + n ≤ xs.length by omega, show off + (n + 1) ≤ xs.length by omega]
    · by_cases h2 : j = off + n
      · subst h2
        simp [List.getElem?_append, List.length_take, show off + n ≤ xs.length by omega, show off + (n + 1) ≤ xs.length by omega, show off + n < off + (n + 1) by omega, show off + n < xs.length by omega]
      · have h3 : ¬ j < off + (n + 1) := by omega
        have e1 : j - (off + n) = (j - (off + (n + 1))) + 1 := by omega
        by_cases h4 : j - (off + (n + 1)) < ys.length
        · simp [List.getElem?_append, h1, h3, h4, e1, List.length_take, show off + n ≤ xs.length by omega, show off + (n + 1) ≤ xs.length by omega]
        · simp [List.getElem?_append, h1, h3, h4, e1, List.length_take, List.getElem?_drop, show off + n ≤ xs.length by omega, show off + (n + 1) ≤ xs.length by omega]
          rw [List.getElem?_set_ne (by omega)]
          congr 1
          omega

/-- The elements of a literal, in order: what they are, and that each has so many cells. -/
def elsD (ev : Operand → Option D) (z : Nat) : Nat → List (Nat × Operand) → Option (List D)
  | _, [] => some []
  | n, (m, a) :: as => match ev a with
    | some d => bif Nat.beq m n && d.plain && Nat.beq d.cells.length z then (match elsD ev z (n + 1) as with | some r => some (d :: r) | none => none) else none
    | none => none

theorem fill_elsD {w : World} {I : Nat → Prop} {base : Nat} {ρ : Operand → Value} {ev : Operand → Option D} {z : Nat} : ∀ {parts : List (Nat × Operand)} {n : Nat} {ds : List D}, elsD ev z n parts = some ds →
    (∀ x ∈ parts.map (·.2), ∀ d', ev x = some d' → DRep w I base d' (ρ x)) → ∀ (cs : List Value), (n + ds.length) * z ≤ cs.length →
    ∃ news : List Value, Instr.fill (fun i => some (i * z, z)) cs.toArray (parts.map fun p => (p.1, ρ p.2)) = some (cs.take (n * z) ++ news ++ cs.drop ((n + ds.length) * z)).toArray ∧
      DReps w I base (ds.flatMap D.cells) news ∧ (∀ v ∈ news, v.oneCell' = true) ∧ news.length = ds.length * z
  | [], n, ds, h, _, cs, hle => by
    cases h
    exact ⟨[], by simp [Instr.fill], .nil, by simp, by simp⟩
  | (m, a) :: as, n, ds, h, hρ, cs, hle => by
    simp only [elsD] at h
    cases hev : ev a with
    | none => rw [hev] at h; cases h
    | some d =>
      rw [hev] at h
      simp only at h
      cases hc : (Nat.beq m n && d.plain && Nat.beq d.cells.length z) with
      | false => rw [hc] at h; cases h
      | true =>
        rw [hc] at h
        simp only [cond_true] at h
        simp only [Bool.and_eq_true] at hc
        obtain ⟨⟨hm, hpl⟩, hz⟩ := hc
        have hm := Nat.eq_of_beq_eq_true hm
        have hz := Nat.eq_of_beq_eq_true hz
        subst hm
        cases hr : elsD ev z (m + 1) as with
        | none => rw [hr] at h; cases h
        | some r =>
          rw [hr] at h
          cases h
          obtain ⟨h1, h2⟩ := (hρ a (by simp) d hev).cells hpl
          have hsz : (ρ a).cells.size = z := by have := h1.1; rw [hz] at this; simpa using this.symm
          have hl2 : (ρ a).cells.toList.length = z := by simpa using hsz
          simp only [List.length_cons] at hle
          have hn : (m + 1) * z ≤ (m + (r.length + 1)) * z := Nat.mul_le_mul_right _ (by omega)
          have hn1 : (m + 1) * z = m * z + z := by rw [Nat.add_mul, Nat.one_mul]
          have e0 : (m + 1 + r.length) = (m + (r.length + 1)) := by omega
          have hseg := seg_set (m * z) (ρ a).cells.toList 0 cs (by simp [hsz]; omega)
          simp only [Nat.add_zero] at hseg
          obtain ⟨news, g1, g2, g3, g4⟩ := fill_elsD hr (fun y hy => hρ y (by simp only [List.map_cons]; exact List.mem_cons_of_mem _ hy)) (cs.take (m * z) ++ (ρ a).cells.toList ++ cs.drop (m * z + (ρ a).cells.toList.length)) (by simp [hsz, e0]; omega)
          refine ⟨(ρ a).cells.toList ++ news, ?_, ?_, ?_, ?_⟩
          · simp only [List.map_cons, Instr.fill]
            rw [if_neg (by simp [hsz]; omega)]
            have harr : ((ρ a).cells.zipIdx.foldl (fun cs p => cs.setIfInBounds (m * z + p.2) p.1) cs.toArray) = (cs.take (m * z) ++ (ρ a).cells.toList ++ cs.drop (m * z + (ρ a).cells.toList.length)).toArray := by
              apply Array.ext'
              rw [← Array.foldl_toList, foldl_set_toList, Array.toList_zipIdx]
              exact hseg
            rw [harr, g1]
            congr 2
            have hl1 : (cs.take (m * z)).length = m * z := by simp; omega
            rw [e0]
            have t1 : (cs.take (m * z) ++ (ρ a).cells.toList ++ cs.drop (m * z + (ρ a).cells.toList.length)).take ((m + 1) * z) = cs.take (m * z) ++ (ρ a).cells.toList := by
              rw [List.take_append_of_le_length (by simp [hl1, hl2, hn1]), List.take_of_length_le (by simp [hl1, hl2, hn1])]
            have t2 : (cs.take (m * z) ++ (ρ a).cells.toList ++ cs.drop (m * z + (ρ a).cells.toList.length)).drop ((m + (r.length + 1)) * z) = cs.drop ((m + (r.length + 1)) * z) := by
              rw [List.drop_append, List.drop_eq_nil_of_le (by simp [hl1, hl2]; omega), List.nil_append, List.drop_drop]
              congr 1
              simp only [List.length_append, hl1, hl2]
              omega
            rw [t1, t2]
            simp [List.append_assoc]
          · rw [List.flatMap_cons]; exact h1.append g2
          · intro v hv
            rcases List.mem_append.1 hv with hv | hv
            · exact h2 v hv
            · exact g3 v hv
          · rw [List.length_append, hl2, g4, List.length_cons, Nat.add_mul]; omega

theorem run_buildSlice {e z n : Nat} {zv : Value} (ht : P.underlying t = some (.slice e)) (hz : hasSize P e z = true) (hzv : (P.info? e).bind (·.zero) = some zv) {w : World} {I : Nat → Prop} {base : Nat} {ρ : Operand → Value} {ev : Operand → Option D} {parts : List (Nat × Operand)} {ds : List D} (h : elsD ev z 0 parts = some ds) (hn : ds.length = n) (hsmall : (Nat.ble n 1048576 && Nat.ble (n * z) 16777216) = true)
    (hρ : ∀ x ∈ parts.map (·.2), ∀ d', ev x = some d' → DRep w I base d' (ρ x)) :
    ∃ news : List Value, (Instr.buildSlice t n (parts.map fun p => (p.1, ρ p.2)).toArray).run P w = .ok (.slice (some ⟨w.heap.size, 0, none⟩) n n) (w.alloc (.cells news.toArray e)) ∧ DReps w I base (ds.flatMap D.cells) news ∧ (∀ v ∈ news, v.oneCell' = true) ∧ news.length = n * z ∧ n ≤ maxLen := by
  subst hn
  obtain ⟨i, hi, hi1, hi2, hi3⟩ := zeroSize hz hzv w
  obtain ⟨news, h1, h2, h3, h4⟩ := fill_elsD h hρ ((Array.range (ds.length * z)).map ((if ds.length * z = 0 then #[] else zv.cells)[· % (if ds.length * z = 0 then #[] else zv.cells).size]!)).toList (by simp)
  have hf : Instr.fill (fun i => some (i * z, z)) ((Array.range (ds.length * z)).map ((if ds.length * z = 0 then #[] else zv.cells)[· % (if ds.length * z = 0 then #[] else zv.cells).size]!)) (parts.map fun p => (p.1, ρ p.2)) = some news.toArray := by
    have h1' := h1
    rw [Array.toArray_toList] at h1'
    rw [h1']
    simp
  simp only [Bool.and_eq_true, Nat.ble_eq] at hsmall
  have hsm : ¬ ds.length * z > 2 ^ 24 := by omega
  refine ⟨news, ?_, h2, h3, h4, by simp only [maxLen]; omega⟩
  simp only [Instr.buildSlice, Sem.run_bind, run_underlying ht, Result.andThen_ok, rsz w hz, hsm, if_false]
  by_cases h0 : ds.length * z = 0
  · simp only [h0, if_true] at hf ⊢
    simp only [Sem.run_bind, Sem.run_pure, Result.andThen_ok, hf, newRow, run_newObj]
    rfl
  · simp only [h0, if_false] at hf ⊢
    simp only [Sem.run_bind, Sem.run_pure, Result.andThen_ok, hi3, hf, newRow, run_newObj]
    rfl

theorem e_buildSlice {e z n : Nat} {zv : Value} {parts : List (Nat × Operand)} {ds : List D} (k i : Nat) [ht : TSl P t e] [hz : TSz P e z] [hzv : TZero P e zv] (h : elsD σ.ev z 0 parts = some ds) (hn : ds.length = n) (hsmall : (Nat.ble n 1048576 && Nat.ble (n * z) 16777216) = true) (hN : N.can dst = true) :
    Eff P N ⟨some dst, .buildSlice t n parts.toArray, tt, pos, af, g⟩ σ (laid σ dst k i (n * z) (.row e (ds.flatMap D.cells)) (fun b => .o k i (some (b, n * z)) z 0 n)) :=
  ⟨rfl, fun _ h => laid_gh h, fun C hCN I a w hh => by
    subst hCN
    obtain ⟨news, h1, h2, h3, h4, h5⟩ := run_buildSlice (P := P) (t := t) ht.h hz.h hzv.h (w := w) (I := I) (base := C.base) (ρ := a.eval) h hn hsmall (fun y hy d' hd => hh.ev hd)
    simp only [execOp, List.map_toArray, Sem.run_bind, h1, Sem.run_pure, Result.andThen_ok]
    refine ⟨_, I, ⟨w.heap.size, rfl⟩, (hh.lay k i _ _ (keeps_alloc w _) (by simp) ?_).put (some dst) _ _ (.o k i _ _ z 0 n n (Nat.le_refl _) h5 (by omega)) (fun s e => by cases e; exact hN)⟩
    have := row_new (ty := e) hh.wok.ilt h2 h3
    rw [h2.1, h4] at this
    exact this⟩

/-- A slice that is built and never turned. -/
theorem q_buildSlice {hp : Hp} {ev : Operand → Option D} {dst : Option Nat} {e z n : Nat} {zv : Value} {parts : List (Nat × Operand)} {ds : List D} {xs : List V} {fl : Bool} [ht : TSl P t e] [hz : TSz P e z] [hzv : TZero P e zv] (h : elsD ev z 0 parts = some ds) (hv : ds.flatMap D.cells = els fl xs) (hn : ds.length = n) (hxl : xs.length = n) (hxp : ∀ y ∈ xs, y.plain = true ∧ (V.cells y).length = z) (hsmall : (Nat.ble n 1048576 && Nat.ble (n * z) 16777216) = true) :
    Quiet P hp ev ⟨dst, .buildSlice t n parts.toArray, tt, pos, af, g⟩ (.v fl (.l z xs)) :=
  ⟨rfl, fun C I w ρ hw hρ => by
    obtain ⟨news, h1, h2, h3, h4, h5⟩ := run_buildSlice (P := P) (t := t) ht.h hz.h hzv.h (w := w) (I := I) (base := C.base) (ρ := ρ) h hn hsmall (fun y hy d' hd => hρ y (by simp only [Op.operands]; simpa using hy) d' hd)
    simp only [execOp, List.map_toArray, Sem.run_bind, h1, Sem.run_pure, Result.andThen_ok]
    rw [hv, els_map] at h2
    have h6 := h2.to_v
    have hkk := keeps_alloc w (.cells news.toArray e)
    have h7 : VReps (w.alloc (.cells news.toArray e)) (fresh fl (fun b => I b ∨ b = w.heap.size) C.base) (xs.flatMap V.cells) news := h6.mono (fun b hb => hkk.block b (hw.ilt b hb.1)) (fun b hb => ⟨.inl hb.1, hb.2⟩)
    have h8 := VRep.l_cells (b := w.heap.size) (off := 0) (cap := n) hxp h7 h3 (by omega) h5 (fun _ => ⟨.inr rfl, fun _ => hw.size⟩) (fun j u hu => by rw [Nat.zero_add, cell_of_cells (heap_alloc_new w _)]; exact hu)
    rw [hxl] at h8
    refine ⟨hkk, fun b => I b ∨ b = w.heap.size, fun b hb => .inl hb, fun b hb => ?_, .v _ _ _ h8⟩
    rcases hb with hb | rfl
    · exact .inl hb
    · exact .inr ⟨Nat.le_refl _, by simp⟩⟩
end
end Bf
