/- The engine, part 7: operations that lay or turn blocks of the call's own; freezing. No program is named here. -/
import Derived.Test.YteecgmkfbohpjaaE6
namespace Bf
open Go Go.RowKit

def phiSet (φ : Phi) (k : Nat) (x : Option (Nat × Nat)) : Phi := fun j => if j = k then x else φ j
theorem phiSet_same (φ : Phi) (k : Nat) (x : Option (Nat × Nat)) : phiSet φ k x k = x := by simp [phiSet]
theorem phiSet_other (φ : Phi) {k j : Nat} (x : Option (Nat × Nat)) (h : j ≠ k) : phiSet φ k x j = φ j := by simp [phiSet, h]

theorem D.ment_ne {k j : Nat} {d : D} (h : d.ment k = false) (hj : d.ment j = true) : j ≠ k := fun e => by rw [e, h] at hj; cases hj
theorem Blk.ment_ne {k j : Nat} {d : Blk} (h : d.ment k = false) (hj : d.ment j = true) : j ≠ k := fun e => by rw [e, h] at hj; cases hj

/-- The world turns at the block of one key alone, or gets new blocks; what spoke of the key is forgotten; the key has a new block. -/
theorem Holds.chg {C : Ctx} {σ : St} {φ : Phi} {I : Nat → Prop} {a : Act} {w w' : World} (h : Holds C σ φ I a w) (k : Nat) (blk : Blk) (nb : Option (Nat × Nat))
    (hos : w'.os = w.os) (htp : w'.tape = w.tape) (hout : w'.output = w.output) (hsz : w.heap.size ≤ w'.heap.size)
    (hsame : ∀ b, b < w.heap.size → (∀ blk c, σ.hp k = some blk → φ k ≠ some (b, c)) → w'.heap[b]? = w.heap[b]?)
    (hnb : ∀ b c, nb = some (b, c) → b < w'.heap.size ∧ (w.heap.size ≤ b ∨ ∃ blk c', σ.hp k = some blk ∧ φ k = some (b, c')))
    (hb : BlkRep w' I C.base (phiSet φ k nb) k blk) :
    Holds C { σ with fr := dropF k σ.fr, hp := upd (dropH k σ.hp) k blk } (phiSet φ k nb) I a w' := by
  have hI : ∀ b, I b → w'.heap[b]? = w.heap[b]? := fun b hb => hsame b (h.wok.ilt b hb) (fun blk c hk he => (h.wok.owned k blk b c hk he).2.1 hb)
  have hother : ∀ j blk' b c, j ≠ k → σ.hp j = some blk' → φ j = some (b, c) → w'.heap[b]? = w.heap[b]? := fun j blk' b c hj hh he =>
    hsame b (h.wok.owned j blk' b c hh he).1 (fun blk c' hk he' => hj (h.wok.inj j k blk' blk b c c' hh hk he he'))
  refine ⟨h.df, h.sz, ?_, fun s d hs => ?_⟩
  · refine ⟨hos.trans h.wok.os, htp.trans h.wok.tape, hout.trans h.wok.output, Nat.le_trans h.wok.size hsz, Nat.le_trans h.wok.wsz hsz, fun b hb => Nat.lt_of_lt_of_le (h.wok.ksz b hb) hsz, fun b hK => ?_, fun b hb => Nat.lt_of_lt_of_le (h.wok.ilt b hb) hsz, h.wok.i0, h.wok.inew, fun j blk' hj => ?_, fun j j' b1 b2 b c c' h1 h2 e1 e2 => ?_, fun j blk' b c hj he => ?_⟩
    · exact (hsame b (h.wok.ksz b hK) (fun blk c hk he => (h.wok.owned k blk b c hk he).2.2 hK)).trans (h.wok.old b hK)
    · rcases upd_some hj with ⟨rfl, rfl⟩ | ⟨hne, hj'⟩
      · exact hb
      · obtain ⟨_, h1, h2⟩ := dropH_some hj'
        exact (h.wok.own j blk' h1).mono hI (fun _ hb => hb) (phiSet_other _ _ hne) (fun i hi => phiSet_other _ _ (Blk.ment_ne h2 hi)) (fun b c he => hother j blk' b c hne h1 he)
    · rcases upd_some h1 with ⟨rfl, rfl⟩ | ⟨hne, h1'⟩ <;> rcases upd_some h2 with ⟨rfl, rfl⟩ | ⟨hne', h2'⟩
      · rfl
      · obtain ⟨_, h3, _⟩ := dropH_some h2'
        rw [phiSet_same] at e1
        rw [phiSet_other _ _ hne'] at e2
        rcases (hnb b c e1).2 with h4 | ⟨blk, c2, h4, h5⟩
        · have := (h.wok.owned j' b2 b c' h3 e2).1; omega
        · exact absurd (h.wok.inj j' j b2 blk b c' c2 h3 h4 e2 h5) hne'
      · obtain ⟨_, h3, _⟩ := dropH_some h1'
        rw [phiSet_same] at e2
        rw [phiSet_other _ _ hne] at e1
        rcases (hnb b c' e2).2 with h4 | ⟨blk, c2, h4, h5⟩
        · have := (h.wok.owned j b1 b c h3 e1).1; omega
        · exact absurd (h.wok.inj j j' b1 blk b c c2 h3 h4 e1 h5) hne
      · obtain ⟨_, h3, _⟩ := dropH_some h1'
        obtain ⟨_, h4, _⟩ := dropH_some h2'
        rw [phiSet_other _ _ hne] at e1
        rw [phiSet_other _ _ hne'] at e2
        exact h.wok.inj j j' b1 b2 b c c' h3 h4 e1 e2
    · rcases upd_some hj with ⟨rfl, rfl⟩ | ⟨hne, hj'⟩
      · rw [phiSet_same] at he
        obtain ⟨h1, h2⟩ := hnb b c he
        rcases h2 with h2 | ⟨blk, c2, h2, h3⟩
        · exact ⟨h1, fun hx => by have := h.wok.ilt b hx; omega, fun hK => by have := h.wok.ksz b hK; omega⟩
        · obtain ⟨_, h5, h6⟩ := h.wok.owned j blk b c2 h2 h3
          exact ⟨h1, h5, h6⟩
      · obtain ⟨_, h1, _⟩ := dropH_some hj'
        rw [phiSet_other _ _ hne] at he
        obtain ⟨h4, h5, h6⟩ := h.wok.owned j blk' b c h1 he
        exact ⟨Nat.lt_of_lt_of_le h4 hsz, h5, h6⟩
  · obtain ⟨h1, h2⟩ := dropF_some hs
    exact (h.fr s d h1).mono hI (fun _ hb => hb) (fun i hi => phiSet_other _ _ (D.ment_ne h2 hi))

/-- One block of the call's own turns in place. -/
theorem Holds.turn {C : Ctx} {σ : St} {φ : Phi} {I : Nat → Prop} {a : Act} {w w' : World} (h : Holds C σ φ I a w) (k : Nat) (blk0 blk : Blk) (hk : σ.hp k = some blk0) {b0 c0 : Nat} (hφ : φ k = some (b0, c0))
    (hos : w'.os = w.os) (htp : w'.tape = w.tape) (hout : w'.output = w.output) (hsz : w'.heap.size = w.heap.size)
    (hsame : ∀ b, b ≠ b0 → w'.heap[b]? = w.heap[b]?) (hb : BlkRep w' I C.base φ k blk) : Holds C { σ with hp := upd σ.hp k blk } φ I a w' := by
  obtain ⟨g1, g2, g3⟩ := h.wok.owned k blk0 b0 c0 hk hφ
  have hI : ∀ b, I b → w'.heap[b]? = w.heap[b]? := fun b hb => hsame b (fun e => g2 (e ▸ hb))
  have hup : ∀ j blk', upd σ.hp k blk j = some blk' → ∃ blk'', σ.hp j = some blk'' := fun j blk' hj => by
    rcases upd_some hj with ⟨rfl, rfl⟩ | ⟨_, hj'⟩
    · exact ⟨_, hk⟩
    · exact ⟨_, hj'⟩
  refine ⟨h.df, h.sz, ?_, fun s d hs => (h.fr s d hs).mono hI (fun _ hb => hb) (fun _ _ => rfl)⟩
  refine ⟨hos.trans h.wok.os, htp.trans h.wok.tape, hout.trans h.wok.output, by rw [hsz]; exact h.wok.size, by rw [hsz]; exact h.wok.wsz, fun b hb => by rw [hsz]; exact h.wok.ksz b hb, fun b hK => ?_, fun b hb => by rw [hsz]; exact h.wok.ilt b hb, h.wok.i0, h.wok.inew, fun j blk' hj => ?_, fun j j' b1 b2 b c c' h1 h2 e1 e2 => ?_, fun j blk' b c hj he => ?_⟩
  · refine (hsame b (fun e => ?_)).trans (h.wok.old b hK)
    subst e
    exact g3 hK
  · rcases upd_some hj with ⟨rfl, rfl⟩ | ⟨hne, hj'⟩
    · exact hb
    · exact (h.wok.own j blk' hj').mono hI (fun _ hb => hb) rfl (fun _ _ => rfl) (fun b c he => hsame b (fun e => hne (by subst e; exact h.wok.inj j k blk' blk0 _ _ _ hj' hk he hφ)))
  · obtain ⟨b1', h1'⟩ := hup j b1 h1
    obtain ⟨b2', h2'⟩ := hup j' b2 h2
    exact h.wok.inj j j' b1' b2' b c c' h1' h2' e1 e2
  · obtain ⟨b1', h1'⟩ := hup j blk' hj
    obtain ⟨h4, h5, h6⟩ := h.wok.owned j b1' b c h1' he
    exact ⟨by rw [hsz]; exact h4, h5, h6⟩

/-- What an operation with an effect comes to. -/
def EffRes (C : Ctx) (σ' : St) (a : Act) (o : Oper) : Result Next → Prop
  | .ok (.value v) w' => ∃ φ' I', Holds C σ' φ' I' (a.put o.dst v) w'
  | .ok .skip w' => ∃ φ' I', Holds C σ' φ' I' (a.put o.dst undef) w'
  | _ => False

def Effect (P : Program) (N : Rm) (o : Oper) (σ σ' : St) : Prop :=
  σ'.gh = σ.gh ∧ noDefer o.op = true ∧ ∀ (C : Ctx), C.N = N → ∀ (φ : Phi) (I : Nat → Prop) (a : Act) (w : World), Holds C σ φ I a w → EffRes C σ' a o ((execOp a.eval o).run P w)

theorem Effect.wp {P : Program} {C : Ctx} {rd : Option Nat} {σ σ' : St} {φ : Phi} {I : Nat → Prop} {a : Act} {w : World} {o : Oper} {K : Act → World → Prop} {Q : Exit → Act → World → Prop}
    (he : Effect P C.N o σ σ') (h : Holds C σ φ I a w) (hK : ∀ (φ' : Phi) (I' : Nat → Prop) (a' : Act) (w' : World), Holds C σ' φ' I' a' w' → K a' w') : o.wpIn (fenceOf rd) 0 P a w K Q := by
  have hr := he.2.2 C rfl φ I a w h
  refine ⟨fun _ _ => trivial, ?_⟩
  rw [noDefer_sem he.2.1]
  generalize (execOp a.eval o).run P w = r at hr ⊢
  cases r with
  | halt x w' => exact hr.elim
  | ok n w' =>
    cases n <;> try exact hr.elim
    case value v => obtain ⟨φ', I', hh⟩ := hr; exact hK φ' I' _ _ hh
    case skip => obtain ⟨φ', I', hh⟩ := hr; exact hK φ' I' _ _ hh

section
variable {X : Cx} {rd : Option Nat} {P : Program} {ops : Array Oper} {rest : List Oper} {o : Oper} {σ σ' : St} {Q : Exit → St → Prop} {d : D}

theorem run_effect (he : Effect P X.N o σ σ') (hg : o.guard = none) (h : RunS X rd P ops rest σ' Q) : RunS X rd P ops (o :: rest) σ Q :=
  fun C _ _ _ _ hC hh => wpListIn_plain hg fun _ hK => Effect.wp (X.hN _ _ hC ▸ he) hh fun φ' I' a' w' hh' => hK _ _ (h C φ' I' a' w' (he.1 ▸ hC) hh')

theorem run_effectg {s : Nat} {want f : Bool} (hg : guardSlot ops o = some (s, want)) (hs : σ.fr s = some (.v f (.b want))) (hN : Nat.blt s X.N.n = true) (he : Effect P X.N o σ σ') (h : RunS X rd P ops rest σ' Q) : RunS X rd P ops (o :: rest) σ Q :=
  fun C φ I a w hC hh => wpListIn_step fun K hK => by
    rw [wanted_of hh hg hs (by rw [X.hN _ _ hC]; simpa using hN)]
    simp only [BEq.rfl, if_true]
    exact Effect.wp (X.hN _ _ hC ▸ he) hh fun φ' I' a' w' hh' => hK _ _ (h C φ' I' a' w' (he.1 ▸ hC) hh')

/-- A step on what is said of the state alone. -/
def Shift (X : Cx) (σ σ' : St) : Prop := σ'.gh = σ.gh ∧ ∀ (C : Ctx) (φ : Phi) (I : Nat → Prop) (a : Act) (w : World), X.is σ.gh C → Holds C σ φ I a w → ∃ φ' I', Holds C σ' φ' I' a w
theorem run_shift (hs : Shift X σ σ') (h : RunS X rd P ops rest σ' Q) : RunS X rd P ops rest σ Q :=
  fun C φ I a w hC hh => by obtain ⟨φ', I', hh'⟩ := hs.2 C φ I a w hC hh; exact h C φ' I' a w (hs.1 ▸ hC) hh'
theorem ev_shift {c : Code} (hs : Shift X σ σ') (h : Ev X rd P c σ' Q) : Ev X rd P c σ Q :=
  fun C φ I a w hC hh => by obtain ⟨φ', I', hh'⟩ := hs.2 C φ I a w hC hh; exact h C φ' I' a w (hs.1 ▸ hC) hh'
end

/-- The state behind an operation that lays a block for the key 'k'. -/
def St.lay (σ : St) (k : Nat) (blk : Blk) (dst : Option Nat) (d : D) : St := ({ σ with fr := dropF k σ.fr, hp := upd (dropH k σ.hp) k blk } : St).put dst d

section
variable {P : Program} {N : Rm} {σ : St} {dst : Nat} {t tt ty : TypeId} {pos : String} {af : Array Edge} {g : Option (Nat × Bool)} {x y : Operand} {d : D} {f f1 f2 : Bool}

theorem keeps_alloc (w : World) (o : Obj) : Keeps w (w.alloc o) := (Below.refl _ w).alloc (Nat.le_refl _) o

/-- A new block of the call's own. -/
theorem Holds.lay {C : Ctx} {φ : Phi} {I : Nat → Prop} {a : Act} {w : World} (h : Holds C σ φ I a w) (o : Obj) (c : Nat) (k : Nat) (blk : Blk) (hb : BlkRep (w.alloc o) I C.base (phiSet φ k (some (w.heap.size, c))) k blk) :
    Holds C { σ with fr := dropF k σ.fr, hp := upd (dropH k σ.hp) k blk } (phiSet φ k (some (w.heap.size, c))) I a (w.alloc o) :=
  h.chg k blk (some (w.heap.size, c)) rfl rfl rfl (by simp) (fun b hb _ => (keeps_alloc w o).block b hb) (fun b c' e => by cases e; exact ⟨by simp, .inl (Nat.le_refl _)⟩) hb

theorem boxed {w : World} {φ : Phi} {I : Nat → Prop} {base k ty : Nat} {ds : List D} {vs : List Value} (hl : ds.length = vs.length) (h1 : ∀ v ∈ vs, v.oneCell' = true)
    (hd : ∀ (i : Nat) x v, ds[i]? = some x → vs[i]? = some v → DRep (w.alloc (.cells vs.toArray ty)) I base (phiSet φ k (some (w.heap.size, 0))) x v) :
    BlkRep (w.alloc (.cells vs.toArray ty)) I base (phiSet φ k (some (w.heap.size, 0))) k (.cells ty ds) :=
  ⟨w.heap.size, 0, vs, phiSet_same _ _ _, heap_alloc_new w _, hl, h1, hd⟩

theorem e_alloc {zv : Value} [hz : TZero P t zv] (h1 : oneAll zv = true) (hN : N.can dst = true) :
    Effect P N ⟨some dst, .alloc t, tt, pos, af, g⟩ σ (σ.lay dst (.cells t ((zeroV zv).map (D.v true))) (some dst) (.p dst 0)) :=
  ⟨rfl, rfl, fun C hCN φ I a w h => by
    subst hCN
    have hzz := hz.h
    obtain ⟨hz1, hz2⟩ := zeroV_reps (w := w.alloc (.cells zv.cells t)) (I := fresh true I C.base) h1
    cases hi : P.info? t with
    | none => rw [hi] at hzz; cases hzz
    | some i =>
      rw [hi] at hzz
      simp only [Option.bind_some] at hzz
      simp only [execOp, Instr.alloc, zeroValue, typeInfo, Sem.run_bind, run_program, Sem.run_pure, Result.andThen_ok, hi, hzz, newVar, newRow, run_newObj]
      refine ⟨phiSet φ dst (some (w.heap.size, 0)), I, (h.lay (.cells zv.cells t) 0 dst _ ?_).put (some dst) _ _ (.p _ _ _ _ (phiSet_same _ _ _)) (fun s e => by cases e; simpa using hN)⟩
      have := boxed (w := w) (φ := φ) (I := I) (base := C.base) (k := dst) (ty := t) (ds := (zeroV zv).map (D.v true)) (vs := zv.cells.toList) (by simp [hz1.1]) hz2 (fun i x v hx hv => by
        rw [List.getElem?_map] at hx
        cases hy : (zeroV zv)[i]? with
        | none => rw [hy] at hx; cases hx
        | some y => rw [hy] at hx; cases hx; exact .v _ _ _ (hz1.2 i y v hy hv))
      simpa using this⟩

theorem e_box {e : V} (hx : σ.ev x = some (.v f e)) (hpl : e.plain = true) (hN : N.can dst = true) :
    Effect P N ⟨some dst, .box t x, tt, pos, af, g⟩ σ (σ.lay dst (.cells t ((V.cells e).map (D.v f))) (some dst) (.p dst 0)) :=
  ⟨rfl, rfl, fun C hCN φ I a w h => by
    subst hCN
    obtain ⟨h1, h2⟩ := (h.ev hx).v_inv.cells hpl
    simp only [execOp, Instr.box, Sem.run_bind, Sem.run_pure, Result.andThen_ok, newVar, newRow, run_newObj]
    refine ⟨phiSet φ dst (some (w.heap.size, 0)), I, (h.lay (.cells (a.eval x).cells t) 0 dst _ ?_).put (some dst) _ _ (.p _ _ _ _ (phiSet_same _ _ _)) (fun s e => by cases e; simpa using hN)⟩
    have := boxed (w := w) (φ := φ) (I := I) (base := C.base) (k := dst) (ty := t) (ds := (V.cells e).map (D.v f)) (vs := (a.eval x).cells.toList) (by simp [h1.1]) h2 (fun i y v hy hv => by
      rw [List.getElem?_map] at hy
      cases hz : (V.cells e)[i]? with
      | none => rw [hz] at hy; cases hy
      | some z =>
        rw [hz] at hy; cases hy
        exact .v _ _ _ ((h1.2 i z v hz hv).mono (fun b hb => (keeps_alloc w _).block b (h.wok.ilt b hb.1)) (fun _ hb => hb)))
    simpa using this⟩

/-- A box that holds a slice, a pointer or a map of the call's own. -/
def D.own1 : D → Bool
  | .v _ _ => false
  | .st _ => false
  | _ => true
theorem DRep.one {w : World} {I : Nat → Prop} {base : Nat} {φ : Phi} {d : D} {v : Value} (h : DRep w I base φ d v) (hd : d.own1 = true) : v.oneCell' = true := by
  cases h <;> simp_all [D.own1, Value.oneCell']
theorem e_boxo (hx : σ.ev x = some d) (ho : d.own1 = true) (hm : d.ment dst = false) (hN : N.can dst = true) :
    Effect P N ⟨some dst, .box t x, tt, pos, af, g⟩ σ (σ.lay dst (.cells t [d]) (some dst) (.p dst 0)) :=
  ⟨rfl, rfl, fun C hCN φ I a w h => by
    subst hCN
    have h0 := h.ev hx
    have h1 := h0.one ho
    simp only [execOp, Instr.box, Sem.run_bind, Sem.run_pure, Result.andThen_ok, newVar, newRow, run_newObj, oneCell_cells h1]
    refine ⟨phiSet φ dst (some (w.heap.size, 0)), I, (h.lay (.cells #[a.eval x] t) 0 dst _ ?_).put (some dst) _ _ (.p _ _ _ _ (phiSet_same _ _ _)) (fun s e => by cases e; simpa using hN)⟩
    exact boxed (w := w) (φ := φ) (I := I) (base := C.base) (k := dst) (ty := t) (ds := [d]) (vs := [a.eval x]) rfl (by simpa using h1) (fun i y v hy hv => by
      cases i with
      | succ i => simp at hy
      | zero =>
        simp at hy hv
        subst hy; subst hv
        exact h0.mono (fun b hb => (keeps_alloc w _).block b (h.wok.ilt b hb)) (fun _ hb => hb) (fun j hj => phiSet_other _ _ (D.ment_ne hm hj)))⟩

/-! #### Stores -/
theorem run_storeVar {w : World} {z : Nat} (hz : hasSize P t z = true) {b off : Nat} {ty : TypeId} {v : Value} {cur : List Value} (hg : w.heap[b]? = some (.cells cur.toArray ty (0, 0))) (hl : v.cells.size = z) (hle : off + z ≤ cur.length) (h1 : ∀ u ∈ v.cells.toList, u.oneCell' = true) :
    (storeVar t ⟨b, off, none⟩ v).run P w = .ok () (w.setRow b (cur.take off ++ v.cells.toList ++ cur.drop (off + z)).toArray) := by
  have hst := run_storeCells_at P b off ty v.cells.toList 0 cur.toArray w hg (by simpa [hl] using hle) h1
  simp only [Nat.add_zero] at hst
  simp only [storeVar, Sem.run_bind, rsz w hz, Result.andThen_ok, hl, ne_eq, not_true_eq_false, if_false, hst]
  simp [hl]

theorem setRow_facts {w : World} {b : Nat} {cs : Array Value} : (w.setRow b cs).os = w.os ∧ (w.setRow b cs).tape = w.tape ∧ (w.setRow b cs).output = w.output ∧ (w.setRow b cs).heap.size = w.heap.size := ⟨rfl, rfl, rfl, by simp [World.setRow]⟩

theorem e_store {k off : Nat} {cs : List D} {dd : Option Nat} {z : Nat} {e : V} [hz : TSz P t z] (hx : σ.ev x = some (.p k off)) (hk : σ.hp k = some (.cells ty cs)) (hy : σ.ev y = some (.v f e)) (hpl : e.plain = true) (hl : (V.cells e).length = z) (hle : Nat.ble (off + z) cs.length = true) (hd : dd = none) :
    Effect P N ⟨dd, .store t x y, tt, pos, af, g⟩ σ { σ with hp := upd σ.hp k (.cells ty (cs.take off ++ (V.cells e).map (D.v f) ++ cs.drop (off + z))) } :=
  ⟨rfl, rfl, fun C hCN φ I a w h => by
    subst hCN
    subst hd
    obtain ⟨b, c, h1, h2⟩ := (h.ev hx).p_inv
    obtain ⟨b', c', vs, h3, h4, h5, h6, h7⟩ := h.wok.own k _ hk
    rw [h1] at h3; cases h3
    obtain ⟨h8, h9⟩ := (h.ev hy).v_inv.cells hpl
    have hvl : (a.eval y).cells.size = z := by have := h8.1; rw [hl] at this; simpa using this.symm
    have hle' : off + z ≤ vs.length := by rw [← h5]; simpa using hle
    have hr := run_storeVar (P := P) (w := w) hz.h h4 hvl hle' h9
    simp only [execOp, Instr.storeAt, h2, Instr.sureAddr, Sem.run_bind, Sem.run_pure, Result.andThen_ok, hr]
    obtain ⟨k1, k2, k3, k4⟩ := @setRow_facts w b (vs.take off ++ (a.eval y).cells.toList ++ vs.drop (off + z)).toArray
    have hI : ∀ b', I b' → (w.setRow b (vs.take off ++ (a.eval y).cells.toList ++ vs.drop (off + z)).toArray).heap[b']? = w.heap[b']? := fun b' hb' => setRow_other w b b' _ (fun e' => (h.wok.owned k _ b c hk h1).2.1 (e' ▸ hb'))
    refine ⟨φ, I, h.turn k _ _ hk h1 k1 k2 k3 k4 (fun b' hb' => setRow_other w b b' _ hb') ⟨b, c, _, h1, setRow_heap w b _ _ _ _ h4, ?_, ?_, ?_⟩⟩
    · have := h8.1
      simp only [List.length_append, List.length_take, List.length_drop, List.length_map, h5, this]
    · intro v hv
      simp only [List.mem_append] at hv
      rcases hv with (hv | hv) | hv
      · exact h6 v (List.mem_of_mem_take hv)
      · exact h9 v hv
      · exact h6 v (List.mem_of_mem_drop hv)
    · intro i p v hp hv
      have hlen : (V.cells e).length = (a.eval y).cells.toList.length := h8.1
      by_cases hi : i < off
      · rw [List.append_assoc, List.getElem?_append_left (by simp; omega), List.getElem?_take, if_pos hi] at hp hv
        exact (h7 i p v hp hv).mono hI (fun _ hb => hb) (fun _ _ => rfl)
      · by_cases hi2 : i < off + z
        · rw [List.append_assoc, List.getElem?_append_right (by simp; omega), List.getElem?_append_left (by simp [hl]; omega), List.getElem?_map] at hp
          rw [List.append_assoc, List.getElem?_append_right (by simp; omega), List.getElem?_append_left (by rw [← hlen, hl]; simp; omega)] at hv
          have e1 : i - (cs.take off).length = i - (vs.take off).length := by simp [h5]
          rw [e1] at hp
          cases hq : (V.cells e)[i - (vs.take off).length]? with
          | none => rw [hq] at hp; cases hp
          | some q =>
            rw [hq] at hp; cases hp
            exact .v _ _ _ ((h8.2 _ q v hq hv).mono (fun b hb => hI b hb.1) (fun _ hb => hb))
        · rw [List.append_assoc, List.getElem?_append_right (by simp; omega), List.getElem?_append_right (by simp [hl]; omega), List.getElem?_drop] at hp
          rw [List.append_assoc, List.getElem?_append_right (by simp; omega), List.getElem?_append_right (by rw [← hlen, hl]; simp; omega), List.getElem?_drop] at hv
          have e1 : off + z + (i - (cs.take off).length - ((V.cells e).map (D.v f)).length) = i := by
            have hmin : min off cs.length = off := by omega
            simp [hl, hmin]; omega
          have e2 : off + z + (i - (vs.take off).length - (a.eval y).cells.toList.length) = i := by
            have hmin : min off vs.length = off := by omega
            rw [← hlen, hl]; simp [hmin]; omega
          rw [e1] at hp
          rw [e2] at hv
          exact (h7 i p v hp hv).mono hI (fun _ hb => hb) (fun _ _ => rfl)⟩
end
end Bf
