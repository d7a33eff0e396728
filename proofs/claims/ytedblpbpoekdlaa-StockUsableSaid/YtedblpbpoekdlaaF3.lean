/- The engine, part 3: contracts of pure functions, quiet operations, and the rules of a region's run. No program is named here. -/
import Derived.Test.YtedblpbpoekdlaaF2
namespace Bf
open Go Go.RowKit

def fenceOf (rd : Option Nat) : Fence := { Fence.wide with round := rd }

/-- A function that changes nothing: whatever reads as 'ds' is answered by what reads as 'r', in new memory alone where 'fr'. -/
def PureC (P : Program) (fr : Bool) (f : FuncId) (ds : List V) (r : V) : Prop :=
  ∀ (args : List Value) (w : World) (J : Nat → Prop), (∀ b, J b → b < w.heap.size) → VReps w J ds args →
    Calls P f args.toArray w fun e w' => ∃ v, e = .returned v ∧ Keeps w w' ∧ VRep w' (fun b => b < w'.heap.size ∧ (w.heap.size ≤ b ∨ (fr = false ∧ J b))) r v

/-- It is a function with a body. -/
def isFn (P : Program) (f : FuncId) : Bool :=
  match P.funcs[f]? with
  | some fn => fn.body.isSome && !(fn.name == "runtime.NumGoroutine")
  | none => false

theorem run_callFunc {P : Program} {f : FuncId} (h : isFn P f = true) (args : Array Value) (w : World) : (callFunc f args).run P w = .ok (.enter f args) w := by
  unfold isFn at h
  cases hf : P.funcs[f]? with
  | none => simp [hf] at h
  | some fn =>
    simp only [hf, Bool.and_eq_true, Bool.not_eq_true'] at h
    have h2 : ¬ fn.name = "runtime.NumGoroutine" := by simpa using h.2
    obtain ⟨c, hc⟩ := Option.isSome_iff_exists.1 h.1
    simp [callFunc, hf, h2, hc]

def constV : Value → V
  | .int k n => .i k n
  | .bool b => .b b
  | .string s => .s s
  | v => .raw v
def constD : Value → Option D
  | .agg cs => if cs.all (·.oneCell') then some (.v true (.st (cs.toList.map constV))) else none
  | .tuple _ => none
  | v => some (.v true (constV v))
def St.ev (σ : St) : Operand → Option D
  | .tmp t => σ.fr t
  | .const v => constD v
  | .func f => some (.v true (.c f []))
  | .global _ => none

theorem constV_rep {w : World} {I : Nat → Prop} {v : Value} (h : v.oneCell' = true) : VRep w I (constV v) v := by
  cases v <;> first | exact .i _ _ | exact .b _ | exact .s _ | exact .raw _ h

theorem constD_rep {w : World} {I : Nat → Prop} {base : Nat} {v : Value} {d : D} (h : constD v = some d) : DRep w I base d v := by
  cases v with
  | agg cs =>
    simp only [constD] at h
    split at h
    · rename_i hc
      cases h
      refine .v true _ _ ?_
      have hc' : ∀ v ∈ cs.toList, v.oneCell' = true := by
        intro v hv
        obtain ⟨j, hj, e⟩ := Array.getElem_of_mem (Array.mem_toList_iff.1 hv)
        simp at hc
        rw [← e]
        exact hc j hj
      have := VRep.st (w := w) (I := fresh true I base) (cs.toList.map constV) cs.toList (by simp) hc' (fun i x v hx hv => by
        rw [List.getElem?_map, hv] at hx
        cases hx
        exact constV_rep (hc' v (List.mem_of_getElem? hv)))
      simpa using this
    · cases h
  | tuple => cases h
  | bool b => cases h; exact .v _ _ _ (.b b)
  | int k n => cases h; exact .v _ _ _ (.i k n)
  | string s => cases h; exact .v _ _ _ (.s s)
  | _ => cases h; exact .v _ _ _ (.raw _ rfl)

theorem Holds.ev {C : Ctx} {σ : St} {I : Nat → Prop} {a : Act} {w : World} (h : Holds C σ I a w) {x : Operand} {d : D} (hx : σ.ev x = some d) : DRep w I C.base d (a.eval x) := by
  cases x with
  | tmp t => exact h.fr t d hx
  | const v => exact constD_rep hx
  | func f => cases hx; exact .v _ _ _ (.c f [] [] rfl (fun i x v hx => by simp at hx))
  | global g => cases hx

/-- What a quiet operation comes to. -/
def QRes (P : Program) (C : Ctx) (I : Nat → Prop) (w : World) (d : D) : Result Next → Prop
  | .ok (.value v) w' => w' = w ∧ DRep w I C.base d v
  | .ok (.enter f args) w' => w' = w ∧ Calls P f args w fun e w' => ∃ v, e = .returned v ∧ Keeps w w' ∧ ∃ I', (∀ b, I b → I' b) ∧ (∀ b, I' b → I b ∨ (w.heap.size ≤ b ∧ b < w'.heap.size)) ∧ DRep w' I' C.base d v
  | _ => False

def noDefer : Op → Bool
  | .defer _ => false
  | .select _ _ => false
  | _ => true

def QuietO (P : Program) (hp : Hp) (ev : Operand → Option D) (o : Oper) (d : D) : Prop :=
  noDefer o.op = true ∧ ∀ (C : Ctx) (I : Nat → Prop) (w : World) (ρ : Operand → Value), WOk C hp I w →
    (∀ x ∈ o.op.operands, ∀ d', ev x = some d' → DRep w I C.base d' (ρ x)) → QRes P C I w d ((execOp ρ o).run P w)

/-- What a quiet operation may come to: a value, in new memory maybe. -/
def QResN (P : Program) (C : Ctx) (I : Nat → Prop) (w : World) (d : D) : Result Next → Prop
  | .ok (.value v) w' => Keeps w w' ∧ ∃ I', (∀ b, I b → I' b) ∧ (∀ b, I' b → I b ∨ (w.heap.size ≤ b ∧ b < w'.heap.size)) ∧ DRep w' I' C.base d v
  | r => QRes P C I w d r
def Quiet (P : Program) (hp : Hp) (ev : Operand → Option D) (o : Oper) (d : D) : Prop :=
  noDefer o.op = true ∧ ∀ (C : Ctx) (I : Nat → Prop) (w : World) (ρ : Operand → Value), WOk C hp I w →
    (∀ x ∈ o.op.operands, ∀ d', ev x = some d' → DRep w I C.base d' (ρ x)) → QResN P C I w d ((execOp ρ o).run P w)

theorem Quiet.of {P : Program} {hp : Hp} {ev : Operand → Option D} {o : Oper} {d : D} (h : QuietO P hp ev o d) : Quiet P hp ev o d :=
  ⟨h.1, fun C I w ρ hw hρ => by
    have := h.2 C I w ρ hw hρ
    generalize (execOp ρ o).run P w = r at this ⊢
    cases r with
    | halt x w' => exact this
    | ok n w' =>
      cases n <;> try exact this
      obtain ⟨rfl, hd⟩ := this
      exact ⟨Below.refl _ _, I, fun _ h => h, fun _ h => .inl h, hd⟩⟩

def Lift (X : Cx) (Q : Exit → St → Prop) : Exit → Act → World → Prop := fun e a w => ∃ C σ I, X.is σ.gh C ∧ Q e σ ∧ Holds C σ I a w

def Ev (X : Cx) (rd : Option Nat) (P : Program) (c : Code) (σ : St) (Q : Exit → St → Prop) : Prop :=
  ∀ (C : Ctx) (I : Nat → Prop) (a : Act) (w : World), X.is σ.gh C → Holds C σ I a w → c.wpIn (fenceOf rd) 0 P (Lift X Q) a w

def RunS (X : Cx) (rd : Option Nat) (P : Program) (ops : Array Oper) (rest : List Oper) (σ : St) (Q : Exit → St → Prop) : Prop :=
  ∀ (C : Ctx) (I : Nat → Prop) (a : Act) (w : World), X.is σ.gh C → Holds C σ I a w → wpListIn (fenceOf rd) 0 P ops (Lift X Q) rest a w

theorem callsIn_of {P : Program} (rd : Option Nat) {f : FuncId} {args : Array Value} {w : World} {R : Ending → World → Prop} (h : Calls P f args w R) : CallsIn (fenceOf rd) 0 P f args w R := by
  cases rd with
  | none => exact callsIn_wide.2 h
  | some l => exact (callsIn_wide.2 h : CallsIn Fence.wide 0 P f args w R)

theorem noDefer_sem {o : Oper} (h : noDefer o.op = true) (rd : Option Nat) (ρ : Operand → Value) : o.semAt (fenceOf rd).round ρ = execOp ρ o := by
  cases rd with
  | none => exact Oper.semAt_none _ _
  | some l => exact Oper.semAt_some l ρ o (fun c e => by rw [e] at h; simp [noDefer] at h)

/-- A quiet operation, carried out. -/
theorem Quiet.wp {P : Program} {C : Ctx} {rd : Option Nat} {σ : St} {I : Nat → Prop} {a : Act} {w : World} {o : Oper} {d : D} {K : Act → World → Prop} {Q : Exit → Act → World → Prop}
    (hq : Quiet P σ.hp σ.ev o d) (h : Holds C σ I a w) (hs : ∀ s, o.dst = some s → C.N.can s = true)
    (hK : ∀ (I' : Nat → Prop) (v : Value) (w' : World), Holds C (σ.put o.dst d) I' (a.put o.dst v) w' → K (a.put o.dst v) w') : o.wpIn (fenceOf rd) 0 P a w K Q := by
  have hr := hq.2 C I w a.eval h.wok (fun x _ d' hx => h.ev hx)
  refine ⟨fun _ _ => trivial, ?_⟩
  rw [noDefer_sem hq.1]
  generalize (execOp a.eval o).run P w = r at hr ⊢
  cases r with
  | halt x w' => exact hr.elim
  | ok n w' =>
    cases n <;> try exact hr.elim
    case value v =>
      obtain ⟨hk, I', h1, h2, hd⟩ := hr
      exact hK I' v _ ((h.keep hk h1 h2).put _ _ _ hd hs)
    case enter f args =>
      obtain ⟨rfl, hc⟩ := hr
      refine ⟨fun e => absurd e (by simp [fenceOf, Fence.wide]), (callsIn_of rd hc).mono ?_⟩
      rintro e w'' ⟨v, rfl, hk, I', h1, h2, hd⟩
      exact hK I' v w'' ((h.keep hk h1 h2).put _ _ _ hd hs)

theorem gh_put {X : Cx} {C : Ctx} {σ : St} {dst : Option Nat} {d : D} (h : X.is σ.gh C) : X.is (σ.put dst d).gh C := by cases dst <;> exact h
theorem gh_skip {X : Cx} {C : Ctx} {σ : St} {dst : Option Nat} (h : X.is σ.gh C) : X.is (σ.skip dst).gh C := gh_put h
theorem ev_region {X : Cx} {rd : Option Nat} {P : Program} {id : Nat} {l : List Oper} {σ : St} {Q : Exit → St → Prop} (h : RunS X rd P l.toArray l σ Q) : Ev X rd P (.region id l.toArray false) σ Q :=
  fun C I a w hC hh => wpIn_region_lit (h C I a w hC hh)

section
variable {X : Cx} {rd : Option Nat} {P : Program} {ops : Array Oper} {rest : List Oper} {o : Oper} {σ : St} {Q : Exit → St → Prop} {d : D}

theorem run_nil (h : Q .normal σ) : RunS X rd P ops [] σ Q := fun C I _ _ hC hh => ⟨C, σ, I, hC, h, hh⟩

theorem run_quiet (hq : Quiet P σ.hp σ.ev o d) (hg : o.guard = none) (hs : (o.dst.all X.N.can) = true) (h : RunS X rd P ops rest (σ.put o.dst d) Q) : RunS X rd P ops (o :: rest) σ Q :=
  fun C I a w hC hh => wpListIn_plain hg fun K hK => hq.wp hh (fun s e => by rw [X.hN _ _ hC]; rw [e] at hs; simpa using hs) fun I' _ _ hh' => hK _ _ (h C I' _ _ (gh_put hC) hh')

/-- The slot on which an operation's guard looks. -/
def guardSlot (ops : Array Oper) (o : Oper) : Option (Nat × Bool) :=
  match o.guard with
  | some (j, want) => ((ops[j]?).bind (·.dst)).map (·, want)
  | none => none

theorem wanted_of {C : Ctx} {a : Act} {w : World} {I : Nat → Prop} {s : Nat} {want b f : Bool} (hh : Holds C σ I a w) (hg : guardSlot ops o = some (s, want)) (hs : σ.fr s = some (.v f (.b b))) (hN : s < C.N.n) :
    Region.wanted o (yielded ops a.tmps) = (b == want) := by
  unfold guardSlot at hg
  cases hgd : o.guard with
  | none => rw [hgd] at hg; cases hg
  | some p =>
    obtain ⟨j, wt⟩ := p
    rw [hgd] at hg
    simp only at hg
    cases hj : (ops[j]?).bind (·.dst) with
    | none => rw [hj] at hg; cases hg
    | some s' =>
      rw [hj] at hg
      simp at hg
      obtain ⟨rfl, rfl⟩ := hg
      have hd := hh.fr s' _ hs
      have hv : a.tmps[s']? = some (.bool b) := by
        cases hd with
        | v _ _ _ h =>
          have h' := h.b_inv
          have hlt : s' < a.tmps.size := by rw [hh.sz.1]; exact hN
          simp [Array.getD_eq_getD_getElem?, hlt] at h'
          simp [hlt, h']
      simp [Region.wanted, hgd, yielded, hj, hv]

theorem run_guarded {s : Nat} {want f : Bool} (hg : guardSlot ops o = some (s, want)) (hs : σ.fr s = some (.v f (.b want))) (hN : Nat.blt s X.N.n = true)
    (hq : Quiet P σ.hp σ.ev o d) (hd : (o.dst.all X.N.can) = true) (h : RunS X rd P ops rest (σ.put o.dst d) Q) : RunS X rd P ops (o :: rest) σ Q :=
  fun C I a w hC hh => wpListIn_step fun K hK => by
    rw [wanted_of hh hg hs (by rw [X.hN _ _ hC]; simpa using hN)]
    simp only [BEq.rfl, if_true]
    exact hq.wp hh (fun s e => by rw [X.hN _ _ hC]; rw [e] at hd; simpa using hd) fun I' _ _ hh' => hK _ _ (h C I' _ _ (gh_put hC) hh')

theorem run_skipped (hw : ∀ (C : Ctx) (I : Nat → Prop) (a : Act) (w : World), C.N = X.N → Holds C σ I a w → Region.wanted o (yielded ops a.tmps) = false) (hd : (o.dst.all X.N.can) = true)
    (h : RunS X rd P ops rest (σ.skip o.dst) Q) : RunS X rd P ops (o :: rest) σ Q :=
  fun C I a w hC hh => wpListIn_step fun K hK => by
    rw [hw C I a w (X.hN _ _ hC) hh]
    exact ⟨fun _ _ => trivial, hK _ _ (h C I _ _ (gh_skip hC) (hh.skip _ (fun s e => by rw [X.hN _ _ hC]; rw [e] at hd; simpa using hd)))⟩

/-- An operation whose guard looks at a slot in which nothing lies. -/
theorem wanted_none {C : Ctx} {a : Act} {w : World} {I : Nat → Prop} {s : Nat} {want f : Bool} (hh : Holds C σ I a w) (hg : guardSlot ops o = some (s, want)) (hs : σ.fr s = some (.v f (.t []))) (hN : s < C.N.n) :
    Region.wanted o (yielded ops a.tmps) = false := by
  unfold guardSlot at hg
  cases hgd : o.guard with
  | none => rw [hgd] at hg; cases hg
  | some p =>
    obtain ⟨j, wt⟩ := p
    rw [hgd] at hg
    simp only at hg
    cases hj : (ops[j]?).bind (·.dst) with
    | none => rw [hj] at hg; cases hg
    | some s' =>
      rw [hj] at hg
      simp at hg
      obtain ⟨rfl, rfl⟩ := hg
      have hd := hh.fr s' _ hs
      have hv : ∃ vs, a.tmps[s']? = some (.tuple vs) := by
        cases hd with
        | v _ _ _ h =>
          generalize hu : a.tmps.getD s' undef = u at h
          cases h with
          | t xs vs hl h =>
            have hlt : s' < a.tmps.size := by rw [hh.sz.1]; exact hN
            exact ⟨vs.toArray, by simpa [Array.getD_eq_getD_getElem?, hlt] using hu⟩
      obtain ⟨vs, hv⟩ := hv
      simp [Region.wanted, hgd, yielded, hj, hv]
end

/-! ### Reading a slot's value -/
section
variable {w : World} {I : Nat → Prop} {base : Nat} {u : Value} {f : Bool}
theorem DRep.v_inv {x : V} (h : DRep w I base (.v f x) u) : VRep w (fresh f I base) x u := by cases h; assumption
theorem DRep.b_inv {x : Bool} (h : DRep w I base (.v f (.b x)) u) : u = .bool x := h.v_inv.b_inv
theorem DRep.i_inv {k : IntKind} {n : Int} (h : DRep w I base (.v f (.i k n)) u) : u = .int k n := h.v_inv.i_inv
theorem DRep.s_inv {x : ByteArray} (h : DRep w I base (.v f (.s x)) u) : u = .string x := h.v_inv.s_inv
theorem VRep.unfresh {x : V} (h : VRep w (fresh f I base) x u) : VRep w I x u := h.mono (fun _ _ => rfl) (fun _ hb => hb.1)
end

/-! ### Quiet operations -/
section
variable {P : Program} {hp : Hp} {ev : Operand → Option D} {dst : Option Nat} {tt : TypeId} {pos : String} {af : Array Edge} {g : Option (Nat × Bool)} {x y c : Operand} {d : D} {f f1 f2 : Bool}

theorem q_move (hx : ev x = some d) : Quiet P hp ev ⟨dst, .move x, tt, pos, af, g⟩ d :=
  Quiet.of ⟨rfl, fun C I w ρ _ hρ => ⟨rfl, hρ x (by simp [Op.operands]) d hx⟩⟩
theorem q_assign (hx : ev x = some d) : Quiet P hp ev ⟨dst, .assign x, tt, pos, af, g⟩ d :=
  Quiet.of ⟨rfl, fun C I w ρ _ hρ => ⟨rfl, hρ x (by simp [Op.operands]) d hx⟩⟩

theorem q_pickt (hc : ev c = some (.v f (.b true))) (hx : ev x = some d) : Quiet P hp ev ⟨dst, .pick c x y, tt, pos, af, g⟩ d :=
  Quiet.of ⟨rfl, fun C I w ρ _ hρ => by
    have h1 := (hρ c (by simp [Op.operands]) _ hc).b_inv
    have h2 := hρ x (by simp [Op.operands]) _ hx
    simp only [execOp, h1, asBool, Sem.run_bind, Sem.run_pure, Result.andThen_ok, if_true]
    exact ⟨rfl, h2⟩⟩
theorem q_pickf (hc : ev c = some (.v f (.b false))) (hy : ev y = some d) : Quiet P hp ev ⟨dst, .pick c x y, tt, pos, af, g⟩ d :=
  Quiet.of ⟨rfl, fun C I w ρ _ hρ => by
    have h1 := (hρ c (by simp [Op.operands]) _ hc).b_inv
    have h2 := hρ y (by simp [Op.operands]) _ hy
    simp only [execOp, h1, asBool, Sem.run_bind, Sem.run_pure, Result.andThen_ok, Bool.false_eq_true, if_false]
    exact ⟨rfl, h2⟩⟩

section
variable {k : IntKind} {a b : Int} {t ty : TypeId}
theorem q_lss (hx : ev x = some (.v f1 (.i k a))) (hy : ev y = some (.v f2 (.i k b))) : Quiet P hp ev ⟨dst, .binOp .lss t x y ty, tt, pos, af, g⟩ (.v true (.b (decide (a < b)))) :=
  Quiet.of ⟨rfl, fun C I w ρ _ hρ => by
    have h1 := (hρ x (by simp [Op.operands]) _ hx).i_inv
    have h2 := (hρ y (by simp [Op.operands]) _ hy).i_inv
    simp only [execOp, h1, h2, eqGuard_lss, binOp_lss, Sem.run_bind, Sem.run_pure, Result.andThen_ok]
    exact ⟨rfl, .v _ _ _ (.b _)⟩⟩
theorem q_leq (hx : ev x = some (.v f1 (.i k a))) (hy : ev y = some (.v f2 (.i k b))) : Quiet P hp ev ⟨dst, .binOp .leq t x y ty, tt, pos, af, g⟩ (.v true (.b (decide (a ≤ b)))) :=
  Quiet.of ⟨rfl, fun C I w ρ _ hρ => by
    have h1 := (hρ x (by simp [Op.operands]) _ hx).i_inv
    have h2 := (hρ y (by simp [Op.operands]) _ hy).i_inv
    simp only [execOp, h1, h2, eqGuard_leq, binOp_leq, Sem.run_bind, Sem.run_pure, Result.andThen_ok]
    exact ⟨rfl, .v _ _ _ (.b _)⟩⟩
theorem q_gtr (hx : ev x = some (.v f1 (.i k a))) (hy : ev y = some (.v f2 (.i k b))) : Quiet P hp ev ⟨dst, .binOp .gtr t x y ty, tt, pos, af, g⟩ (.v true (.b (decide (b < a)))) :=
  Quiet.of ⟨rfl, fun C I w ρ _ hρ => by
    have h1 := (hρ x (by simp [Op.operands]) _ hx).i_inv
    have h2 := (hρ y (by simp [Op.operands]) _ hy).i_inv
    simp only [execOp, h1, h2, eqGuard_gtr, binOp_gtr, Sem.run_bind, Sem.run_pure, Result.andThen_ok]
    exact ⟨rfl, .v _ _ _ (.b _)⟩⟩
theorem q_geq (hx : ev x = some (.v f1 (.i k a))) (hy : ev y = some (.v f2 (.i k b))) : Quiet P hp ev ⟨dst, .binOp .geq t x y ty, tt, pos, af, g⟩ (.v true (.b (decide (b ≤ a)))) :=
  Quiet.of ⟨rfl, fun C I w ρ _ hρ => by
    have h1 := (hρ x (by simp [Op.operands]) _ hx).i_inv
    have h2 := (hρ y (by simp [Op.operands]) _ hy).i_inv
    simp only [execOp, h1, h2, eqGuard_geq, binOp_geq, Sem.run_bind, Sem.run_pure, Result.andThen_ok]
    exact ⟨rfl, .v _ _ _ (.b _)⟩⟩
theorem q_eqi (hx : ev x = some (.v f1 (.i k a))) (hy : ev y = some (.v f2 (.i k b))) : Quiet P hp ev ⟨dst, .binOp .eql t x y ty, tt, pos, af, g⟩ (.v true (.b (a == b))) :=
  Quiet.of ⟨rfl, fun C I w ρ _ hρ => by
    have h1 := (hρ x (by simp [Op.operands]) _ hx).i_inv
    have h2 := (hρ y (by simp [Op.operands]) _ hy).i_inv
    simp only [execOp, h1, h2, eqGuard_at_int, binOp_eql, Sem.run_bind, Sem.run_pure, Result.andThen_ok]
    exact ⟨rfl, .v _ _ _ (.b _)⟩⟩
theorem q_nei (hx : ev x = some (.v f1 (.i k a))) (hy : ev y = some (.v f2 (.i k b))) : Quiet P hp ev ⟨dst, .binOp .neq t x y ty, tt, pos, af, g⟩ (.v true (.b (a != b))) :=
  Quiet.of ⟨rfl, fun C I w ρ _ hρ => by
    have h1 := (hρ x (by simp [Op.operands]) _ hx).i_inv
    have h2 := (hρ y (by simp [Op.operands]) _ hy).i_inv
    simp only [execOp, h1, h2, eqGuard_at_int, binOp_neq, Sem.run_bind, Sem.run_pure, Result.andThen_ok]
    exact ⟨rfl, .v _ _ _ (.b _)⟩⟩
theorem q_add (hx : ev x = some (.v f1 (.i k a))) (hy : ev y = some (.v f2 (.i k b))) : Quiet P hp ev ⟨dst, .binOp .add t x y ty, tt, pos, af, g⟩ (.v true (.i k (k.wrap (a + b)))) :=
  Quiet.of ⟨rfl, fun C I w ρ _ hρ => by
    have h1 := (hρ x (by simp [Op.operands]) _ hx).i_inv
    have h2 := (hρ y (by simp [Op.operands]) _ hy).i_inv
    simp only [execOp, h1, h2, eqGuard_add, binOp_add, Op.intArith, Sem.run_bind, Sem.run_pure, Result.andThen_ok]
    exact ⟨rfl, .v _ _ _ (.i _ _)⟩⟩
theorem q_sub (hx : ev x = some (.v f1 (.i k a))) (hy : ev y = some (.v f2 (.i k b))) : Quiet P hp ev ⟨dst, .binOp .sub t x y ty, tt, pos, af, g⟩ (.v true (.i k (k.wrap (a - b)))) :=
  Quiet.of ⟨rfl, fun C I w ρ _ hρ => by
    have h1 := (hρ x (by simp [Op.operands]) _ hx).i_inv
    have h2 := (hρ y (by simp [Op.operands]) _ hy).i_inv
    simp only [execOp, h1, h2, eqGuard_sub, binOp_sub, Op.intArith, Sem.run_bind, Sem.run_pure, Result.andThen_ok]
    exact ⟨rfl, .v _ _ _ (.i _ _)⟩⟩
theorem q_mul (hx : ev x = some (.v f1 (.i k a))) (hy : ev y = some (.v f2 (.i k b))) : Quiet P hp ev ⟨dst, .binOp .mul t x y ty, tt, pos, af, g⟩ (.v true (.i k (k.wrap (a * b)))) :=
  Quiet.of ⟨rfl, fun C I w ρ _ hρ => by
    have h1 := (hρ x (by simp [Op.operands]) _ hx).i_inv
    have h2 := (hρ y (by simp [Op.operands]) _ hy).i_inv
    simp only [execOp, h1, h2, eqGuard_mul, binOp_mul, Op.intArith, Sem.run_bind, Sem.run_pure, Result.andThen_ok]
    exact ⟨rfl, .v _ _ _ (.i _ _)⟩⟩
theorem q_not {p : Bool} (hx : ev x = some (.v f1 (.b p))) : Quiet P hp ev ⟨dst, .unOp .not t x, tt, pos, af, g⟩ (.v true (.b (!p))) :=
  Quiet.of ⟨rfl, fun C I w ρ _ hρ => by
    have h1 := (hρ x (by simp [Op.operands]) _ hx).b_inv
    simp only [execOp, h1, Op.unary, Sem.run_bind, Sem.run_pure, Result.andThen_ok]
    exact ⟨rfl, .v _ _ _ (.b _)⟩⟩
theorem q_extract {xs : List V} {z : V} {i : Nat} (hx : ev x = some (.v f (.t xs))) (hz : xs[i]? = some z) : Quiet P hp ev ⟨dst, .extract x i, tt, pos, af, g⟩ (.v f z) :=
  Quiet.of ⟨rfl, fun C I w ρ _ hρ => by
    obtain ⟨vs, h1, h2⟩ := (hρ x (by simp [Op.operands]) _ hx).v_inv.t_inv
    obtain ⟨v, hv, hr⟩ := h2.get hz
    have he : vs.toArray[i]? = some v := by simpa using hv
    simp only [execOp, h1, Instr.extract, he, Sem.run_bind, Sem.run_pure, Result.andThen_ok]
    exact ⟨rfl, .v _ _ _ hr⟩⟩
end

end
end Bf
