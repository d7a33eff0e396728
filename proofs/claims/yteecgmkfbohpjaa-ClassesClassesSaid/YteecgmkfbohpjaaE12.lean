/- The engine, part 12: a function's contract out of its body. No program is named here. -/
import Derived.Test.YteecgmkfbohpjaaE11
import Derived.RangeFuncLeaves
import Derived.RangeFuncKeeps
namespace Bf
open Go Go.RowKit

/-- One result. -/
inductive ResVal (P : Program) (σ : St) (fr : Bool) : ResultVar → V → Prop
  | tmp {t : Nat} {f : Bool} {x : V} (h : σ.fr t = some (.v f x)) (hf : fr = true → f = true) : ResVal P σ fr (.tmp t) x
  | nil {t z : Nat} {f : Bool} (h : σ.fr t = some (.v f (.raw (.slice none 0 0)))) : ResVal P σ fr (.tmp t) (.l z [])
  | flat {t : Nat} {f : Bool} {x : V} (h : σ.fr t = some (.v f x)) (hf : Flat x) : ResVal P σ fr (.tmp t) x
  | cell1 {a k off ty ty' : Nat} {f : Bool} {cs : List D} {x : V} (ha : isAggB P ty false = true) (h : σ.fr a = some (.p k off)) (hk : σ.hp k = some (.cells ty' cs)) (hc : cs[off]? = some (.v f x)) (hf : fr = true → f = true) : ResVal P σ fr (.cell a ty) x
  | cellN {a k off ty ty' z : Nat} {f : Bool} {cs : List D} {xs : List V} (ha : isAggB P ty true = true) (hz : hasSize P ty z = true) (h : σ.fr a = some (.p k off)) (hk : σ.hp k = some (.cells ty' cs)) (hl : Nat.ble (off + z) cs.length = true)
      (hj : D.joinV ((cs.drop off).take z) = some (f, xs)) (hf : fr = true → f = true) : ResVal P σ fr (.cell a ty) (.st xs)
  | cellA {a k ty ty' z : Nat} {f : Bool} {xs : List V} (ha : isAggB P ty true = true) (hz : hasSize P ty z = true) (h : σ.fr a = some (.p k 0)) (hk : σ.hp k = some (.sl f ty' 1 xs)) (hl : xs.length = z)
      (ho : ∀ x ∈ xs, x.isSt = false) (hf : fr = true → f = true) : ResVal P σ fr (.cell a ty) (.st xs)

inductive ResOk (P : Program) (σ : St) (fr : Bool) : List ResultVar → List V → Prop
  | nil : ResOk P σ fr [] []
  | cons {r : ResultVar} {rs : List ResultVar} {x : V} {xs : List V} (h : ResVal P σ fr r x) (t : ResOk P σ fr rs xs) : ResOk P σ fr (r :: rs) (x :: xs)

theorem ResVal.same {P : Program} {σ σ' : St} {fr : Bool} {r : ResultVar} {x : V} (h : ResVal P σ fr r x) (hf : σ'.fr = σ.fr) (hp : σ'.hp = σ.hp) : ResVal P σ' fr r x := by
  cases h with
  | tmp h1 h2 => exact .tmp (by rw [hf]; exact h1) h2
  | nil h1 => exact .nil (by rw [hf]; exact h1)
  | flat h1 h2 => exact .flat (by rw [hf]; exact h1) h2
  | cell1 ha h1 hk hc h2 => exact .cell1 ha (by rw [hf]; exact h1) (by rw [hp]; exact hk) hc h2
  | cellN ha hz h1 hk hl hj h2 => exact .cellN ha hz (by rw [hf]; exact h1) (by rw [hp]; exact hk) hl hj h2
  | cellA ha hz h1 hk hl ho h2 => exact .cellA ha hz (by rw [hf]; exact h1) (by rw [hp]; exact hk) hl ho h2
theorem ResOk.same {P : Program} {σ σ' : St} {fr : Bool} {rs : List ResultVar} {xs : List V} (h : ResOk P σ fr rs xs) (hf : σ'.fr = σ.fr) (hp : σ'.hp = σ.hp) : ResOk P σ' fr rs xs := by
  induction h with
  | nil => exact .nil
  | cons h1 _ ih => exact .cons (h1.same hf hp) ih

/-- The data of all results: one alone is itself. -/
def resV : List V → V
  | [x] => x
  | xs => .t xs

def resVar (tmps : Array Value) : ResultVar → Sem Value
  | .tmp t => pure (tmps.getD t undef)
  | .cell a t => do loadVar t (← asAddr (tmps.getD a undef))

/-- An array of one-cell elements, as a whole. -/
theorem arr_vals {w : World} {C : Ctx} {hp : Nat → Option Blk} {φ : Phi} {I : Nat → Prop} (hw : WOk C hp φ I w) {k b c ty : Nat} {f : Bool} {xs : List V} (hk : hp k = some (.sl f ty 1 xs)) (hφ : φ k = some (b, c)) (ho : ∀ x ∈ xs, x.isSt = false) :
    ∃ vs : List Value, VReps w (fresh f I C.base) xs vs ∧ (∀ u ∈ vs, u.oneCell' = true) ∧ ∀ (j : Nat) u, vs[j]? = some u → w.cell? ⟨b, j, none⟩ = some u := by
  obtain ⟨u0, cells, h1, h2, h3, h4⟩ := hw.own k _ hk
  have hlen : cells.length = xs.length := by simpa using h4.1
  refine ⟨cells, ⟨hlen.symm, fun i x v hx hv => ?_⟩, h3, fun j u hu => ?_⟩
  · obtain ⟨hp', u, hu, hc⟩ := h4.2 i x hx
    have hone : u.oneCell' = true := hu.one (by have := ho x (List.mem_of_getElem? hx); cases x <;> simp_all [V.one, V.isSt, V.plain])
    rw [oneCell_cells hone] at hc
    simp only [Nat.mul_one] at hc
    have : (cells.drop i)[0]? = some v := by simpa using hv
    cases hd : cells.drop i with
    | nil => rw [hd] at this; cases this
    | cons y ys => rw [hd] at this hc; simp at this hc; rw [← this, ← hc]; exact hu
  · rcases h1.o_inv with ⟨hn, _⟩ | ⟨b', c', hb, rfl⟩
    · rw [hn] at hφ; cases hφ
    · rw [hφ] at hb; cases hb
      have := h2.cells (g := b) rfl j u hu
      rwa [addr_add, Nat.zero_add] at this

theorem run_resVal {P : Program} {C : Ctx} {σ : St} {φ : Phi} {I : Nat → Prop} {a : Act} {w : World} (h : Holds C σ φ I a w) {fr : Bool} {r : ResultVar} {x : V} (hr : ResVal P σ fr r x) :
    ∃ v, (resVar a.tmps r).run P w = .ok v w ∧ VRep w (fresh fr I C.base) x v := by
  cases hr with
  | tmp h1 hf => exact ⟨_, rfl, (h.fr _ _ h1).v_inv.mono (fun _ _ => rfl) (fun _ hb => ⟨hb.1, fun e => hb.2 (hf e)⟩)⟩
  | nil h1 => exact ⟨_, rfl, by rw [(h.fr _ _ h1).v_inv.raw_inv.1]; exact .nil_slice _⟩
  | flat h1 hf => exact ⟨_, rfl, hf _ _ _ _ _ (h.fr _ _ h1).v_inv⟩
  | cell1 ha h1 hk hc hf =>
    obtain ⟨b, c, e1, e2⟩ := (h.fr _ _ h1).p_inv
    obtain ⟨b', c', vs, h3, h4, h5, h6, h7⟩ := h.wok.own _ _ hk
    rw [e1] at h3; cases h3
    rename_i off _ _ _ _
    have hlt : off < vs.length := by rw [← h5]; exact (List.getElem?_eq_some_iff.1 hc).1
    have hv : vs[off]? = some vs[off] := List.getElem?_eq_getElem hlt
    have hcell : w.cell? ⟨b, off, none⟩ = some vs[off] := (cell_of_cells h4 off).trans hv
    refine ⟨vs[off], ?_, (h7 off _ _ hc hv).v_inv.mono (fun _ _ => rfl) (fun _ hb => ⟨hb.1, fun e => hb.2 (hf e)⟩)⟩
    simp only [resVar, e2, asAddr, Sem.run_bind, Sem.run_pure, Result.andThen_ok, run_loadVar1 w ha _ _ hcell]
  | cellN ha hz h1 hk hl hj hf =>
    obtain ⟨b, c, e1, e2⟩ := (h.fr _ _ h1).p_inv
    obtain ⟨b', c', vs, h3, h4, h5, h6, h7⟩ := h.wok.own _ _ hk
    rw [e1] at h3; cases h3
    rename_i a' k off ty ty' z f cs xs
    have hle : off + z ≤ vs.length := by rw [← h5]; simpa using hl
    have hr := run_loadVarN (P := P) w ha hz b off ((vs.drop off).take z) (by simp; omega) (fun j u hu => by
      rw [cell_of_cells h4]
      rw [List.getElem?_take] at hu
      split at hu
      · simpa using hu
      · cases hu)
    refine ⟨.agg ((vs.drop off).take z).toArray, by simp only [resVar, e2, asAddr, Sem.run_bind, Sem.run_pure, Result.andThen_ok, hr], ?_⟩
    have hj' := joinV_rep (w := w) (I := I) (base := C.base) (φ := φ) (vs := (vs.drop off).take z) hj (by simp [h5]) (fun i x v hx hv => by
      rw [List.getElem?_take] at hx hv
      split at hx
      · rename_i hi
        rw [if_pos hi] at hv
        exact h7 (off + i) x v (by simpa using hx) (by simpa using hv)
      · cases hx)
    exact (VRep.st_of hj' (fun u hu => h6 u (List.mem_of_mem_drop (List.mem_of_mem_take hu)))).mono (fun _ _ => rfl) (fun _ hb => ⟨hb.1, fun e => hb.2 (hf e)⟩)
  | cellA ha hz h1 hk hl ho hf =>
    obtain ⟨b, c, e1, e2⟩ := (h.fr _ _ h1).p_inv
    obtain ⟨vs, g1, g2, g3⟩ := arr_vals h.wok hk e1 ho
    have hr := run_loadVarN (P := P) w ha hz b 0 vs (by rw [← g1.1]; exact hl) (fun j u hu => by rw [Nat.zero_add]; exact g3 j u hu)
    refine ⟨.agg vs.toArray, by simp only [resVar, e2, asAddr, Sem.run_bind, Sem.run_pure, Result.andThen_ok, hr], ?_⟩
    exact (VRep.st_of g1 g2).mono (fun _ _ => rfl) (fun _ hb => ⟨hb.1, fun e => hb.2 (hf e)⟩)

theorem run_resOk {P : Program} {C : Ctx} {σ : St} {φ : Phi} {I : Nat → Prop} {a : Act} {w : World} (h : Holds C σ φ I a w) {fr : Bool} {rs : List ResultVar} {xs : List V} (hr : ResOk P σ fr rs xs) :
    ∃ vs, (rs.mapM (resVar a.tmps)).run P w = .ok vs w ∧ VReps w (fresh fr I C.base) xs vs := by
  induction hr with
  | nil => exact ⟨[], rfl, .nil⟩
  | cons h1 _ ih =>
    obtain ⟨v, e1, e2⟩ := run_resVal h h1
    obtain ⟨vs, e3, e4⟩ := ih
    exact ⟨v :: vs, by simp only [List.mapM_cons, Sem.run_bind, e1, e3, Result.andThen_ok, Sem.run_pure], .cons e2 e4⟩

theorem run_results_ok {P : Program} {C : Ctx} {σ : St} {φ : Phi} {I : Nat → Prop} {a : Act} {w : World} {fn : Func} (h : Holds C σ φ I a w) {fr : Bool} {rs : List ResultVar} {xs : List V} (hrs : fn.results = rs.toArray) (hr : ResOk P σ fr rs xs) :
    ∃ v, (results fn a.tmps).run P w = .ok v w ∧ VRep w (fresh fr I C.base) (resV xs) v := by
  obtain ⟨vs, e1, e2⟩ := run_resOk h hr
  have hm : (fn.results.mapM (resVar a.tmps)).run P w = .ok vs.toArray w := by
    rw [hrs, Array.mapM_eq_mapM_toList, Sem.run_map]
    simp only [e1, Result.andThen_ok]
  have hrun : (results fn a.tmps).run P w = .ok (if h : vs.toArray.size = 1 then vs.toArray[0] else .tuple vs.toArray) w := by
    have : results fn a.tmps = (do
      let vs ← fn.results.mapM (resVar a.tmps)
      pure (if h : vs.size = 1 then vs[0] else .tuple vs)) := by
      unfold results
      congr 1
    rw [this, Sem.run_bind, hm]
    rfl
  refine ⟨_, hrun, ?_⟩
  match xs, vs, e2 with
  | [], vs, e2 => rw [e2.nil_inv]; exact .t [] [] rfl (fun i x v h => by simp at h)
  | [x], vs, e2 =>
    obtain ⟨v, vs', rfl, h1, h2⟩ := e2.cons_inv
    rw [h2.nil_inv]
    exact h1
  | x :: y :: xs, vs, e2 =>
    have hl := e2.1
    rw [dif_neg (by simp at hl ⊢; omega)]
    exact .t _ _ e2.1 e2.2

/-- The marks that ranges over functions have left among the deferred calls. -/
inductive Unmark : (Nat → Option Blk) → List Deferred → (Nat → Option Blk) → Prop
  | nil (hp : Nat → Option Blk) : Unmark hp [] hp
  | cons {hp hp' : Nat → Option Blk} {ds : List Deferred} (k D : Nat) (hk : hp k = some (.obj D (.deferred (some [])))) (t : Unmark (del hp k) ds hp') : Unmark hp ({ target := .collected D, args := #[] } :: ds) hp'

/-- An object of its own turns. -/
theorem Holds.turnObj {C : Ctx} {σ : St} {φ : Phi} {I : Nat → Prop} {a : Act} {w : World} (h : Holds C σ φ I a w) {k b : Nat} {o : Obj} (o' : Obj) (hk : σ.hp k = some (.obj b o)) :
    w.heap[b]? = some o ∧ Holds C { σ with hp := upd σ.hp k (.obj b o') } φ I a (w.putObj b o') := by
  obtain ⟨c, h1, h2⟩ := h.wok.own k _ hk
  have hlt : b < w.heap.size := (Array.getElem?_eq_some_iff.1 h2).1
  exact ⟨h2, h.turn k _ _ hk h1 rfl rfl rfl (by simp [World.putObj]) (fun j hj => World.putObj_heap_other hj) ⟨c, h1, World.putObj_heap_same hlt⟩⟩

theorem del_upd {α : Type} (f : Nat → Option α) (k : Nat) (x : α) {j : Nat} {y : α} (h : del f k j = some y) : upd f k x j = some y := by
  obtain ⟨h1, h2⟩ := del_some h
  unfold upd
  rw [beq_ne h1]
  exact h2

theorem Unmark.leaves {P : Program} {fn : Func} {R : Ending → World → Prop} {C : Ctx} {fr : Nat → Option D} {gh : Nat × Bool} {hp hp' : Nat → Option Blk} {ds : List Deferred} (h : Unmark hp ds hp') :
    ∀ {φ : Phi} {I : Nat → Prop} {a : Act} {w : World}, Holds C ⟨fr, hp, ds, gh⟩ φ I a w → (∀ (a' : Act) (w' : World), a'.tmps = a.tmps → Holds C ⟨fr, hp', [], gh⟩ φ I a' w' → LeavesInM (fenceOf none) 0 P fn a.tmps R [] .returning w') →
      LeavesInM (fenceOf none) 0 P fn a.tmps R a.defers .returning w := by
  induction h with
  | nil hp => intro φ I a w hh hk; rw [hh.df]; exact hk a w rfl hh
  | @cons hp0 hp1 ds0 k D hk t ih =>
    intro φ I a w hh hR
    have hdf := hh.df
    simp only at hdf
    rw [hdf]
    obtain ⟨h1, h2⟩ := hh.turnObj (.deferred none) hk
    refine ⟨by simp, .inl ⟨D, _, rfl, run_takeDeferred h1, ?_⟩⟩
    have h3 : Holds C ⟨fr, del hp0 k, ds0, gh⟩ φ I { a with defers := ds0 } (w.putObj D (.deferred none)) := Holds.le (σ := ⟨fr, upd hp0 k (.obj D (.deferred none)), ds0, gh⟩) ⟨rfl, h2.sz, h2.wok, h2.fr⟩ ⟨fun _ _ h => h, fun _ _ h => del_upd _ _ _ h, rfl, rfl⟩
    exact ih h3 (fun a' w' ha' => hR a' w' ha')

/-- What is asked at a function's end. -/
def RetQ (P : Program) (rs : List ResultVar) (fr : Bool) (r : V) : Exit → St → Prop := fun e σ =>
  (e = .ret ∨ e = .normal) ∧ ∃ hp', Unmark σ.hp σ.df hp' ∧ ∃ xs, resV xs = r ∧ ResOk P ⟨σ.fr, hp', [], σ.gh⟩ fr rs xs

theorem ret_ok {P : Program} {rs : List ResultVar} {fr : Bool} {r : V} {σ : St} (xs : List V) (hx : resV xs = r) (hd : σ.df = []) (h : ResOk P σ fr rs xs) : RetQ P rs fr r .ret σ := ⟨.inl rfl, σ.hp, by rw [hd]; exact .nil _, xs, hx, h.same rfl rfl⟩
theorem end_ok {P : Program} {rs : List ResultVar} {fr : Bool} {r : V} {σ : St} (xs : List V) (hx : resV xs = r) (hd : σ.df = []) (h : ResOk P σ fr rs xs) : RetQ P rs fr r .normal σ := ⟨.inr rfl, σ.hp, by rw [hd]; exact .nil _, xs, hx, h.same rfl rfl⟩

def argsF : List V → Nat → Option D
  | [], _ => none
  | x :: _, 0 => some (.v false x)
  | _ :: xs, n + 1 => argsF xs n

theorem argsF_some : ∀ {ds : List V} {s : Nat} {d : D}, argsF ds s = some d → ∃ x, ds[s]? = some x ∧ d = .v false x
  | [], _, _, h => by simp [argsF] at h
  | x :: _, 0, _, h => by simp [argsF] at h; exact ⟨x, by simp, h.symm⟩
  | _ :: xs, n + 1, _, h => by simp only [argsF] at h; obtain ⟨y, h1, h2⟩ := argsF_some h; exact ⟨y, by simpa using h1, h2⟩

/-- A context with its number of slots written out. -/
def Ctx.at_ (C : Ctx) (N : Nat) : Cx := ⟨{ n := N }, fun _ C' => C' = ⟨{ n := N }, C.base, C.I0, C.K, C.W0⟩, fun _ _ h => by rw [h]⟩

/-- A function's contract: its body, walked from its arguments. -/
theorem pure_intro {P : Program} {f : FuncId} {fn : Func} {c : Code} {rs : List ResultVar} {ds : List V} {fr : Bool} {r : V} {N : Nat} (hf : P.funcs[f]? = some fn) (hb : fn.body = some c) (hrs : fn.results = rs.toArray) (hnt : fn.ntmps = N) (hN : Nat.ble ds.length N = true)
    (h : ∀ C : Ctx, (∀ g, (C.at_ N).clean g) → Ev (C.at_ N) none P c ⟨argsF ds, emp, [], (0, false)⟩ (RetQ P rs fr r)) : PureC P fr f ds r := by
  intro args w J hJ hargs
  subst hnt
  have hlen : args.length ≤ fn.ntmps := by rw [← hargs.1]; simpa using hN
  refine callsIn_wide.1 (show CallsIn (fenceOf none) 0 P f args.toArray w _ from callsIn_of_wp_marks hf hb trivial ?_)
  let C : Ctx := ⟨{ n := fn.ntmps }, w.heap.size, J, (· < w.heap.size), w⟩
  have h0 : Holds C ⟨argsF ds, emp, [], (0, false)⟩ (fun _ => none) J { tmps := args.toArray ++ Array.replicate (fn.ntmps - args.toArray.size) undef, defers := [] } w := by
    refine ⟨rfl, ⟨by simp [C]; omega, fun s hs => by cases hs⟩, ⟨rfl, rfl, rfl, Nat.le_refl _, Nat.le_refl _, fun _ h => h, fun _ _ => rfl, hJ, fun _ h => h, fun _ h => .inl h, fun k blk h => by simp [emp] at h, fun k k' blk blk' b c c' h => by simp [emp] at h, fun k blk b c h => by simp [emp] at h⟩, fun s d hs => ?_⟩
    obtain ⟨x, hx, rfl⟩ := argsF_some hs
    obtain ⟨v, hv, hr⟩ := hargs.get hx
    have hlt : s < args.length := (List.getElem?_eq_some_iff.1 hv).1
    have hg : ({ tmps := args.toArray ++ Array.replicate (fn.ntmps - args.toArray.size) undef, defers := [] } : Act).tmps.getD s undef = v := by
      rw [Array.getD_eq_getD_getElem?, Array.getElem?_append_left (by simpa using hlt)]
      simp [hv]
    rw [hg]
    exact .v _ _ _ (hr.mono (fun _ _ => rfl) (fun b hb => ⟨hb, fun e => by cases e⟩))
  have hw := h C (fun g C' hC' b hb => by rw [show C' = _ from hC'] at hb ⊢; exact Nat.le_of_not_lt hb) C _ _ _ _ rfl h0
  refine wpIn_mono hw ?_
  rintro e a' w' ⟨C', σ, φ, I, hC', ⟨he, hp', hu, xs, hx, hr⟩, hh⟩
  obtain rfl : C' = C := hC'
  have hfin : LeavesInM (fenceOf none) 0 P fn a'.tmps (fun e w' => ∃ v', e = .returned v' ∧ Keeps w w' ∧ VRep w' (fun b => b < w'.heap.size ∧ (w.heap.size ≤ b ∨ (fr = false ∧ J b))) r v') a'.defers .returning w' := by
    refine hu.leaves (fr := σ.fr) (gh := σ.gh) (a := a') hh fun a2 w2 ha2 hh2 => ?_
    obtain ⟨v, hv, hrep⟩ := run_results_ok hh2 hrs hr
    rw [ha2] at hv
    refine ⟨v, hv, v, rfl, ⟨hh2.wok.os, hh2.wok.tape, hh2.wok.output, hh2.wok.size, fun b hb => hh2.wok.old b hb⟩, ?_⟩
    rw [← hx]
    refine hrep.mono (fun _ _ => rfl) (fun b hb => ⟨hh2.wok.ilt b hb.1, ?_⟩)
    cases fr with
    | true => exact .inl (hb.2 rfl)
    | false =>
      rcases hh2.wok.inew b hb.1 with h1 | h1
      · exact .inr ⟨rfl, h1⟩
      · exact .inl (Nat.le_of_not_lt h1)
  rcases he with rfl | rfl <;> exact hfin

/-! ### The rules as a walk takes them -/
/-- The guard lets the operation by. -/
def guardOk (N : Nat) (ops : Array Oper) (σ : St) (g : Option (Nat × Bool)) : Bool :=
  match g with
  | none => true
  | some (j, want) => match (ops[j]?).bind (·.dst) with
    | some s => (match σ.fr s with | some (.v _ (.b c)) => (c == want) && Nat.blt s N | _ => false)
    | none => false
/-- The guard passes the operation over. -/
def guardNo (N : Nat) (ops : Array Oper) (σ : St) (g : Option (Nat × Bool)) : Bool :=
  match g with
  | none => false
  | some (j, want) => match (ops[j]?).bind (·.dst) with
    | some s => (match σ.fr s with | some (.v _ (.b c)) => !(c == want) && Nat.blt s N | some (.v _ (.t [])) => Nat.blt s N | _ => false)
    | none => false
def dstOk (N : Rm) : Option Nat → Bool
  | none => true
  | some s => N.can s

section
variable {X : Cx} {rd : Option Nat} {P : Program} {ops : Array Oper} {rest : List Oper} {σ σ' : St} {Q : Exit → St → Prop} {d : D} {dst : Option Nat} {op : Op} {tt : TypeId} {pos : String} {af : Array Edge} {g : Option (Nat × Bool)}

theorem guard_some {j : Nat} {want : Bool} {s : Nat} (h : (ops[j]?).bind (·.dst) = some s) : guardSlot ops ⟨dst, op, tt, pos, af, some (j, want)⟩ = some (s, want) := by
  simp [guardSlot, h]

theorem guardOk_inv {N : Nat} (h : guardOk N ops σ g = true) : g = none ∨ ∃ s want f, guardSlot ops ⟨dst, op, tt, pos, af, g⟩ = some (s, want) ∧ σ.fr s = some (.v f (.b want)) ∧ Nat.blt s N = true := by
  cases g with
  | none => exact .inl rfl
  | some p =>
    obtain ⟨j, want⟩ := p
    right
    simp only [guardOk] at h
    cases hj : (ops[j]?).bind (·.dst) with
    | none => rw [hj] at h; cases h
    | some s =>
      rw [hj] at h
      simp only at h
      split at h
      case h_1 f c hs =>
        simp only [Bool.and_eq_true, beq_iff_eq] at h
        exact ⟨s, want, f, guard_some hj, by rw [hs, h.1], h.2⟩
      case h_2 => cases h
theorem guardNo_inv {C : Ctx} {a : Act} {w : World} {φ : Phi} {I : Nat → Prop} {o : Oper} (h : guardNo C.N.n ops σ o.guard = true) (hh : Holds C σ φ I a w) : Region.wanted o (yielded ops a.tmps) = false := by
  cases hgd : o.guard with
  | none => rw [hgd] at h; simp [guardNo] at h
  | some p =>
    obtain ⟨j, want⟩ := p
    rw [hgd] at h
    simp only [guardNo] at h
    cases hj : (ops[j]?).bind (·.dst) with
    | none => rw [hj] at h; cases h
    | some s =>
      rw [hj] at h
      have hsl : guardSlot ops o = some (s, want) := by simp [guardSlot, hgd, hj]
      simp only at h
      split at h
      case h_1 f c hs =>
        simp only [Bool.and_eq_true, Bool.not_eq_true'] at h
        exact (wanted_of hh hsl hs (by simpa using h.2)).trans h.1
      case h_2 f hs => exact wanted_none hh hsl hs (by simpa using h)
      case h_3 => cases h

mutual
def V.flatB : V → Bool
  | .b _ | .i _ _ | .s _ => true
  | .st xs => V.flatBs xs
  | _ => false
def V.flatBs : List V → Bool
  | [] => true
  | x :: xs => x.flatB && V.flatBs xs
end
theorem V.flatBs_mem {x : V} : ∀ {xs : List V}, V.flatBs xs = true → x ∈ xs → x.flatB = true
  | y :: ys, h, hx => by
    simp only [V.flatBs, Bool.and_eq_true] at h
    rcases List.mem_cons.1 hx with rfl | hx
    · exact h.1
    · exact V.flatBs_mem h.2 hx
theorem VRep.flat {w : World} {I I' : Nat → Prop} {x : V} {v : Value} (h : VRep w I x v) : x.flatB = true → VRep w I' x v := by
  induction h with
  | b x => exact fun _ => .b x
  | i k n => exact fun _ => .i k n
  | s x => exact fun _ => .s x
  | st xs vs hl h1 _ ih => exact fun hf => .st xs vs hl h1 fun i x v hx hv => ih i x v hx hv (V.flatBs_mem (by simpa [V.flatB] using hf) (List.mem_of_getElem? hx))
  | raw v h => intro hf; simp [V.flatB] at hf
  | t xs vs hl _ ih => intro hf; simp [V.flatB] at hf
  | l z xs A c hc hm val b o hA _ hz hcell ih => intro hf; simp [V.flatB] at hf
  | q xs vs b o hl h1 hb _ hcell ih => intro hf; simp [V.flatB] at hf
  | c f caps vs hl _ ih => intro hf; simp [V.flatB] at hf
/-- Data that lies in no memory is as good as new. -/
def normD : D → D
  | .v f x => .v (f || x.flatB) x
  | d => d
theorem normD_rep {w : World} {I : Nat → Prop} {base : Nat} {φ : Phi} {d : D} {v : Value} (h : DRep w I base φ d v) : DRep w I base φ (normD d) v := by
  cases d with
  | v f x =>
    cases f with
    | true => exact h
    | false =>
      cases e : x.flatB with
      | true =>
        show DRep w I base φ (.v (false || x.flatB) x) v
        rw [e]
        exact .v _ _ _ (h.v_inv.flat e)
      | false =>
        show DRep w I base φ (.v (false || x.flatB) x) v
        rw [e]
        exact h
  | _ => exact h
theorem Quiet.norm {P : Program} {hp : Nat → Option Blk} {ev : Operand → Option D} {o : Oper} {d : D} (h : Quiet P hp ev o d) : Quiet P hp ev o (normD d) :=
  ⟨h.1, fun C φ I w ρ hw hρ => by
    have := h.2 C φ I w ρ hw hρ
    generalize (execOp ρ o).run P w = r at this ⊢
    cases r with
    | halt x w' => exact this
    | ok n w' =>
      cases n <;> try exact this
      case value v => obtain ⟨hk, I', h1, h2, hd⟩ := this; exact ⟨hk, I', h1, h2, normD_rep hd⟩
      case enter f args =>
        obtain ⟨he, hc⟩ := this
        refine ⟨he, hc.mono ?_⟩
        rintro e w'' ⟨v, rfl, hk, I', h1, h2, hd⟩
        exact ⟨v, rfl, hk, I', h1, h2, normD_rep hd⟩⟩

/-- A quiet operation. -/
theorem rq (hg : guardOk X.N.n ops σ g = true) (hs : dstOk X.N dst = true) (hq : Quiet P σ.hp σ.ev ⟨dst, op, tt, pos, af, g⟩ d) (h : RunS X rd P ops rest (σ.put dst (normD d)) Q) : RunS X rd P ops (⟨dst, op, tt, pos, af, g⟩ :: rest) σ Q := by
  have hq := hq.norm
  have hs' : (dst.all X.N.can) = true := by cases dst <;> simp_all [dstOk]
  rcases guardOk_inv hg with rfl | ⟨s, want, f, h1, h2, h3⟩
  · exact run_quiet hq rfl hs' h
  · exact run_guarded h1 h2 h3 hq hs' h
/-- An operation with an effect. -/
theorem re (hg : guardOk X.N.n ops σ g = true) (he : Effect P X.N ⟨dst, op, tt, pos, af, g⟩ σ σ') (h : RunS X rd P ops rest σ' Q) : RunS X rd P ops (⟨dst, op, tt, pos, af, g⟩ :: rest) σ Q := by
  rcases guardOk_inv hg with rfl | ⟨s, want, f, h1, h2, h3⟩
  · exact run_effect he rfl h
  · exact run_effectg h1 h2 h3 he h
/-- An operation that its guard passes over. -/
theorem rs (hg : guardNo X.N.n ops σ g = true) (hs : dstOk X.N dst = true) (h : RunS X rd P ops rest (σ.skip dst) Q) : RunS X rd P ops (⟨dst, op, tt, pos, af, g⟩ :: rest) σ Q :=
  run_skipped (fun C φ I a w hN hh => guardNo_inv (o := ⟨dst, op, tt, pos, af, g⟩) (by rw [hN]; exact hg) hh) (by cases dst <;> simp_all [dstOk]) h
/-- An undecided guard: both ways. -/
theorem rg {j s : Nat} {want c f : Bool} (_hj : (ops[j]?).bind (·.dst) = some s) (hs : σ.fr s = some (.v f (.b c)))
    (ht : c = true → RunS X rd P ops (⟨dst, op, tt, pos, af, some (j, want)⟩ :: rest) (σ.put (some s) (.v true (.b true))) Q)
    (hf : c = false → RunS X rd P ops (⟨dst, op, tt, pos, af, some (j, want)⟩ :: rest) (σ.put (some s) (.v true (.b false))) Q) : RunS X rd P ops (⟨dst, op, tt, pos, af, some (j, want)⟩ :: rest) σ Q := by
  cases c with
  | true => exact run_shift (shift_flat hs (Flat.b true)) (ht rfl)
  | false => exact run_shift (shift_flat hs (Flat.b false)) (hf rfl)
end

section
variable {P : Program} {fr f : Bool} {r x : V} {t : Nat} {σ : St}
theorem ret1 (h : σ.fr t = some (.v f x)) (hf : fr = true → f = true) (hx : x = r) (hd : σ.df = []) : RetQ P [.tmp t] fr r .ret σ := ret_ok [r] rfl hd (.cons (.tmp (hx ▸ h) hf) .nil)
theorem ret1b {p q : Bool} (h : σ.fr t = some (.v f (.b p))) (hd : σ.df = []) (hx : p = q) : RetQ P [.tmp t] fr (.b q) .ret σ := ret_ok [.b q] rfl hd (.cons (.flat (hx ▸ h) (Flat.b _)) .nil)
theorem ret1i {k : IntKind} {p q : Int} (h : σ.fr t = some (.v f (.i k p))) (hd : σ.df = []) (hx : p = q) : RetQ P [.tmp t] fr (.i k q) .ret σ := ret_ok [.i k q] rfl hd (.cons (.flat (hx ▸ h) (Flat.i _ _)) .nil)
end
end Bf
