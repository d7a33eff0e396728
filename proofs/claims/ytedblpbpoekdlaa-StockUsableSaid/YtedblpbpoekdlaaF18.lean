/- The engine, part 18: contracts of functions that turn what they are given. No program is named here. -/
import Derived.Test.YtedblpbpoekdlaaF17
namespace Bf
open Go Go.RowKit

/-- The blocks that a call is lent, and the world. -/
structure HOk (base : Nat) (hp : Hp) (I : Nat → Prop) (w : World) : Prop where
  size : base ≤ w.heap.size
  ilt : ∀ b, I b → b < w.heap.size
  own : ∀ k i pl blk, hp k i = some (pl, blk) → BlkRep w I base pl blk
  inj : ∀ k i k' i' b n n' blk blk', hp k i = some (some (b, n), blk) → hp k' i' = some (some (b, n'), blk') → k = k' ∧ i = i'
  owned : ∀ k i b n blk, hp k i = some (some (b, n), blk) → b < w.heap.size ∧ ¬ I b ∧ base ≤ b
theorem WOk.hok {C : Ctx} {hp : Hp} {I : Nat → Prop} {w : World} (h : WOk C hp I w) : HOk C.base hp I w := ⟨h.size, h.ilt, h.own, h.inj, fun k i b n blk hk => ⟨(h.owned k i b n blk hk).1, (h.owned k i b n blk hk).2.1, h.lo k i b n blk hk⟩⟩

/-- A function that is lent blocks of its caller's: whatever reads so is answered so, and the blocks then read so; no other block turns. -/
def FnR (P : Program) (f : FuncId) (ds : List D) (es : List Ent) (R : D → List Ent → Prop) : Prop :=
  ∀ (base : Nat) (args : List Value) (w : World) (I : Nat → Prop), HOk base (assocH es) I w → DReps w I base ds args →
    Calls P f args.toArray w fun e w' => ∃ v d es' I', e = .returned v ∧ R d es' ∧ DRep w' I' base d v ∧ HOk base (assocH es') I' w' ∧ Chg (Owned (assocH es)) w w' ∧ (∀ b, I b → I' b) ∧
      (∀ b, I' b → I b ∨ w.heap.size ≤ b ∨ Owned (assocH es) b) ∧ (∀ b, Owned (assocH es') b → w.heap.size ≤ b ∨ Owned (assocH es) b)
theorem FnR.mono {P : Program} {f : FuncId} {ds : List D} {es : List Ent} {R R' : D → List Ent → Prop} (h : FnR P f ds es R) (hR : ∀ d es, R d es → R' d es) : FnR P f ds es R' := fun base args w I hk hd => (h base args w I hk hd).mono fun e w' ⟨v, d, es', I', h1, h2, h3⟩ => ⟨v, d, es', I', h1, hR _ _ h2, h3⟩

def argsD : List D → Nat → Option D
  | [], _ => none
  | x :: _, 0 => some x
  | _ :: xs, n + 1 => argsD xs n
theorem argsD_some : ∀ {ds : List D} {s : Nat} {d : D}, argsD ds s = some d → ds[s]? = some d
  | [], _, _, h => by simp [argsD] at h
  | x :: _, 0, _, h => by simp [argsD] at h; simp [h]
  | _ :: xs, n + 1, _, h => by simp only [argsD] at h; simpa using argsD_some h

inductive ResD (P : Program) (σ : St) : ResultVar → D → Prop
  | tmp {t : Nat} {d' d : D} (h : σ.fr t = some d') (hw : Wk d' d) : ResD P σ (.tmp t) d
  | cell1 {a k i b n off ty ty' : Nat} {cs : List D} {d' d : D} (ha : isAggB P ty false = true) (h : σ.fr a = some (.p k i b off)) (hk : σ.hp k i = some (some (b, n), .row ty' cs)) (hc : cs[off]? = some d') (hw : Wk d' d) : ResD P σ (.cell a ty) d
  | cellN {a k i b n off ty ty' z : Nat} {cs ds : List D} {d : D} (ha : isAggB P ty true = true) (hz : hasSize P ty z = true) (h : σ.fr a = some (.p k i b off)) (hk : σ.hp k i = some (some (b, n), .row ty' cs)) (hd : (cs.drop off).take z = ds) (hl : ds.length = z) (hw : Wk (D.join ds) d) : ResD P σ (.cell a ty) d
inductive ResDs (P : Program) (σ : St) : List ResultVar → List D → Prop
  | nil : ResDs P σ [] []
  | cons {r : ResultVar} {rs : List ResultVar} {d : D} {ds : List D} (h : ResD P σ r d) (t : ResDs P σ rs ds) : ResDs P σ (r :: rs) (d :: ds)
def resD : List D → D
  | [d] => d
  | ds => .t ds

theorem run_resD {P : Program} {C : Ctx} {σ : St} {I : Nat → Prop} {a : Act} {w : World} (h : Holds C σ I a w) {r : ResultVar} {d : D} (hr : ResD P σ r d) : ∃ v, (resVar a.tmps r).run P w = .ok v w ∧ DRep w I C.base d v := by
  cases hr with
  | tmp h1 hw => exact ⟨_, rfl, hw _ _ _ _ (h.fr _ _ h1)⟩
  | cell1 ha h1 hk hc hw =>
    have e2 := (h.fr _ _ h1).p_inv
    obtain ⟨vs, hrr⟩ := h.wok.row hk
    obtain ⟨v, _, g1, g2, _⟩ := hrr.get hc
    exact ⟨v, by simp only [resVar, e2, asAddr, Sem.run_bind, Sem.run_pure, Result.andThen_ok, run_loadVar1 w ha _ _ g1], hw _ _ _ _ g2⟩
  | cellN ha hz h1 hk hd hl hw =>
    have e2 := (h.fr _ _ h1).p_inv
    obtain ⟨vs, hrr⟩ := h.wok.row hk
    obtain ⟨us, g1, g2, g3, _, g4⟩ := hrr.seg hd hl
    have hru := run_loadVarN (P := P) w ha hz _ _ us g1 g4
    exact ⟨_, by simp only [resVar, e2, asAddr, Sem.run_bind, Sem.run_pure, Result.andThen_ok, hru], hw _ _ _ _ (join_rep g2 g3)⟩
theorem run_resDs {P : Program} {C : Ctx} {σ : St} {I : Nat → Prop} {a : Act} {w : World} (h : Holds C σ I a w) {rs : List ResultVar} {ds : List D} (hr : ResDs P σ rs ds) : ∃ vs, (rs.mapM (resVar a.tmps)).run P w = .ok vs w ∧ DReps w I C.base ds vs := by
  induction hr with
  | nil => exact ⟨[], rfl, .nil⟩
  | cons h1 _ ih =>
    obtain ⟨v, e1, e2⟩ := run_resD h h1
    obtain ⟨vs, e3, e4⟩ := ih
    exact ⟨v :: vs, by simp only [List.mapM_cons, Sem.run_bind, e1, e3, Result.andThen_ok, Sem.run_pure], .cons e2 e4⟩
theorem run_results_D {P : Program} {C : Ctx} {σ : St} {I : Nat → Prop} {a : Act} {w : World} {fn : Func} (h : Holds C σ I a w) {rs : List ResultVar} {ds : List D} (hrs : fn.results = rs.toArray) (hr : ResDs P σ rs ds) : ∃ v, (results fn a.tmps).run P w = .ok v w ∧ DRep w I C.base (resD ds) v := by
  obtain ⟨vs, e1, e2⟩ := run_resDs h hr
  have hm : (fn.results.mapM (resVar a.tmps)).run P w = .ok vs.toArray w := by
    rw [hrs, Array.mapM_eq_mapM_toList, Sem.run_map]
    simp only [e1, Result.andThen_ok]
  have hrun : (results fn a.tmps).run P w = .ok (if h : vs.toArray.size = 1 then vs.toArray[0] else .tuple vs.toArray) w := by
    have : results fn a.tmps = (do
      let vs ← fn.results.mapM (resVar a.tmps)
      pure (if h : vs.size = 1 then vs[0] else .tuple vs)) := by
      unfold results
      congr 1
    rw [this, Sem.run_bind, hm]
    rfl
  refine ⟨_, hrun, ?_⟩
  match ds, vs, e2 with
  | [], vs, e2 => rw [e2.nil_inv]; exact .t [] [] rfl (fun i x v h => by simp at h)
  | [x], vs, e2 =>
    obtain ⟨v, vs', rfl, h1, h2⟩ := e2.cons_inv
    rw [h2.nil_inv]
    exact h1
  | x :: y :: xs, vs, e2 =>
    have hl := e2.1
    rw [dif_neg (by simp at hl ⊢; omega)]
    exact .t _ _ e2.1 e2.2

/-- What is asked at the end of a function that is lent blocks. -/
def RetR (P : Program) (rs : List ResultVar) (R : D → List Ent → Prop) : Exit → St → Prop := fun e σ =>
  (e = .ret ∨ e = .normal) ∧ ∃ hp', Unmark σ.hp σ.df hp' ∧ ∃ ds es', ResDs P ⟨σ.fr, hp', [], σ.gh⟩ rs ds ∧ R (resD ds) es' ∧ HpOk hp' es'
theorem retR {P : Program} {rs : List ResultVar} {R : D → List Ent → Prop} {σ : St} (ds : List D) (es' : List Ent) (hd : σ.df = []) (h : ResDs P σ rs ds) (hR : R (resD ds) es') (he : HpOk σ.hp es') : RetR P rs R .ret σ :=
  ⟨.inl rfl, σ.hp, by rw [hd]; exact .nil _, ds, es', by obtain ⟨fr, hp, df, gh⟩ := σ; cases hd; exact h, hR, he⟩
theorem endR {P : Program} {rs : List ResultVar} {R : D → List Ent → Prop} {σ : St} (ds : List D) (es' : List Ent) (hd : σ.df = []) (h : ResDs P σ rs ds) (hR : R (resD ds) es') (he : HpOk σ.hp es') : RetR P rs R .normal σ :=
  ⟨.inr rfl, σ.hp, by rw [hd]; exact .nil _, ds, es', by obtain ⟨fr, hp, df, gh⟩ := σ; cases hd; exact h, hR, he⟩

theorem fnr_intro {P : Program} {f : FuncId} {fn : Func} {c : Code} {rs : List ResultVar} {ds : List D} {es : List Ent} {R : D → List Ent → Prop} {N : Nat} (hf : P.funcs[f]? = some fn) (hb : fn.body = some c) (hrs : fn.results = rs.toArray) (hnt : fn.ntmps = N) (hN : Nat.ble ds.length N = true)
    (h : ∀ C : Ctx, Ev (C.at_ N) none P c ⟨argsD ds, assocH es, [], (0, false)⟩ (RetR P rs R)) : FnR P f ds es R := by
  intro base args w J hok hargs
  subst hnt
  have hlen : args.length ≤ fn.ntmps := by rw [← hargs.1]; simpa using hN
  refine callsIn_wide.1 (show CallsIn (fenceOf none) 0 P f args.toArray w _ from callsIn_of_wp_marks hf hb trivial ?_)
  let C : Ctx := ⟨{ n := fn.ntmps }, base, J, fun b => b < w.heap.size ∧ ¬ Owned (assocH es) b, w⟩
  have h0 : Holds C ⟨argsD ds, assocH es, [], (0, false)⟩ J { tmps := args.toArray ++ Array.replicate (fn.ntmps - args.toArray.size) undef, defers := [] } w := by
    refine ⟨rfl, ⟨by simp [C]; omega, fun s hs => by cases hs⟩, ⟨rfl, rfl, rfl, hok.size, Nat.le_refl _, fun _ h => h.1, fun _ _ => rfl, hok.ilt, fun _ h => h, fun _ h => .inl h, hok.own, hok.inj, fun k i b n blk hk => ⟨(hok.owned k i b n blk hk).1, (hok.owned k i b n blk hk).2.1, fun h => h.2 ⟨k, i, n, blk, hk⟩⟩, fun k i b n blk hk => (hok.owned k i b n blk hk).2.2⟩, fun s d hs => ?_⟩
    obtain ⟨v, hv, hr⟩ := hargs.get (argsD_some hs)
    have hlt : s < args.length := (List.getElem?_eq_some_iff.1 hv).1
    have hg : ({ tmps := args.toArray ++ Array.replicate (fn.ntmps - args.toArray.size) undef, defers := [] } : Act).tmps.getD s undef = v := by
      rw [Array.getD_eq_getD_getElem?, Array.getElem?_append_left (by simpa using hlt)]
      simp [hv]
    rw [hg]
    exact hr
  have hw := h C C _ _ _ rfl h0
  refine wpIn_mono hw ?_
  rintro e a' w' ⟨C', σ, I, hC', ⟨he, hp', hu, ds', es', hr, hR, hee⟩, hh⟩
  obtain rfl : C' = C := hC'
  have hfin : LeavesInM (fenceOf none) 0 P fn a'.tmps (fun e w' => ∃ v d es' I', e = .returned v ∧ R d es' ∧ DRep w' I' base d v ∧ HOk base (assocH es') I' w' ∧ Chg (Owned (assocH es)) w w' ∧ (∀ b, J b → I' b) ∧
      (∀ b, I' b → J b ∨ w.heap.size ≤ b ∨ Owned (assocH es) b) ∧ (∀ b, Owned (assocH es') b → w.heap.size ≤ b ∨ Owned (assocH es) b)) a'.defers .returning w' := by
    refine hu.leaves (fr := σ.fr) (gh := σ.gh) (a := a') hh fun a2 w2 ha2 hh2 => ?_
    obtain ⟨v, hv, hrep⟩ := run_results_D hh2 hrs hr
    rw [ha2] at hv
    have hm := (hh2.mkS (fs := []) (es := es') trivial hee).wok
    have hnk : ∀ b, ¬ C.K b → w.heap.size ≤ b ∨ Owned (assocH es) b := fun b hb => by
      by_cases hlt : b < w.heap.size
      · exact .inr (Classical.byContradiction fun ho => hb ⟨hlt, ho⟩)
      · exact .inl (Nat.le_of_not_lt hlt)
    refine ⟨v, hv, v, _, es', I, rfl, hR, hrep, hm.hok, ⟨hh2.wok.os, hh2.wok.tape, hh2.wok.output, hh2.wok.wsz, fun b hb hn => hh2.wok.old b ⟨hb, hn⟩⟩, hh2.wok.i0, fun b hb => ?_, fun b ⟨k, i, n, blk, hk⟩ => hnk b (hm.owned k i b n blk hk).2.2⟩
    rcases hh2.wok.inew b hb with h1 | h1
    · exact .inl h1
    · exact .inr (hnk b h1)
  rcases he with rfl | rfl <;> exact hfin

/-! #### The call -/
inductive FnV : D → FuncId → List D → Prop
  | v (f : Bool) (fn : FuncId) (caps : List V) : FnV (.v f (.c fn caps)) fn (caps.map (D.v f))
  | c (fn : FuncId) (ds : List D) : FnV (.c fn ds) fn ds
theorem FnV.rep {d : D} {fn : FuncId} {cs : List D} (h : FnV d fn cs) {w : World} {I : Nat → Prop} {base : Nat} {u : Value} (hd : DRep w I base d u) : ∃ vs : List Value, u = .func (.func fn) #[] vs.toArray ∧ DReps w I base cs vs := by
  cases h with
  | v f fn caps =>
    obtain ⟨vs, h1, h2⟩ := hd.v_inv.c_inv
    exact ⟨vs, h1, .of_v h2⟩
  | c fn ds =>
    cases hd with
    | c _ _ vs hl h => exact ⟨vs, rfl, hl, h⟩

def entsIn (Ls : List Nat) : List Ent → Bool
  | [] => true
  | .e k _ _ _ :: l => memN k Ls && entsIn Ls l
  | .f k _ _ _ :: l => memN k Ls && entsIn Ls l
theorem entsIn_spec {Ls : List Nat} : ∀ {es : List Ent}, entsIn Ls es = true → ∀ {k i : Nat} {x : Pl × Blk}, assocH es k i = some x → memN k Ls = true
  | [], _, _, _, _, h => by simp [assocH] at h
  | .e k i pl b :: l, hl, j, q, x, h => by
    simp only [entsIn, Bool.and_eq_true] at hl
    simp only [assocH] at h
    cases e : (Nat.beq j k && Nat.beq q i) with
    | true => simp only [Bool.and_eq_true] at e; rw [Nat.eq_of_beq_eq_true e.1]; exact hl.1
    | false => rw [e] at h; exact entsIn_spec hl.2 h
  | .f k n pl b :: l, hl, j, q, x, h => by
    simp only [entsIn, Bool.and_eq_true] at hl
    simp only [assocH] at h
    cases e : (Nat.beq j k && Nat.blt q n) with
    | true => simp only [Bool.and_eq_true] at e; rw [Nat.eq_of_beq_eq_true e.1]; exact hl.1
    | false => rw [e] at h; exact entsIn_spec hl.2 h

/-- The names 'Ls' stand for what is said now, all others for what they stood for. -/
def St.over (σ : St) (Ls : List Nat) (es : List Ent) : St := { σ with hp := fun k i => bif memN k Ls then assocH es k i else σ.hp k i }

theorem Holds.over {C : Ctx} {σ : St} {I I' : Nat → Prop} {a : Act} {w w' : World} (h : Holds C σ I a w) {Ls : List Nat} {es es' : List Ent} (he : HpOk σ.hp es) (hL : entsIn Ls es = true) (hok : HOk C.base (assocH es') I' w') (hc : Chg (Owned (assocH es)) w w') (hI : ∀ b, I b → I' b)
    (hI' : ∀ b, I' b → I b ∨ w.heap.size ≤ b ∨ Owned (assocH es) b) (ho : ∀ b, Owned (assocH es') b → w.heap.size ≤ b ∨ Owned (assocH es) b) : Holds C (σ.over Ls es') I' a w' := by
  have key : ∀ {k i b n : Nat} {blk : Blk}, assocH es k i = some (some (b, n), blk) → ∃ blk', σ.hp k i = some (some (b, n), blk') := fun hk => by
    rcases he.get hk with h1 | ⟨_, _, _, h1, _, _⟩ | ⟨h1, _⟩
    · exact ⟨_, h1⟩
    · exact ⟨_, h1⟩
    · cases h1
  have own : ∀ b, Owned (assocH es) b → b < w.heap.size ∧ ¬ I b ∧ ¬ C.K b ∧ C.base ≤ b := fun b ⟨k, i, n, blk, hk⟩ => by
    obtain ⟨_, e⟩ := key hk
    have := h.wok.owned k i b n _ e
    exact ⟨this.1, this.2.1, this.2.2, h.wok.lo k i b n _ e⟩
  have hIk : ∀ b, I b → w'.heap[b]? = w.heap[b]? := fun b hb => hc.block b (h.wok.ilt b hb) fun ho => (own b ho).2.1 hb
  -- a name outside keeps its block
  have out : ∀ {k i b n : Nat} {blk : Blk}, memN k Ls = false → σ.hp k i = some (some (b, n), blk) → ¬ Owned (assocH es) b := fun {k i b n blk} hk hb ⟨k', i', n', blk', hk'⟩ => by
    obtain ⟨_, e⟩ := key hk'
    have := h.wok.inj k i k' i' b n n' _ _ hb e
    rw [this.1, entsIn_spec hL hk'] at hk; cases hk
  have sel : ∀ {k i : Nat} {x : Pl × Blk}, (σ.over Ls es').hp k i = some x → (memN k Ls = true ∧ assocH es' k i = some x) ∨ (memN k Ls = false ∧ σ.hp k i = some x) := fun {k i x} hk => by
    simp only [St.over] at hk
    cases hm : memN k Ls with
    | true => rw [hm] at hk; exact .inl ⟨rfl, hk⟩
    | false => rw [hm] at hk; exact .inr ⟨rfl, hk⟩
  refine ⟨h.df, h.sz, ⟨hc.os.trans h.wok.os, hc.tape.trans h.wok.tape, hc.output.trans h.wok.output, hok.size, Nat.le_trans h.wok.wsz hc.size, fun b hb => Nat.lt_of_lt_of_le (h.wok.ksz b hb) hc.size, fun b hb => (hc.block b (h.wok.ksz b hb) fun ho => (own b ho).2.2.1 hb).trans (h.wok.old b hb), hok.ilt, fun b hb => hI b (h.wok.i0 b hb), fun b hb => ?_, fun k i pl blk hk => ?_, fun k i k' i' b n n' blk blk' h1 h2 => ?_, fun k i b n blk hk => ?_, fun k i b n blk hk => ?_⟩, fun s d hs => (h.fr s d hs).mono hIk hI⟩
  · rcases hI' b hb with h1 | h1 | h1
    · exact h.wok.inew b h1
    · exact .inr fun hk => by have := h.wok.ksz b hk; omega
    · exact .inr (own b h1).2.2.1
  · rcases sel hk with ⟨_, e⟩ | ⟨e1, e⟩
    · exact hok.own k i pl blk e
    · exact (h.wok.own k i pl blk e).mono hIk hI (fun b n hp => by subst hp; exact hc.block b (h.wok.owned k i b n blk e).1 (out e1 e)) (.inr fun b hb => hc.block b (Nat.lt_of_lt_of_le hb h.wok.size) fun ho => by have := (own b ho).2.2.2; omega)
  · have hd : ∀ {k i k' i' b n n' : Nat} {blk blk' : Blk}, assocH es' k i = some (some (b, n), blk) → memN k' Ls = false → σ.hp k' i' = some (some (b, n'), blk') → False := fun {k i k' i' b n n' blk blk'} g1 g2 g3 => by
      rcases ho b ⟨k, i, n, blk, g1⟩ with g4 | g4
      · have := (h.wok.owned k' i' b n' blk' g3).1; omega
      · exact out g2 g3 g4
    rcases sel h1 with ⟨_, e1⟩ | ⟨p1, e1⟩ <;> rcases sel h2 with ⟨_, e2⟩ | ⟨p2, e2⟩
    · exact hok.inj k i k' i' b n n' blk blk' e1 e2
    · exact (hd e1 p2 e2).elim
    · exact (hd e2 p1 e1).elim
    · exact h.wok.inj k i k' i' b n n' blk blk' e1 e2
  · rcases sel hk with ⟨_, e⟩ | ⟨e1, e⟩
    · obtain ⟨g1, g2, g3⟩ := hok.owned k i b n blk e
      refine ⟨g1, g2, fun hK => ?_⟩
      rcases ho b ⟨k, i, n, blk, e⟩ with g4 | g4
      · have := h.wok.ksz b hK; omega
      · exact (own b g4).2.2.1 hK
    · obtain ⟨g1, g2, g3⟩ := h.wok.owned k i b n blk e
      refine ⟨Nat.lt_of_lt_of_le g1 hc.size, fun hb => ?_, g3⟩
      rcases hI' b hb with q | q | q
      · exact g2 q
      · omega
      · exact out e1 e q
  · rcases sel hk with ⟨_, e⟩ | ⟨e1, e⟩
    · exact (hok.owned k i b n blk e).2.2
    · exact h.wok.lo k i b n blk e

section
variable {P : Program} {N : Rm} {σ : St} {dst : Option Nat} {tt : TypeId} {pos : String} {af : Array Edge} {g : Option (Nat × Bool)} {x : Operand} {d : D}
/-- A call of a function that is lent blocks. -/
theorem e_callR {fn : FuncId} {cds ds : List D} {as : List Operand} {ats : Array TypeId} {es : List Ent} {R : D → List Ent → Prop} (Ls : List Nat) (hx : σ.ev x = some d) (hv : FnV d fn cds) (ha : evs σ.ev as = some ds) (hf : TFn P fn) (hc : FnR P fn (ds ++ cds) es R) (he : HpOk σ.hp es) (hL : entsIn Ls es = true) (hN : dstOk N dst = true) :
    Eff P N ⟨dst, .call { callee := .value x, args := as.toArray, argTypes := ats }, tt, pos, af, g⟩ σ (fun σ' => ∃ r es', R r es' ∧ σ' = (σ.over Ls es').put dst r) :=
  ⟨rfl, fun _ h => by obtain ⟨_, _, _, rfl⟩ := h; cases dst <;> rfl, fun C hCN I a w h => by
    subst hCN
    obtain ⟨vs, h1, h2⟩ := hv.rep (h.ev hx)
    rw [run_call_value hf h1]
    have h3 := evs_reps (ρ := a.eval) ha (fun y _ d' hd => h.ev hd)
    have hm := (h.mkS (fs := []) (es := es) trivial he).wok
    refine (hc C.base _ w I hm.hok (h3.append h2)).mono ?_
    rintro e w' ⟨v, r, es', I', rfl, hR, hrep, hok, hch, hI, hI', ho⟩
    exact ⟨v, _, I', rfl, ⟨r, es', hR, rfl⟩, (h.over he hL hok hch hI hI' ho).put dst r v hrep (fun s e => by rw [e] at hN; exact hN)⟩⟩
end
end Bf
