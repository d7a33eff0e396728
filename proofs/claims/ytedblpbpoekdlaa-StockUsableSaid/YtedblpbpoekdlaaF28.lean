/- The engine, part 28: arrays of typed data as a whole; appending to clipped slices. No program is named here. -/
import Derived.Test.YtedblpbpoekdlaaF27
namespace Bf
open Go Go.RowKit

theorem els_arr {α : Type} {E : α → V} (f : Bool) {xs : List α} (hc : ∀ x, V.cells (E x) = [E x]) : els f (xs.map E) = els f [V.st (xs.map E)] := by
  have h1 : ∀ xs : List α, (xs.map E).flatMap V.cells = xs.map E := by
    intro xs
    induction xs with
    | nil => rfl
    | cons x xs ih => rw [List.map_cons, List.flatMap_cons, hc, ih]; rfl
  rw [els_map, els_map, h1]
  simp [V.cells]

section
variable {P : Program} {N : Rm} {σ : St} {hp : Hp} {ev : Operand → Option D} {dst : Nat} {dd : Option Nat} {t tt : TypeId} {pos : String} {af : Array Edge} {g : Option (Nat × Bool)} {x y : Operand} {d : D} {f f1 f2 : Bool}
variable {α : Type} {E : α → V} {z : Nat}
theorem e_alloc_at {n m : Nat} {zv : Value} {x0 : α} (k i : Nat) [hzv : TZeroA P t n zv] (h1 : oneAll zv = true) (hzs : zv.cells.size = z) (hE : zeroE zv = E x0) (hm : n * z = m) (hN : N.can dst = true) :
    Eff P N ⟨some dst, .alloc t, tt, pos, af, g⟩ σ (laid σ dst k i m (.row t (els true ((List.replicate n x0).map E))) (fun b => .p k i b 0)) := by
  subst hm
  have := e_alloc_a (P := P) (N := N) (σ := σ) (t := t) (tt := tt) (pos := pos) (af := af) (g := g) (dst := dst) k i h1 hzs hN
  rw [hE] at this
  rw [List.map_replicate]
  exact this
theorem q_load_at {k i b n ty' : Nat} {xs : List α} {dst : Option Nat} [ha : TAgg P t true] [hs : TSz P t n] (hc : ∀ x, V.cells (E x) = [E x]) (hx : ev x = some (.p k i b 0)) (hk : hp k i = some (some (b, n), .row ty' (els f (xs.map E)))) (hl : xs.length = n) (h0 : Nat.blt 0 n = true) :
    Quiet P hp ev ⟨dst, .load t x, tt, pos, af, g⟩ (.v f (.st (xs.map E))) := by
  rw [els_arr f hc] at hk
  refine q_loadE hx hk ?_ rfl (by simp [V.cells, hl]) h0
  rw [List.drop_zero, List.take_of_length_le]
  · simp [els]
  · simp [els, cellsD, V.cells, hl]
theorem e_store_at {k i b n ty' : Nat} {xs ys : List α} [hz : TSz P t n] (hc : ∀ x, (E x).plain = true ∧ V.cells (E x) = [E x]) (hx : σ.ev x = some (.p k i b 0)) (hk : σ.hp k i = some (some (b, n), .row ty' (els f (xs.map E)))) (hl : xs.length = n) (hl2 : ys.length = n) (hy : σ.ev y = some (.v f (.st (ys.map E)))) (hd : dd = none) :
    Eff P N ⟨dd, .store t x y, tt, pos, af, g⟩ σ (fun σ' => σ' = σ.setH k i (some (some (b, n), .row ty' (els f (ys.map E))))) := by
  have hle : ∀ zs : List α, zs.length = n → (els f (zs.map E)).length = n := fun zs h => by rw [els_arr f fun x => (hc x).2]; simp [els, cellsD, V.cells, h]
  have := e_store (P := P) (N := N) (t := t) (tt := tt) (pos := pos) (af := af) (g := g) (dd := dd) (z := n) hx hk hy rfl (by simp [D.cells, cellsD, V.cells, hl2]) (by rw [hle xs hl]; omega) hd
  have h2 : splice (els f (xs.map E)) 0 (D.cells (.v f (.st (ys.map E)))) = els f (ys.map E) := by
    have h3 : els f (ys.map E) = D.cells (.v f (.st (ys.map E))) := by rw [els_arr f fun x => (hc x).2]; simp [els, cellsD, V.cells, D.cells]
    rw [← h3]
    unfold splice
    simp [hle xs hl, hle ys hl2]
  rw [h2] at this
  exact this
theorem res_at {fr : Bool} {a k i b n ty ty' : Nat} {xs : List α} (hc : ∀ x, V.cells (E x) = [E x]) (ha : isAggB P ty true = true) (hz : hasSize P ty n = true) (h : σ.fr a = some (.p k i b 0)) (hk : σ.hp k i = some (some (b, n), .row ty' (els f (xs.map E)))) (hl : xs.length = n) (h0 : Nat.blt 0 n = true) (hf : fr = true → f = true) : ResVal P σ fr (.cell a ty) (.st (xs.map E)) := by
  rw [els_arr f hc] at hk
  refine .cellN (z := n) (ds := cellsD f (.st (xs.map E))) ha hz h hk ?_ (by simp [cellsD, V.cells, hl]) ?_
  · rw [List.drop_zero, List.take_of_length_le]
    · simp [els]
    · simp [els, cellsD, V.cells, hl]
  · rw [join_cells rfl (fun e => by
      have : (V.cells (V.st (xs.map E))).length = n := by simp [V.cells, hl]
      rw [e] at this; rw [← this] at h0; cases h0)]
    exact .v _ _ hf
theorem Wks.app {xs ys us vs : List D} (h : Wks xs us) (h' : Wks ys vs) : Wks (xs ++ ys) (us ++ vs) := by
  induction h with
  | nil => exact h'
  | cons h _ ih => exact .cons h ih
theorem Eff.shift {o : Oper} {T T' : St → Prop} (h : Eff P N o σ T) (hT : ∀ σ', T σ' → ∃ σ'', T' σ'' ∧ ∀ X, Shift X σ' σ'') (hg : ∀ σ', T' σ' → σ'.gh = σ.gh) : Eff P N o σ T' :=
  ⟨h.1, hg, fun C hC I a w hh => by
    have key : ∀ {σ' : St} {I' : Nat → Prop} {a' : Act} {w' : World}, T σ' → Holds C σ' I' a' w' → ∃ σ'' I'', T' σ'' ∧ Holds C σ'' I'' a' w' := fun {σ' I' a' w'} ht hh' => by
      obtain ⟨σ'', h1, h2⟩ := hT σ' ht
      obtain ⟨I'', h3⟩ := (h2 ⟨C.N, fun _ C' => C' = C, fun _ _ e => by rw [e]⟩).2 C I' a' w' rfl hh'
      exact ⟨σ'', I'', h1, h3⟩
    have := h.2.2 C hC I a w hh
    generalize (execOp a.eval o).run P w = r at this ⊢
    cases r with
    | halt x w' => exact this
    | ok n w' =>
      cases n <;> try exact this
      case value v => obtain ⟨σ', I', h1, h2⟩ := this; obtain ⟨σ'', I'', h3, h4⟩ := key h1 h2; exact ⟨σ'', I'', h3, h4⟩
      case skip => obtain ⟨σ', I', h1, h2⟩ := this; obtain ⟨σ'', I'', h3, h4⟩ := key h1 h2; exact ⟨σ'', I'', h3, h4⟩
      case enter f args => exact Calls.mono this (by rintro e w'' ⟨v, σ', I', h1, h2, h3⟩; obtain ⟨σ'', I'', h4, h5⟩ := key h2 h3; exact ⟨v, σ'', I'', h1, h4, h5⟩)⟩
/-- 'append(slices.Clip(s), ..)' on flat data. -/
theorem e_appt_cl {e bytes : Nat} {zv : Value} {xs ys zs : List α} (k i : Nat) [ht : TSl P t e] [hz : TSz P e z] [hzv : TZero P e zv] [hby : TBytes P e bytes]
    (hx : σ.ev x = some (.cl f1 z (xs.map E))) (hy : σ.ev y = some (.v f2 (.l z (ys.map E)))) (hE : ∀ x, (E x).plain = true ∧ (V.cells (E x)).length = z) (hfl : ∀ x, (V.cells (E x)).all V.flatB = true) (he : xs ++ ys = zs) (hm : 0 < ys.length) (hz1 : oneAll zv = true) (hzs : zv.cells.size = z)
    (hb : (xs.length + ys.length) * (bytes + 1) ≤ 140737488355328) (hN : N.can dst = true) :
    Eff P N ⟨some dst, .call { callee := .builtin .append, args := #[x, y], argTypes := #[t, t] }, tt, pos, af, g⟩ σ (grew σ dst k i e z zs.length (els true (zs.map E))) := by
  subst he
  have := e_append_cl (P := P) (N := N) (σ := σ) (t := t) (tt := tt) (pos := pos) (af := af) (g := g) (dst := dst) (m := (ys.map E).length) (cs := els f2 (ys.map E)) k i hx (els_plain hE) hy (.l f2 _ (els_plain hE)) (by simpa using hm) hz1 hzs (by simpa using hb) hN
  rw [List.length_map, List.length_map, ← List.length_append] at this
  refine this.shift (fun σ' hs => ?_) (fun _ h => grew_gh h)
  obtain ⟨pl, rfl⟩ := hs
  refine ⟨_, ⟨pl, rfl⟩, fun X => ?_⟩
  have hw : Wks (els f1 (xs.map E) ++ els f2 (ys.map E)) (els true ((xs ++ ys).map E)) := by rw [← els_app]; exact (els_flatw hfl).app (els_flatw hfl)
  have := shift_wk (X := X) (σ := (σ.setH k i (some (pl, .row e (els f1 (xs.map E) ++ els f2 (ys.map E))))).put (some dst) (.o k i pl z 0 (xs ++ ys).length)) (k := k) (i := i) (pl := pl) (ty := e) (set2_same _ _ _ _) hw
  have h2 : (((σ.setH k i (some (pl, .row e (els f1 (xs.map E) ++ els f2 (ys.map E))))).put (some dst) (.o k i pl z 0 (xs ++ ys).length)).setH k i (some (pl, .row e (els true ((xs ++ ys).map E))))).hp = ((σ.setH k i (some (pl, .row e (els true ((xs ++ ys).map E))))).put (some dst) (.o k i pl z 0 (xs ++ ys).length)).hp := by
    show set2 (set2 σ.hp k i _) k i _ = set2 σ.hp k i _
    funext j l
    by_cases hjl : j = k ∧ l = i
    · obtain ⟨rfl, rfl⟩ := hjl; rw [set2_same, set2_same]
    · rw [set2_other _ _ hjl, set2_other _ _ hjl, set2_other _ _ hjl]
  refine ⟨this.1, fun C I a w hC hh => ?_⟩
  obtain ⟨I', hI⟩ := this.2 C I a w hC hh
  exact ⟨I', hI.le ⟨fun _ _ h => h, fun _ _ _ h => by rw [h2]; exact h, rfl, rfl⟩⟩
theorem x_appt_cl {ops : Array Oper} {L : Nat → Bool} {e bytes : Nat} {zv : Value} {xs ys zs : List α} (k i : Nat) [ht : TSl P t e] [hz : TSz P e z] [hzv : TZero P e zv] [hby : TBytes P e bytes]
    (hx : σ.ev x = some (.cl f1 z (xs.map E))) (hy : σ.ev y = some (.v f2 (.l z (ys.map E)))) (hE : ∀ x, (E x).plain = true ∧ (V.cells (E x)).length = z) (hfl : ∀ x, (V.cells (E x)).all V.flatB = true) (he : xs ++ ys = zs) (hm : 0 < ys.length) (hz1 : oneAll zv = true) (hzs : zv.cells.size = z)
    (hb : (xs.length + ys.length) * (bytes + 1) ≤ 140737488355328) (hN : N.can dst = true) (hL : L k = true) :
    LocEff P N ops ⟨some dst, .call { callee := .builtin .append, args := #[x, y], argTypes := #[t, t] }, tt, pos, af, none⟩ L σ (fun δ => ∃ pl', δ = ⟨[(k, i, some (pl', .row e (els true (zs.map E))))], .o k i pl' z 0 zs.length, []⟩) :=
  .of (fun δ h => by obtain ⟨_, rfl⟩ := h; exact ⟨fun e he => by simp at he; subst he; exact hL, fun e he => by cases he⟩) rfl fun τ h1 h2 => by
    refine ⟨_, e_appt_cl (σ := τ) k i (by rw [h1 x (by simp [Op.operands, Call.operands])]; exact hx) (by rw [h1 y (by simp [Op.operands, Call.operands])]; exact hy) hE hfl he hm hz1 hzs hb hN, fun τ' h => ?_⟩
    obtain ⟨pl', rfl⟩ := h
    exact ⟨_, ⟨pl', rfl⟩, rfl⟩
theorem q_clip {e : Nat} {xs : List α} {dst : Option Nat} {hi mx : Operand} {k1 k2 : IntKind} [ht : TSl P t e] [hz : TSz P e z] (hx : ev x = some (.v f (.l z (xs.map E)))) (hh : ev hi = some (.v f1 (.i k1 ((xs.length : Nat) : Int)))) (hm : ev mx = some (.v f2 (.i k2 ((xs.length : Nat) : Int)))) :
    Quiet P hp ev ⟨dst, .slice t x none (some hi) (some mx), tt, pos, af, g⟩ (.cl f z (xs.map E)) := by
  have := q_slice3 (P := P) (hp := hp) (ev := ev) (dst := dst) (t := t) (tt := tt) (pos := pos) (af := af) (g := g) (l := 0) (h := xs.length) (m := xs.length) hx .none (.some hh (Int.natCast_nonneg _)) (.some hm (Int.natCast_nonneg _)) rfl rfl rfl (Nat.zero_le _) (by simp)
  rwa [show ((xs.map E).take xs.length).drop 0 = xs.map E by rw [List.drop_zero, List.take_of_length_le (by simp)]] at this
theorem Wk.clo {f : Bool} {z : Nat} {xs : List V} : Wk (.cl f z xs) (.cl false z xs) := fun _ _ _ _ h => by cases h with | cl _ _ _ A h => exact .cl _ _ _ A (h.mono (fun _ _ => _root_.rfl) fun _ hb => ⟨hb.1, fun e => by cases e⟩)
theorem q_callR0 {fn : FuncId} {cds ds : List D} {as : List Operand} {ats : Array TypeId} {r : D} {dst : Option Nat} (hx : ev x = some d) (hv : FnV d fn cds) (ha : evs ev as = some ds) (hf : TFn P fn) (hc : FnR P fn (ds ++ cds) [] (fun d' es' => d' = r ∧ es' = [])) :
    Quiet P hp ev ⟨dst, .call { callee := .value x, args := as.toArray, argTypes := ats }, tt, pos, af, g⟩ r :=
  Quiet.of ⟨rfl, fun C I w ρ hw hρ => by
    obtain ⟨vs, h1, h2⟩ := hv.rep (hρ x (by simp [Op.operands, Call.operands]) _ hx)
    rw [run_call_value hf h1]
    have h3 := evs_reps (ρ := ρ) (w := w) (I := I) (base := C.base) ha (fun y hy d' hd => hρ y (by simp [Op.operands, Call.operands, hy]) d' hd)
    have no : ∀ b, ¬ Owned (assocH []) b := fun b ⟨k, i, n, blk, h⟩ => by simp [assocH] at h
    refine ⟨rfl, (hc C.base _ w I ⟨hw.size, hw.ilt, fun k i pl blk h => by simp [assocH] at h, fun k i k' i' b n n' blk blk' h => by simp [assocH] at h, fun k i b n blk h => by simp [assocH] at h⟩ (h3.append h2)).mono ?_⟩
    rintro e w' ⟨v, d', es', I', rfl, ⟨rfl, rfl⟩, hrep, hok, hch, hI, hI', _⟩
    refine ⟨v, rfl, ⟨hch.os, hch.tape, hch.output, hch.size, fun b hb => hch.block b hb (no b)⟩, I', hI, fun b hb => ?_, hrep⟩
    rcases hI' b hb with h | h | h
    · exact .inl h
    · exact .inr ⟨h, hok.ilt b hb⟩
    · exact (no b h).elim⟩
theorem EntOk.agree {h h' : Hp} {e : Ent} {Ls : List Nat} (hL : entsIn Ls [e] = true) (ha : ∀ k i, memN k Ls = true → h' k i = h k i) (he : EntOk h e) : EntOk h' e := by
  cases he with
  | e hk => simp [entsIn] at hL; exact .e ((ha _ _ hL).trans hk)
  | w hk hw => simp [entsIn] at hL; exact .w ((ha _ _ hL).trans hk) hw
  | n => exact .n
  | f hk => simp [entsIn] at hL; exact .f fun i hi => (ha _ _ hL).trans (hk i hi)
theorem HpOk.agree {h h' : Hp} {Ls : List Nat} (ha : ∀ k i, memN k Ls = true → h' k i = h k i) : ∀ {es : List Ent}, entsIn Ls es = true → HpOk h es → HpOk h' es
  | [], _, _ => trivial
  | e :: l, hL, he => by
    have h2 : entsIn Ls [e] = true ∧ entsIn Ls l = true := by cases e <;> simp [entsIn] at hL ⊢ <;> exact hL
    exact ⟨he.1.agree h2.1 ha, he.2.agree ha h2.2⟩
theorem over_ov (Ls : List Nat) (es : List Ent) (h : Hp) : (fun k i => bif memN k Ls then assocH es k i else h k i) = ovH (Ls.map fun k => (k, assocH es k)) h := by
  funext k i
  induction Ls with
  | nil => rfl
  | cons a Ls ih =>
    simp only [List.map_cons, ovH, memN]
    cases e : Nat.beq k a with
    | true => rw [Nat.eq_of_beq_eq_true e]; rfl
    | false => simpa using ih
/-- A call of a function that is lent blocks, in a region that draws its order. -/
theorem x_callR {ops : Array Oper} {L : Nat → Bool} {fn : FuncId} {cds ds : List D} {as : List Operand} {ats : Array TypeId} {es : List Ent} {R : D → List Ent → Prop} {dst : Option Nat} (Ls : List Nat) (hx : σ.ev x = some d) (hv : FnV d fn cds) (ha : evs σ.ev as = some ds) (hf : TFn P fn) (hc : FnR P fn (ds ++ cds) es R) (he : HpOk σ.hp es) (hL : entsIn Ls es = true) (hN : dstOk N dst = true)
    (hLL : (Ls.all L) = true) : LocEff P N ops ⟨dst, .call { callee := .value x, args := as.toArray, argTypes := ats }, tt, pos, af, none⟩ L σ (fun δ => ∃ r es', R r es' ∧ δ = ⟨[], r, Ls.map fun k => (k, assocH es' k)⟩) := by
  have hmem : ∀ k, memN k Ls = true → L k = true := fun k hk => List.all_eq_true.1 hLL k (of_memN hk)
  refine .of (fun δ h => ?_) rfl fun τ h1 h2 => ?_
  · obtain ⟨_, _, _, rfl⟩ := h
    refine ⟨fun e he => (by cases he), fun e he => ?_⟩
    obtain ⟨k, hk, rfl⟩ := List.mem_map.1 he
    exact List.all_eq_true.1 hLL k hk
  · have hx' : τ.ev x = some d := by rw [h1 x (by simp [Op.operands, Call.operands])]; exact hx
    have ha' : evs τ.ev as = some ds := by
      have : ∀ l : List Operand, (∀ y ∈ l, y ∈ as) → evs τ.ev l = evs σ.ev l := by
        intro l
        induction l with
        | nil => intro _; rfl
        | cons y l ih => intro hl; simp only [evs]; rw [h1 y (by simp [Op.operands, Call.operands, hl y (by simp)]), ih fun z hz => hl z (by simp [hz])]
      rw [this as fun _ h => h]; exact ha
    refine ⟨_, e_callR (σ := τ) (N := N) Ls hx' hv ha' hf hc (he.agree (fun k i hk => h2 k i (hmem k hk)) hL) hL hN, fun τ' h => ?_⟩
    obtain ⟨r, es', hR, rfl⟩ := h
    refine ⟨_, ⟨r, es', hR, rfl⟩, ?_⟩
    unfold St.over St.app
    rw [over_ov]
    rfl
/-- 'append' of flat data to a slice of the call's own, whatever its age. -/
theorem e_appt_f {k i e bytes : Nat} {zv : Value} {pl : Pl} {xs ys zs : List α} [ht : TSl P t e] [hz : TSz P e z] [hzv : TZero P e zv] [hby : TBytes P e bytes]
    (hx : σ.ev x = some (.o k i pl z 0 xs.length)) (hk : σ.hp k i = some (pl, .row e (els f1 (xs.map E)))) (hy : σ.ev y = some (.v f2 (.l z (ys.map E)))) (hE : ∀ x, (E x).plain = true ∧ (V.cells (E x)).length = z) (hfl : ∀ x, (V.cells (E x)).all V.flatB = true) (he : xs ++ ys = zs) (hz1 : oneAll zv = true) (hzs : zv.cells.size = z)
    (hb : (xs.length + ys.length) * (bytes + 1) ≤ 140737488355328) (hN : N.can dst = true) :
    Eff P N ⟨some dst, .call { callee := .builtin .append, args := #[x, y], argTypes := #[t, t] }, tt, pos, af, g⟩ σ (grew σ dst k i e z zs.length (els true (zs.map E))) := by
  subst he
  have h1 : xs.length * z = (els f1 (xs.map E)).length := (els_len f1 fun x => (hE x).2).symm
  have := e_append (P := P) (N := N) (σ := σ) (t := t) (tt := tt) (pos := pos) (af := af) (g := g) (dst := dst) (m := (ys.map E).length) (cs := els f2 (ys.map E)) hx hk h1 hy (.l f2 _ (els_plain hE)) hz1 hzs (by simpa using hb) hN
  rw [List.length_map, ← List.length_append] at this
  refine this.shift (fun σ' hs => ?_) (fun _ h => grew_gh h)
  obtain ⟨pl', rfl⟩ := hs
  refine ⟨_, ⟨pl', rfl⟩, fun X => ?_⟩
  have hw : Wks (els f1 (xs.map E) ++ els f2 (ys.map E)) (els true ((xs ++ ys).map E)) := by rw [← els_app]; exact (els_flatw hfl).app (els_flatw hfl)
  have := shift_wk (X := X) (σ := (σ.setH k i (some (pl', .row e (els f1 (xs.map E) ++ els f2 (ys.map E))))).put (some dst) (.o k i pl' z 0 (xs ++ ys).length)) (k := k) (i := i) (pl := pl') (ty := e) (set2_same _ _ _ _) hw
  have h2 : (((σ.setH k i (some (pl', .row e (els f1 (xs.map E) ++ els f2 (ys.map E))))).put (some dst) (.o k i pl' z 0 (xs ++ ys).length)).setH k i (some (pl', .row e (els true ((xs ++ ys).map E))))).hp = ((σ.setH k i (some (pl', .row e (els true ((xs ++ ys).map E))))).put (some dst) (.o k i pl' z 0 (xs ++ ys).length)).hp := by
    show set2 (set2 σ.hp k i _) k i _ = set2 σ.hp k i _
    funext j l
    by_cases hjl : j = k ∧ l = i
    · obtain ⟨rfl, rfl⟩ := hjl; rw [set2_same, set2_same]
    · rw [set2_other _ _ hjl, set2_other _ _ hjl, set2_other _ _ hjl]
  refine ⟨this.1, fun C I a w hC hh => ?_⟩
  obtain ⟨I', hI⟩ := this.2 C I a w hC hh
  exact ⟨I', hI.le ⟨fun _ _ h => h, fun _ _ _ h => by rw [h2]; exact h, rfl, rfl⟩⟩
theorem x_appt_f {ops : Array Oper} {L : Nat → Bool} {k i e bytes : Nat} {zv : Value} {pl : Pl} {xs ys zs : List α} [ht : TSl P t e] [hz : TSz P e z] [hzv : TZero P e zv] [hby : TBytes P e bytes]
    (hx : σ.ev x = some (.o k i pl z 0 xs.length)) (hk : σ.hp k i = some (pl, .row e (els f1 (xs.map E)))) (hy : σ.ev y = some (.v f2 (.l z (ys.map E)))) (hE : ∀ x, (E x).plain = true ∧ (V.cells (E x)).length = z) (hfl : ∀ x, (V.cells (E x)).all V.flatB = true) (he : xs ++ ys = zs) (hz1 : oneAll zv = true) (hzs : zv.cells.size = z)
    (hb : (xs.length + ys.length) * (bytes + 1) ≤ 140737488355328) (hN : N.can dst = true) (hL : L k = true) :
    LocEff P N ops ⟨some dst, .call { callee := .builtin .append, args := #[x, y], argTypes := #[t, t] }, tt, pos, af, none⟩ L σ (fun δ => ∃ pl', δ = ⟨[(k, i, some (pl', .row e (els true (zs.map E))))], .o k i pl' z 0 zs.length, []⟩) :=
  .of (fun δ h => by obtain ⟨_, rfl⟩ := h; exact ⟨fun e he => by simp at he; subst he; exact hL, fun e he => by cases he⟩) rfl fun τ h1 h2 => by
    refine ⟨_, e_appt_f (σ := τ) (by rw [h1 x (by simp [Op.operands, Call.operands])]; exact hx) ((h2 k i hL).trans hk) (by rw [h1 y (by simp [Op.operands, Call.operands])]; exact hy) hE hfl he hz1 hzs hb hN, fun τ' h => ?_⟩
    obtain ⟨pl', rfl⟩ := h
    exact ⟨_, ⟨pl', rfl⟩, rfl⟩
theorem elsD_agree {ev ev' : Operand → Option D} {z : Nat} : ∀ {parts : List (Nat × Operand)} {n : Nat}, (∀ y ∈ parts.map (·.2), ev' y = ev y) → elsD ev' z n parts = elsD ev z n parts
  | [], _, _ => rfl
  | (m, a) :: as, n, h => by
    simp only [elsD]
    rw [h a (by simp), elsD_agree (parts := as) (n := n + 1) fun y hy => h y (by simp at hy ⊢; exact .inr hy)]
theorem x_buildSlice {ops : Array Oper} {L : Nat → Bool} {e n : Nat} {zv : Value} {parts : List (Nat × Operand)} {ds : List D} (k i : Nat) [ht : TSl P t e] [hz : TSz P e z] [hzv : TZero P e zv] (h : elsD σ.ev z 0 parts = some ds) (hn : ds.length = n) (hsmall : (Nat.ble n 1048576 && Nat.ble (n * z) 16777216) = true) (hN : N.can dst = true) (hL : L k = true) :
    LocEff P N ops ⟨some dst, .buildSlice t n parts.toArray, tt, pos, af, none⟩ L σ (fun δ => ∃ b, δ = ⟨[(k, i, some (some (b, n * z), .row e (ds.flatMap D.cells)))], .o k i (some (b, n * z)) z 0 n, []⟩) :=
  .of (fun δ h => by obtain ⟨_, rfl⟩ := h; exact ⟨fun e he => by simp at he; subst he; exact hL, fun e he => by cases he⟩) rfl fun τ h1 _ => by
    refine ⟨_, e_buildSlice (σ := τ) k i ((elsD_agree fun y hy => h1 y (by simpa [Op.operands] using hy)).trans h) hn hsmall hN, fun τ' hl => ?_⟩
    obtain ⟨b, rfl⟩ := hl
    exact ⟨_, ⟨b, rfl⟩, rfl⟩
end
end Bf
