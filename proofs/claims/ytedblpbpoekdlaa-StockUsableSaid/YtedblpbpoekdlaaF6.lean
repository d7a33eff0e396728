/- The engine, part 6: what reads as data, calls of pure functions, closures, values built of parts. No program is named here. -/
import Derived.Test.YtedblpbpoekdlaaF5
import Derived.Laws.MakeOwn
namespace Bf
open Go Go.RowKit

/-! #### What reads as data -/
theorem VRep.nil_slice {w : World} {I : Nat → Prop} (z : Nat) : VRep w I (.l z []) (.slice none 0 0) := by
  have := VRep.l (w := w) (I := I) z [] none 0 (Nat.le_refl _) (Nat.zero_le _) (fun _ => undef) 0 0 (fun h => by simp at h) (fun i x h => by simp at h) (fun i x h => by simp at h) (fun i j x u h => by simp at h)
  exact this

theorem flatMap_seg {α β : Type} (f : α → List β) {z : Nat} : ∀ (ys : List α), (∀ y ∈ ys, (f y).length = z) → ∀ (e : Nat) (y : α), ys[e]? = some y → ((ys.flatMap f).drop (e * z)).take z = f y
  | [], _, e, y, h => by simp at h
  | a :: ys, hz, 0, y, h => by
    simp at h
    subst h
    have h1 := hz a (by simp)
    rw [List.flatMap_cons, Nat.zero_mul, List.drop_zero, ← h1, List.take_left]
  | a :: ys, hz, e + 1, y, h => by
    have ih := flatMap_seg f ys (fun y hy => hz y (by simp [hy])) e y (by simpa using h)
    have h1 := hz a (by simp)
    have h2 : (f a ++ List.flatMap f ys).drop z = List.flatMap f ys := by rw [← h1, List.drop_left]
    rw [List.flatMap_cons, Nat.add_mul, Nat.one_mul, Nat.add_comm, ← List.drop_drop, h2]
    exact ih
theorem flatMap_len {α β : Type} (f : α → List β) {z : Nat} : ∀ (ys : List α), (∀ y ∈ ys, (f y).length = z) → (ys.flatMap f).length = ys.length * z
  | [], _ => by simp
  | a :: ys, h => by
    rw [List.flatMap_cons, List.length_append, flatMap_len f ys (fun y hy => h y (by simp [hy])), h a (by simp), List.length_cons, Nat.add_mul]
    omega
theorem flatMap_get {α β : Type} (f : α → List β) {z : Nat} {ys : List α} (hz : ∀ y ∈ ys, (f y).length = z) {e j : Nat} {y : α} {c : β} (hy : ys[e]? = some y) (hc : (f y)[j]? = some c) : (ys.flatMap f)[e * z + j]? = some c := by
  have h := flatMap_seg f ys hz e y hy
  have hj : j < z := by rw [← hz y (List.mem_of_getElem? hy)]; exact (List.getElem?_eq_some_iff.1 hc).1
  rw [← h, List.getElem?_take, if_pos hj, List.getElem?_drop] at hc
  exact hc

/-- A value out of its cells. -/
theorem VRep.of_cells {w : World} {I : Nat → Prop} {y : V} {us : List Value} (hp : y.plain = true) (h : VReps w I (V.cells y) us) (h1 : ∀ u ∈ us, u.oneCell' = true) : ∃ u : Value, VRep w I y u ∧ u.cells.toList = us := by
  cases y with
  | st xs => exact ⟨.agg us.toArray, .st_of h h1, by simp [Value.cells]⟩
  | t xs => simp [V.plain] at hp
  | _ =>
    obtain ⟨u, us', rfl, g1, g2⟩ := VReps.cons_inv (xs := []) h
    have := g2.nil_inv
    subst this
    exact ⟨u, g1, by rw [oneCell_cells (h1 u (by simp))]⟩

theorem VRep.l_cells {w : World} {I : Nat → Prop} {z b off cap : Nat} {ys : List V} {vs : List Value} (hp : ∀ y ∈ ys, y.plain = true ∧ (V.cells y).length = z) (hc : VReps w I (ys.flatMap V.cells) vs) (h1 : ∀ v ∈ vs, v.oneCell' = true)
    (hcap : ys.length ≤ cap) (hm : cap ≤ maxLen) (hI : 0 < ys.length → I b) (hcell : ∀ (j : Nat) u, vs[j]? = some u → w.cell? ⟨b, off + j, none⟩ = some u) : VRep w I (.l z ys) (.slice (some ⟨b, off, none⟩) ys.length cap) := by
  have hval : ∀ i : Nat, ∃ u : Value, ∀ y, ys[i]? = some y → VRep w I y u ∧ u.cells.size = z ∧ ∀ (j : Nat) v, u.cells[j]? = some v → w.cell? ⟨b, off + (i * z + j), none⟩ = some v := by
    intro i
    cases hy : ys[i]? with
    | none => exact ⟨undef, fun y h => by cases h⟩
    | some y =>
      have hmem := List.mem_of_getElem? hy
      have hs := flatMap_seg V.cells ys (fun y hy => (hp y hy).2) i y hy
      have hr := (hc.drop (i * z)).take z
      rw [hs] at hr
      obtain ⟨u, g1, g2⟩ := VRep.of_cells (hp y hmem).1 hr (fun u hu => h1 u (List.mem_of_mem_drop (List.mem_of_mem_take hu)))
      refine ⟨u, fun y' h => by
        cases h
        have hsz : u.cells.size = z := by rw [← Array.length_toList, g2, ← hr.1]; exact (hp y hmem).2
        refine ⟨g1, hsz, fun j v hv => ?_⟩
        have hv' : u.cells.toList[j]? = some v := by simpa using hv
        rw [g2, List.getElem?_take] at hv'
        split at hv'
        · exact hcell _ v (by simpa using hv')
        · cases hv'⟩
  exact .l z ys _ cap hcap hm (fun i => (hval i).choose) b off (fun h => ⟨rfl, hI h⟩) (fun i x hx => ((hval i).choose_spec x hx).1) (fun i x hx => ((hval i).choose_spec x hx).2.1) (fun i j x v hx hv => ((hval i).choose_spec x hx).2.2 j v hv)

/-- Elements of data, cell by cell. -/
def els (f : Bool) (ys : List V) : List D := ys.flatMap (cellsD f)
theorem els_map (f : Bool) (ys : List V) : els f ys = (ys.flatMap V.cells).map (D.v f) := by
  unfold els cellsD
  rw [List.map_flatMap]
theorem els_append (f : Bool) (xs ys : List V) : els f (xs ++ ys) = els f xs ++ els f ys := by simp [els]

/-- 'd' reads as 'x', through blocks of the call's own; the data within it is new where 'fl'. -/
inductive Snap (hp : Hp) (fl : Bool) : D → V → Prop
  | v (f : Bool) (x : V) (h : fl = true → f = true) : Snap hp fl (.v f x) x
  | nil (f : Bool) (z : Nat) : Snap hp fl (.v f (.raw (.slice none 0 0))) (.l z [])
  | cl (f : Bool) (z : Nat) (xs : List V) (h : fl = true → f = true) : Snap hp fl (.cl f z xs) (.l z xs)
  | onil (k i z z' : Nat) : Snap hp fl (.o k i none z 0 0) (.l z' [])
  | rp (k i b off : Nat) : Snap hp fl (.p k i b off) (.raw (.pointer (some ⟨b, off, none⟩)))
  | o (k i z off len ty : Nat) (pl : Pl) (xs cs : List D) (ys : List V) (hk : hp k i = some (pl, .row ty xs)) (hd : (xs.drop off).take (len * z) = cs) (hy : ys.length = len)
      (hp' : ∀ y ∈ ys, y.plain = true ∧ (V.cells y).length = z) (hl : cs.length = (ys.flatMap V.cells).length) (hs : ∀ (j : Nat) d c, cs[j]? = some d → (ys.flatMap V.cells)[j]? = some c → Snap hp fl d c) : Snap hp fl (.o k i pl z off len) (.l z ys)
  | q (k i b n off ty : Nat) (xs cs : List D) (ys : List V) (hk : hp k i = some (some (b, n), .row ty xs)) (hd : (xs.drop off).take ys.length = cs) (hl : cs.length = ys.length)
      (hs : ∀ (j : Nat) d c, cs[j]? = some d → ys[j]? = some c → Snap hp fl d c) : Snap hp fl (.p k i b off) (.q ys)
  | st (ds : List D) (ys : List V) (hl : ds.length = ys.length) (hs : ∀ (j : Nat) d c, ds[j]? = some d → ys[j]? = some c → Snap hp fl d c) : Snap hp fl (.st ds) (.st ys)
  | t (ds : List D) (ys : List V) (hl : ds.length = ys.length) (hs : ∀ (j : Nat) d c, ds[j]? = some d → ys[j]? = some c → Snap hp fl d c) : Snap hp fl (.t ds) (.t ys)
  | c (f : FuncId) (ds : List D) (ys : List V) (hl : ds.length = ys.length) (hs : ∀ (j : Nat) d c, ds[j]? = some d → ys[j]? = some c → Snap hp fl d c) : Snap hp fl (.c f ds) (.c f ys)

theorem Snap.rep {C : Ctx} {hp : Hp} {I : Nat → Prop} {w : World} {fl : Bool} {d : D} {x : V} (hw : WOk C hp I w) (h : Snap hp fl d x) :
    ∀ {u : Value}, DRep w I C.base d u → VRep w (fun b => fresh fl I C.base b ∨ ∃ k i n blk, hp k i = some (some (b, n), blk)) x u := by
  induction h with
  | v f x h => exact fun hd => hd.v_inv.mono (fun _ _ => rfl) (fun b hb => .inl ⟨hb.1, fun e => hb.2 (h e)⟩)
  | nil f z => exact fun hd => by rw [hd.v_inv.raw_inv.1]; exact .nil_slice z
  | cl f z xs h => exact fun hd => by cases hd; rename_i A hr; exact hr.mono (fun _ _ => rfl) (fun b hb => .inl ⟨hb.1, fun e => hb.2 (h e)⟩)
  | onil k i z z' => exact fun hd => by cases hd; exact .nil_slice z'
  | rp k i b off => exact fun hd => by rw [hd.p_inv]; exact .raw _ rfl
  | o k i z off len ty pl xs cs ys hk hd hy hp' hl hs ih =>
    intro u hu
    rcases hu.o_inv with ⟨rfl, rfl, rfl, rfl⟩ | ⟨b, n, cap, rfl, rfl, h1, h2, h3⟩
    · rw [List.eq_nil_of_length_eq_zero hy]; exact .nil_slice z
    · obtain ⟨vs, hr⟩ := hw.row hk
      have hfl : (ys.flatMap V.cells).length = len * z := by rw [flatMap_len _ _ (fun y hy => (hp' y hy).2), hy]
      obtain ⟨us, g1, g2, g3, _, g4⟩ := hr.seg hd (hl.trans hfl)
      rw [← hy]
      exact .l_cells hp' ⟨hl.symm.trans g2.1, fun j c v hc hv => by
        have hj : j < cs.length := by rw [hl]; exact (List.getElem?_eq_some_iff.1 hc).1
        exact ih j _ c (List.getElem?_eq_getElem hj) hc (g2.2 j _ v (List.getElem?_eq_getElem hj) hv)⟩ g3 (by omega) h2 (fun _ => .inr ⟨k, i, n, _, hk⟩) g4
  | q k i b n off ty xs cs ys hk hd hl hs ih =>
    intro u hu
    rw [hu.p_inv]
    obtain ⟨vs, hr⟩ := hw.row hk
    obtain ⟨us, g1, g2, g3, _, g4⟩ := hr.seg hd hl
    exact .q ys us b off (by omega) g3 (.inr ⟨k, i, n, _, hk⟩) (fun j c v hc hv => by
      have hj : j < cs.length := by rw [hl]; exact (List.getElem?_eq_some_iff.1 hc).1
      exact ih j _ c (List.getElem?_eq_getElem hj) hc (g2.2 j _ v (List.getElem?_eq_getElem hj) hv)) g4
  | st ds ys hl hs ih =>
    intro u hu
    cases hu with
    | st _ vs g1 g2 g3 =>
      exact .st ys vs (by omega) g2 fun j c v hc hv => by
        have hj : j < ds.length := by rw [hl]; exact (List.getElem?_eq_some_iff.1 hc).1
        exact ih j _ c (List.getElem?_eq_getElem hj) hc (g3 j _ v (List.getElem?_eq_getElem hj) hv)
  | t ds ys hl hs ih =>
    intro u hu
    cases hu with
    | t _ vs g1 g3 =>
      exact .t ys vs (by omega) fun j c v hc hv => by
        have hj : j < ds.length := by rw [hl]; exact (List.getElem?_eq_some_iff.1 hc).1
        exact ih j _ c (List.getElem?_eq_getElem hj) hc (g3 j _ v (List.getElem?_eq_getElem hj) hv)
  | c f ds ys hl hs ih =>
    intro u hu
    cases hu with
    | c _ _ vs g1 g3 =>
      exact .c f ys vs (by omega) fun j c v hc hv => by
        have hj : j < ds.length := by rw [hl]; exact (List.getElem?_eq_some_iff.1 hc).1
        exact ih j _ c (List.getElem?_eq_getElem hj) hc (g3 j _ v (List.getElem?_eq_getElem hj) hv)

theorem Snap.rep_lt {C : Ctx} {hp : Hp} {I : Nat → Prop} {w : World} {fl : Bool} {d : D} {x : V} (hw : WOk C hp I w) (h : Snap hp fl d x) {u : Value} (hd : DRep w I C.base d u) : VRep w (fun b => b < w.heap.size) x u :=
  (h.rep hw hd).mono (fun _ _ => rfl) fun b hb => by
    rcases hb with hb | ⟨k, i, n, blk, hk⟩
    · exact hw.ilt b hb.1
    · exact (hw.owned k i b n blk hk).1
/-- A slice of data of the call's own. -/
theorem Snap.els {hp : Hp} {fl f : Bool} {k i z off len ty : Nat} {pl : Pl} {xs : List D} {ys : List V} (hk : hp k i = some (pl, .row ty xs)) (hd : (xs.drop off).take (len * z) = Bf.els f ys) (hy : ys.length = len) (hp' : ∀ y ∈ ys, y.plain = true ∧ (V.cells y).length = z) (hf : fl = true → f = true) : Snap hp fl (.o k i pl z off len) (.l z ys) :=
  .o k i z off len ty pl xs _ ys hk hd hy hp' (by rw [els_map]; simp) fun j d c hd hc => by
    rw [els_map, List.getElem?_map, hc] at hd
    cases hd
    exact .v f c hf
/-- The whole of it. -/
theorem Snap.all {hp : Hp} {fl f : Bool} {k i z len ty : Nat} {pl : Pl} {ys : List V} (hk : hp k i = some (pl, .row ty (Bf.els f ys))) (hy : ys.length = len) (hp' : ∀ y ∈ ys, y.plain = true ∧ (V.cells y).length = z) (hf : fl = true → f = true) : Snap hp fl (.o k i pl z 0 len) (.l z ys) :=
  .els hk (by rw [List.drop_zero, List.take_of_length_le]; rw [els_map, List.length_map, flatMap_len _ _ (fun y hy => (hp' y hy).2), hy]; exact Nat.le_refl _) hy hp' hf

/-! #### Calls of pure functions -/
/-- The arguments of a call. -/
inductive ArgsOk (hp : Hp) (ev : Operand → Option D) : List Operand → List V → Prop
  | nil : ArgsOk hp ev [] []
  | cons {a : Operand} {as : List Operand} {d : D} {x : V} {ds : List V} (h : ev a = some d) (hs : Snap hp false d x) (t : ArgsOk hp ev as ds) : ArgsOk hp ev (a :: as) (x :: ds)
theorem ArgsOk.v {hp : Hp} {ev : Operand → Option D} {a : Operand} {as : List Operand} {f : Bool} {x : V} {ds : List V} (h : ev a = some (.v f x)) (t : ArgsOk hp ev as ds) : ArgsOk hp ev (a :: as) (x :: ds) := .cons h (.v f x (fun e => by cases e)) t
theorem ArgsOk.z {hp : Hp} {ev : Operand → Option D} {a : Operand} {as : List Operand} {f : Bool} {z : Nat} {ds : List V} (h : ev a = some (.v f (.raw (.slice none 0 0)))) (t : ArgsOk hp ev as ds) : ArgsOk hp ev (a :: as) (.l z [] :: ds) := .cons h (.nil f z) t

theorem ArgsOk.reps {C : Ctx} {hp : Hp} {I : Nat → Prop} {w : World} {ρ : Operand → Value} {ev : Operand → Option D} {as : List Operand} {ds : List V} (h : ArgsOk hp ev as ds) (hw : WOk C hp I w)
    (hρ : ∀ x ∈ as, ∀ d', ev x = some d' → DRep w I C.base d' (ρ x)) : VReps w (fun b => b < w.heap.size) ds (as.map ρ) := by
  induction h with
  | nil => exact .nil
  | cons h hs t ih => exact .cons (hs.rep_lt hw (hρ _ (by simp) _ h)) (ih (fun x hx => hρ x (by simp [hx])))

section
variable {P : Program} {hp : Hp} {ev : Operand → Option D} {dst : Option Nat} {t tt ty : TypeId} {pos : String} {af : Array Edge} {g : Option (Nat × Bool)} {x y c : Operand} {d : D} {f f1 f2 : Bool}

theorem run_call_value {w : World} {fn : FuncId} (hf : TFn P fn) {as : List Operand} {ats : Array TypeId} {ρ : Operand → Value} {cs : List Value} (hx : ρ x = .func (.func fn) #[] cs.toArray) :
    (execOp ρ ⟨dst, .call { callee := .value x, args := as.toArray, argTypes := ats }, tt, pos, af, g⟩).run P w = .ok (.enter fn (as.map ρ ++ cs).toArray) w := by
  simp only [execOp, resolve, hx, Deferred.ofValue, Sem.run_bind, Sem.run_pure, Result.andThen_ok, invoke, List.map_toArray, List.append_toArray, List.nil_append]
  exact run_callFunc hf.h _ w

theorem q_call {fn : FuncId} {caps : List V} {as : List Operand} {ats : Array TypeId} {ds : List V} {r : V} (hx : ev x = some d) (hxs : Snap hp false d (.c fn caps)) (ha : ArgsOk hp ev as ds) (hf : TFn P fn) (hc : PureC P true fn (ds ++ caps) r) :
    Quiet P hp ev ⟨dst, .call { callee := .value x, args := as.toArray, argTypes := ats }, tt, pos, af, g⟩ (.v true r) :=
  Quiet.of ⟨rfl, fun C I w ρ hw hρ => by
    obtain ⟨cs, h1, h2⟩ := (hxs.rep_lt hw (hρ x (by simp [Op.operands, Call.operands]) _ hx)).c_inv
    rw [run_call_value hf h1]
    refine ⟨rfl, ?_⟩
    have h3 := ha.reps hw (fun y hy => hρ y (by simp [Op.operands, Call.operands, hy]))
    refine (hc _ w (fun b => b < w.heap.size) (fun _ h => h) (h3.append h2)).mono ?_
    rintro e w' ⟨v, rfl, hk, hv⟩
    refine ⟨v, rfl, hk, fun b => I b ∨ (w.heap.size ≤ b ∧ b < w'.heap.size), fun b hb => .inl hb, fun b hb => hb, .v _ _ _ (hv.mono (fun _ _ => rfl) ?_)⟩
    rintro b ⟨hb1, hb2 | ⟨hb2, _⟩⟩
    · exact ⟨.inr ⟨hb2, hb1⟩, fun _ => Nat.le_trans hw.size hb2⟩
    · cases hb2⟩

/-- What a closure captures, or is given, as data. -/
inductive CapsOk (ev : Operand → Option D) : List Operand → Bool → List V → Prop
  | nil : CapsOk ev [] true []
  | v {a : Operand} {as : List Operand} {f fl : Bool} {x : V} {ds : List V} (h : ev a = some (.v f x)) (t : CapsOk ev as fl ds) : CapsOk ev (a :: as) (f && fl) (x :: ds)
  | z {a : Operand} {as : List Operand} {f fl : Bool} {z : Nat} {ds : List V} (h : ev a = some (.v f (.raw (.slice none 0 0)))) (t : CapsOk ev as fl ds) : CapsOk ev (a :: as) (f && fl) (.l z [] :: ds)

theorem CapsOk.reps {C : Ctx} {I : Nat → Prop} {w : World} {ρ : Operand → Value} {as : List Operand} {fl : Bool} {ds : List V} (h : CapsOk ev as fl ds)
    (hρ : ∀ x ∈ as, ∀ d', ev x = some d' → DRep w I C.base d' (ρ x)) : VReps w (fresh fl I C.base) ds (as.map ρ) := by
  induction h with
  | nil => exact .nil
  | v h t ih =>
    have h1 := (hρ _ (by simp) _ h).v_inv
    have h3 := ih (fun x hx => hρ x (by simp [hx]))
    refine .cons (h1.mono (fun _ _ => rfl) (fun b hb => ⟨hb.1, fun e => hb.2 ?_⟩)) (h3.mono (fun _ _ => rfl) (fun b hb => ⟨hb.1, fun e => hb.2 ?_⟩))
    · simp at e; exact e.1
    · simp at e; exact e.2
  | z h t ih =>
    have h1 := (hρ _ (by simp) _ h).v_inv.raw_inv.1
    have h3 := ih (fun x hx => hρ x (by simp [hx]))
    refine .cons (by rw [h1]; exact .nil_slice _) (h3.mono (fun _ _ => rfl) (fun b hb => ⟨hb.1, fun e => hb.2 ?_⟩))
    simp at e; exact e.2

/-- A function whose result may lie in its arguments' memory. -/
theorem q_calla {fn : FuncId} {caps : List V} {as : List Operand} {ats : Array TypeId} {fl : Bool} {ds : List V} {r : V} (hx : ev x = some (.v f (.c fn caps))) (ha : CapsOk ev as fl ds) (hf : TFn P fn) (hc : PureC P false fn (ds ++ caps) r) :
    Quiet P hp ev ⟨dst, .call { callee := .value x, args := as.toArray, argTypes := ats }, tt, pos, af, g⟩ (.v (f && fl) r) :=
  Quiet.of ⟨rfl, fun C I w ρ hw hρ => by
    obtain ⟨cs, h1, h2⟩ := (hρ x (by simp [Op.operands, Call.operands]) _ hx).v_inv.c_inv
    rw [run_call_value hf h1]
    refine ⟨rfl, ?_⟩
    have h3 := ha.reps (C := C) (I := I) (w := w) (fun y hy => hρ y (by simp [Op.operands, Call.operands, hy]))
    have h4 : VReps w (fresh (f && fl) I C.base) (ds ++ caps) (as.map ρ ++ cs) :=
      (h3.mono (fun _ _ => rfl) (fun b hb => ⟨hb.1, fun e => hb.2 (by simp at e; exact e.2)⟩)).append (h2.mono (fun _ _ => rfl) (fun b hb => ⟨hb.1, fun e => hb.2 (by simp at e; exact e.1)⟩))
    refine (hc _ w (fresh (f && fl) I C.base) (fun b hb => hw.ilt b hb.1) h4).mono ?_
    rintro e w' ⟨v, rfl, hk, hv⟩
    refine ⟨v, rfl, hk, fun b => I b ∨ (w.heap.size ≤ b ∧ b < w'.heap.size), fun b hb => .inl hb, fun b hb => hb, .v _ _ _ (hv.mono (fun _ _ => rfl) ?_)⟩
    rintro b ⟨hb1, hb2 | ⟨_, hb2⟩⟩
    · exact ⟨.inr ⟨hb2, hb1⟩, fun _ => Nat.le_trans hw.size hb2⟩
    · exact ⟨.inl hb2.1, hb2.2⟩⟩

theorem q_func {fn : FuncId} {as : List Operand} {fl : Bool} {ds : List V} (ha : CapsOk ev as fl ds) : Quiet P hp ev ⟨dst, .makeFunc (.func fn) #[] as.toArray, tt, pos, af, g⟩ (.v fl (.c fn ds)) :=
  Quiet.of ⟨rfl, fun C I w ρ _ hρ => by
    have h3 := ha.reps (fun y hy => hρ y (by simp [Op.operands, hy]))
    simp only [execOp, Instr.makeFunc, List.map_toArray, List.map_nil, Sem.run_bind, Sem.run_pure, Result.andThen_ok]
    exact ⟨rfl, .v _ _ _ (.c fn ds _ h3.1 h3.2)⟩⟩

/-- Operands' data. -/
def evs (ev : Operand → Option D) : List Operand → Option (List D)
  | [] => some []
  | a :: as => match ev a, evs ev as with | some d, some ds => some (d :: ds) | _, _ => none
theorem evs_reps {ρ : Operand → Value} {w : World} {I : Nat → Prop} {base : Nat} : ∀ {as : List Operand} {ds : List D}, evs ev as = some ds → (∀ x ∈ as, ∀ d', ev x = some d' → DRep w I base d' (ρ x)) → DReps w I base ds (as.map ρ)
  | [], ds, h, _ => by cases h; exact .nil
  | a :: as, ds, h, hρ => by
    simp only [evs] at h
    cases h1 : ev a with
    | none => rw [h1] at h; cases h
    | some d =>
      cases h2 : evs ev as with
      | none => rw [h1, h2] at h; cases h
      | some r =>
        rw [h1, h2] at h
        cases h
        exact .cons (hρ a (by simp) d h1) (evs_reps h2 fun x hx => hρ x (by simp [hx]))
/-- A closure that captures what is the call's own. -/
theorem q_funcD {fn : FuncId} {as : List Operand} {ds : List D} (ha : evs ev as = some ds) : Quiet P hp ev ⟨dst, .makeFunc (.func fn) #[] as.toArray, tt, pos, af, g⟩ (.c fn ds) :=
  Quiet.of ⟨rfl, fun C I w ρ _ hρ => by
    have h3 := evs_reps (ρ := ρ) ha (fun y hy => hρ y (by simp [Op.operands, hy]))
    simp only [execOp, Instr.makeFunc, List.map_toArray, List.map_nil, Sem.run_bind, Sem.run_pure, Result.andThen_ok]
    exact ⟨rfl, .c fn ds _ h3.1 h3.2⟩⟩

/-! #### Values built of parts -/
def setCells (xs : List V) (off : Nat) (ys : List V) : List V := (ys.zipIdx).foldl (fun cs p => cs.set (off + p.2) p.1) xs

theorem VReps.set {w : World} {I : Nat → Prop} {xs : List V} {vs : List Value} (h : VReps w I xs vs) (i : Nat) {x : V} {v : Value} (hx : VRep w I x v) : VReps w I (xs.set i x) (vs.set i v) := by
  refine ⟨by simp [h.1], fun j y u hy hu => ?_⟩
  rw [List.getElem?_set] at hy hu
  by_cases e : i = j
  · subst e
    rw [if_pos rfl] at hy hu
    split at hy
    · split at hu
      · cases hy; cases hu; exact hx
      · cases hu
    · cases hy
  · rw [if_neg e] at hy hu
    exact h.2 j y u hy hu

theorem reps_setCells {w : World} {I : Nat → Prop} (off : Nat) : ∀ (ys : List V) (us : List Value) (n : Nat) (xs : List V) (vs : List Value), VReps w I ys us → VReps w I xs vs →
    VReps w I ((ys.zipIdx n).foldl (fun cs p => cs.set (off + p.2) p.1) xs) ((us.zipIdx n).foldl (fun cs p => cs.set (off + p.2) p.1) vs)
  | [], us, n, xs, vs, h, h' => by rw [h.nil_inv]; exact h'
  | y :: ys, us, n, xs, vs, h, h' => by
    obtain ⟨u, us', rfl, hu, hus⟩ := h.cons_inv
    simp only [List.zipIdx_cons, List.foldl_cons]
    exact reps_setCells off ys us' (n + 1) _ _ hus (h'.set _ hu)

theorem foldl_set_toList (off : Nat) : ∀ (l : List (Value × Nat)) (cs : Array Value), (l.foldl (fun cs p => cs.setIfInBounds (off + p.2) p.1) cs).toList = l.foldl (fun cs p => cs.set (off + p.2) p.1) cs.toList
  | [], cs => rfl
  | p :: l, cs => by
    simp only [List.foldl_cons]
    rw [foldl_set_toList off l]
    simp [Array.toList_setIfInBounds]

theorem length_setCells (off : Nat) {α : Type} : ∀ (l : List (α × Nat)) (xs : List α), (l.foldl (fun cs p => cs.set (off + p.2) p.1) xs).length = xs.length
  | [], xs => rfl
  | p :: l, xs => by simp only [List.foldl_cons]; rw [length_setCells off l]; simp

theorem mem_setCells (off : Nat) {p : Value → Prop} : ∀ (l : List (Value × Nat)) (xs : List Value), (∀ x ∈ xs, p x) → (∀ x ∈ l, p x.1) → ∀ x ∈ l.foldl (fun cs p => cs.set (off + p.2) p.1) xs, p x
  | [], xs, h, _ => h
  | q :: l, xs, h, h' => by
    simp only [List.foldl_cons]
    refine mem_setCells off l _ (fun x hx => ?_) (fun x hx => h' x (by simp [hx]))
    rcases List.mem_or_eq_of_mem_set hx with h1 | h1
    · exact h x h1
    · rw [h1]; exact h' q (by simp)

/-- The parts of a struct's value. -/
inductive PartsOk (pl : List (Nat × Nat)) (ev : Operand → Option D) : List V → List (Nat × Operand) → Bool → List V → Prop
  | nil {xs : List V} : PartsOk pl ev xs [] true xs
  | v {xs r : List V} {i off z : Nat} {a : Operand} {as : List (Nat × Operand)} {f fl : Bool} {x : V} (h : ev a = some (.v f x)) (hp : pl[i]? = some (off, z)) (hpl : x.plain = true) (hz : (V.cells x).length = z) (hle : Nat.ble (off + z) xs.length = true)
      (t : PartsOk pl ev (setCells xs off (V.cells x)) as fl r) : PartsOk pl ev xs ((i, a) :: as) (f && fl) r
  | nils {xs r : List V} {i off : Nat} {a : Operand} {as : List (Nat × Operand)} {f fl : Bool} (z' : Nat) (h : ev a = some (.v f (.raw (.slice none 0 0)))) (hp : pl[i]? = some (off, 1)) (hle : Nat.ble (off + 1) xs.length = true)
      (t : PartsOk pl ev (setCells xs off [V.l z' []]) as fl r) : PartsOk pl ev xs ((i, a) :: as) (f && fl) r

def placesOf (P : Program) (t : TypeId) : Option (List (Nat × Nat)) :=
  match P.underlying t with
  | some (.struct fs) => fs.toList.mapM fun f => (P.info? f.type).map fun i => (f.offset, i.size)
  | _ => none

theorem run_places {P : Program} (w : World) : ∀ (fs : List Field) (pl : List (Nat × Nat)), (fs.mapM fun f => (P.info? f.type).map fun i => (f.offset, i.size)) = some pl →
    (fs.mapM fun f => (do pure (f.offset, ← Go.sizeOf f.type) : Sem (Nat × Nat))).run P w = .ok pl w
  | [], pl, h => by
    simp only [List.mapM_nil, Option.pure_def, Option.some.injEq] at h
    subst h
    rfl
  | f :: fs, pl, h => by
    simp only [List.mapM_cons, Option.bind_eq_bind, Option.pure_def] at h
    cases hi : P.info? f.type with
    | none => rw [hi] at h; simp at h
    | some i =>
      rw [hi] at h
      simp only [Option.map_some, Option.bind_some] at h
      cases hr : (fs.mapM fun f => (P.info? f.type).map fun i => (f.offset, i.size)) with
      | none => rw [hr] at h; simp at h
      | some r =>
        rw [hr] at h
        simp at h
        subst h
        have ih := run_places w fs r hr
        have hs : (Go.sizeOf f.type).run P w = .ok i.size w := by simp [Go.sizeOf, typeInfo, hi]
        simp only [List.mapM_cons, Sem.run_bind, Sem.run_pure, hs, Result.andThen_ok, ih]

class TPl (P : Program) (t : TypeId) (pl : outParam (List (Nat × Nat))) : Prop where h : placesOf P t = some pl

theorem fill_ok {w : World} {C : Ctx} {I : Nat → Prop} {ρ : Operand → Value} {pl : List (Nat × Nat)} {xs r : List V} {parts : List (Nat × Operand)} {fl : Bool} (h : PartsOk pl ev xs parts fl r)
    (hρ : ∀ x ∈ parts.map (·.2), ∀ d', ev x = some d' → DRep w I C.base d' (ρ x)) : ∀ (fl0 : Bool) (vs : List Value), VReps w (fresh fl0 I C.base) xs vs → (∀ v ∈ vs, v.oneCell' = true) →
    ∃ us : List Value, Instr.fill (pl.toArray[·]?) vs.toArray (parts.map fun p => (p.1, ρ p.2)) = some us.toArray ∧ VReps w (fresh (fl0 && fl) I C.base) r us ∧ ∀ v ∈ us, v.oneCell' = true := by
  induction h with
  | nil => intro fl0 vs hv h1; exact ⟨vs, by simp [Instr.fill], by simpa using hv, h1⟩
  | v h hp hpl hz hle t ih =>
    intro fl0 vs hv h1
    rename_i xs r i off z a as f fl x
    have hx := (hρ a (by simp) _ h).v_inv
    obtain ⟨hc, hc1⟩ := hx.cells hpl
    have hlen : (ρ a).cells.toList.length = z := by rw [← hc.1]; exact hz
    have hsz : (ρ a).cells.size = z := by simpa using hlen
    have hle' : off + z ≤ vs.length := by rw [← hv.1]; simpa using hle
    have hv' : VReps w (fresh (fl0 && f) I C.base) xs vs := hv.mono (fun _ _ => rfl) (fun b hb => ⟨hb.1, fun e => hb.2 (by simp at e; exact e.1)⟩)
    have hc' : VReps w (fresh (fl0 && f) I C.base) (V.cells x) (ρ a).cells.toList := hc.mono (fun _ _ => rfl) (fun b hb => ⟨hb.1, fun e => hb.2 (by simp at e; exact e.2)⟩)
    have h2 := reps_setCells off (V.cells x) (ρ a).cells.toList 0 xs vs hc' hv'
    obtain ⟨us, e1, e2, e3⟩ := ih (fun y hy => hρ y (by simp only [List.map_cons]; exact List.mem_cons_of_mem _ hy)) (fl0 && f) _ h2 (mem_setCells off _ _ h1 (fun p hp => hc1 _ (by have := List.mem_zipIdx' hp; rw [this.2]; exact List.getElem_mem _)))
    refine ⟨us, ?_, by rw [← Bool.and_assoc]; exact e2, e3⟩
    simp only [List.map_cons, Instr.fill]
    have hpl' : pl.toArray[i]? = some (off, z) := by simpa using hp
    simp only [hpl']
    rw [if_neg (by simp [hsz]; omega)]
    rw [← e1]
    congr 1
    apply Array.ext'
    rw [← Array.foldl_toList, foldl_set_toList, Array.toList_zipIdx]
  | nils z' h hp hle t ih =>
    intro fl0 vs hv h1
    rename_i xs r i off a as f fl
    have hx := ((hρ a (by simp) _ h).v_inv.raw_inv).1
    have hle' : off + 1 ≤ vs.length := by rw [← hv.1]; simpa using hle
    have hv' : VReps w (fresh (fl0 && f) I C.base) xs vs := hv.mono (fun _ _ => rfl) (fun b hb => ⟨hb.1, fun e => hb.2 (by simp at e; exact e.1)⟩)
    have hc' : VReps w (fresh (fl0 && f) I C.base) [V.l z' []] [ρ a] := .cons (by rw [hx]; exact .nil_slice _) .nil
    have h2 := reps_setCells off [V.l z' []] [ρ a] 0 xs vs hc' hv'
    obtain ⟨us, e1, e2, e3⟩ := ih (fun y hy => hρ y (by simp only [List.map_cons]; exact List.mem_cons_of_mem _ hy)) (fl0 && f) _ h2 (mem_setCells off _ _ h1 (fun p hp => by
      simp at hp; rw [hp, hx]; rfl))
    refine ⟨us, ?_, by rw [← Bool.and_assoc]; exact e2, e3⟩
    simp only [List.map_cons, Instr.fill]
    have hpl' : pl.toArray[i]? = some (off, 1) := by simpa using hp
    simp only [hpl', hx, Value.cells]
    rw [if_neg (by simp; omega)]
    rw [← e1, hx]
    congr 1
    apply Array.ext'
    rw [← Array.foldl_toList, foldl_set_toList, Array.toList_zipIdx]

def zeroV : Value → List V
  | .agg cs => cs.toList.map constV
  | v => [constV v]
def oneAll (v : Value) : Bool := v.cells.toList.all (·.oneCell')

theorem zeroV_reps {w : World} {I : Nat → Prop} {v : Value} (h : oneAll v = true) : VReps w I (zeroV v) v.cells.toList ∧ ∀ u ∈ v.cells.toList, u.oneCell' = true := by
  have h1 : ∀ u ∈ v.cells.toList, u.oneCell' = true := by
    intro u hu
    exact List.all_eq_true.1 h u hu
  refine ⟨?_, h1⟩
  have hz : zeroV v = v.cells.toList.map constV := by cases v <;> simp [zeroV, Value.cells]
  rw [hz]
  refine ⟨by simp, fun i x u hx hu => ?_⟩
  rw [List.getElem?_map, hu] at hx
  cases hx
  exact constV_rep (h1 u (List.mem_of_getElem? hu))

theorem q_build {pl : List (Nat × Nat)} {zv : Value} {parts : List (Nat × Operand)} {fl : Bool} {r : List V} [hpl : TPl P t pl] [hzv : TZero P t zv] (h1 : oneAll zv = true) (h : PartsOk pl ev (zeroV zv) parts fl r) :
    Quiet P hp ev ⟨dst, .build t parts.toArray, tt, pos, af, g⟩ (.v fl (.st r)) :=
  Quiet.of ⟨rfl, fun C I w ρ _ hρ => by
    obtain ⟨hz1, hz2⟩ := zeroV_reps (w := w) (I := fresh true I C.base) h1
    obtain ⟨us, e1, e2, e3⟩ := fill_ok h (C := C) (I := I) (ρ := ρ) (fun y hy => hρ y (by simpa [Op.operands] using hy)) true _ hz1 hz2
    have hp := hpl.h
    unfold placesOf at hp
    cases hun : P.underlying t with
    | none => rw [hun] at hp; cases hp
    | some dd =>
      rw [hun] at hp
      cases dd <;> try (cases hp; done)
      rename_i fs
      have hrp := run_places (P := P) w fs.toList pl hp
      have hmm : (fs.mapM fun f => (do pure (f.offset, ← Go.sizeOf f.type) : Sem (Nat × Nat))).run P w = .ok pl.toArray w := by
        rw [Array.mapM_eq_mapM_toList, Sem.run_map, hrp]
        rfl
      have hzz := hzv.h
      cases hi : P.info? t with
      | none => rw [hi] at hzz; cases hzz
      | some i =>
        rw [hi] at hzz
        simp only [Option.bind_some] at hzz
        have hf : Instr.fill (pl.toArray[·]?) zv.cells (parts.map fun p => (p.1, ρ p.2)) = some us.toArray := by simpa using e1
        simp only [execOp, Instr.build, zeroValue, typeInfo, Sem.run_bind, run_program, Sem.run_pure, Result.andThen_ok, hi, hzz, run_underlying hun, hmm, List.map_toArray, hf]
        exact ⟨rfl, .v _ _ _ (by simpa using VRep.st_of e2 e3)⟩⟩
end
end Bf
