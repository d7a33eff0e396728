/- The engine, part 6: calls of pure functions, and operations that lay or turn blocks of the call's own. No program is named here. -/
import Derived.Test.YteecgmkfbohpjaaE5
import Derived.Laws.MakeOwn
namespace Bf
open Go Go.RowKit

/-! #### Calls of pure functions -/
/-- The arguments of a call: data, or the call's own slices, lent ('own'). -/
inductive ArgsOk (hp : Nat → Option Blk) (ev : Operand → Option D) : List Operand → Bool → Bool → List V → Prop
  | nil : ArgsOk hp ev [] false true []
  | v {a : Operand} {as : List Operand} {f own fl : Bool} {x : V} {ds : List V} (h : ev a = some (.v f x)) (t : ArgsOk hp ev as own fl ds) : ArgsOk hp ev (a :: as) own (f && fl) (x :: ds)
  | z {a : Operand} {as : List Operand} {f own fl : Bool} {z : Nat} {ds : List V} (h : ev a = some (.v f (.raw (.slice none 0 0)))) (t : ArgsOk hp ev as own fl ds) : ArgsOk hp ev (a :: as) own (f && fl) (.l z [] :: ds)
  | o {a : Operand} {as : List Operand} {f own fl : Bool} {k len ty z : Nat} {xs : List V} {ds : List V} (h : ev a = some (.o k len)) (hk : hp k = some (.sl f ty z xs)) (hl : len = xs.length) (t : ArgsOk hp ev as own fl ds) :
      ArgsOk hp ev (a :: as) true fl (.l z xs :: ds)

theorem VRep.nil_slice {w : World} {I : Nat → Prop} (z : Nat) : VRep w I (.l z []) (.slice none 0 0) := by
  have := VRep.l (w := w) (I := I) z [] none 0 (Nat.le_refl _) (Nat.zero_le _) (fun _ => undef) 0 0 (fun h => by simp at h) (fun i x h => by simp at h) (fun i x h => by simp at h) (fun i j x u h => by simp at h)
  exact this

/-- A slice of the call's own reads as data, in its own block and the data's. -/
theorem own_reads {C : Ctx} {hp : Nat → Option Blk} {φ : Phi} {I : Nat → Prop} {w : World} (hw : WOk C hp φ I w) {k ty z : Nat} {f : Bool} {xs : List V} {u : Value} (hk : hp k = some (.sl f ty z xs)) (hu : DRep w I C.base φ (.o k xs.length) u) :
    VRep w (fun b => fresh f I C.base b ∨ ∃ c, φ k = some (b, c)) (.l z xs) u := by
  obtain ⟨u0, cells, h1, h2, h3, h4⟩ := hw.own k _ hk
  rcases hu.o_inv with ⟨hn, hl, rfl⟩ | ⟨b, c, hb, rfl⟩
  · have : xs = [] := List.eq_nil_of_length_eq_zero hl
    subst this
    exact .nil_slice z
  · rcases h1.o_inv with ⟨hn, _⟩ | ⟨b', c', hb', rfl⟩
    · rw [hb] at hn; cases hn
    · rw [hb] at hb'; cases hb'
      have hcap : xs.length ≤ c ∧ c ≤ maxLen := by
        rcases h2.2 with ⟨h, _⟩ | ⟨g, cap, cur, hv, _, _, h5, h6, _⟩
        · cases h
        · cases hv; exact ⟨h5, h6⟩
      have hval : ∀ i : Nat, ∃ u : Value, ∀ x, xs[i]? = some x → VRep w (fresh f I C.base) x u ∧ u.cells.size = z ∧ ∀ (j : Nat) v, u.cells[j]? = some v → w.cell? ⟨b, 0 + (i * z + j), none⟩ = some v := by
        intro i
        cases hx : xs[i]? with
        | none => exact ⟨undef, fun x h => by cases h⟩
        | some x =>
          obtain ⟨u, e1, e2, e3, e4⟩ := elem_cells hw hk hb hx
          exact ⟨u, fun x' h => by cases h; exact ⟨e1, e3, fun j v hv => by rw [Nat.zero_add]; exact e4 j v (by simpa using hv)⟩⟩
      refine .l z xs _ c hcap.1 hcap.2 (fun i => (hval i).choose) b 0 (fun _ => ⟨rfl, .inr ⟨c, hb⟩⟩) (fun i x hx => ?_) (fun i x hx => ((hval i).choose_spec x hx).2.1) (fun i j x v hx hv => ((hval i).choose_spec x hx).2.2 j v hv)
      exact ((hval i).choose_spec x hx).1.mono (fun _ _ => rfl) (fun _ hb => .inl hb)

theorem ArgsOk.reps {C : Ctx} {hp : Nat → Option Blk} {φ : Phi} {I : Nat → Prop} {w : World} {ρ : Operand → Value} {ev : Operand → Option D} {as : List Operand} {own fl : Bool} {ds : List V} (h : ArgsOk hp ev as own fl ds) (hw : WOk C hp φ I w)
    (hρ : ∀ x ∈ as, ∀ d', ev x = some d' → DRep w I C.base φ d' (ρ x)) : VReps w (fun b => b < w.heap.size) ds (as.map ρ) ∧ (own = false → VReps w (fresh fl I C.base) ds (as.map ρ)) := by
  induction h with
  | nil => exact ⟨.nil, fun _ => .nil⟩
  | v h t ih =>
    have h1 := (hρ _ (by simp) _ h).v_inv
    obtain ⟨h2, h3⟩ := ih (fun x hx => hρ x (by simp [hx]))
    refine ⟨.cons (h1.mono (fun _ _ => rfl) (fun b hb => hw.ilt b hb.1)) h2, fun e => .cons (h1.mono (fun _ _ => rfl) (fun b hb => ⟨hb.1, fun e => hb.2 ?_⟩)) ((h3 e).mono (fun _ _ => rfl) (fun b hb => ⟨hb.1, fun e => hb.2 ?_⟩))⟩
    · simp at e; exact e.1
    · simp at e; exact e.2
  | z h t ih =>
    have h1 := ((hρ _ (by simp) _ h).v_inv.raw_inv).1
    obtain ⟨h2, h3⟩ := ih (fun x hx => hρ x (by simp [hx]))
    refine ⟨.cons (by rw [h1]; exact .nil_slice _) h2, fun e => .cons (by rw [h1]; exact .nil_slice _) ((h3 e).mono (fun _ _ => rfl) (fun b hb => ⟨hb.1, fun e => hb.2 ?_⟩))⟩
    simp at e; exact e.2
  | o h hk hl t ih =>
    have h1 := hρ _ (by simp) _ h
    rw [hl] at h1
    obtain ⟨h2, _⟩ := ih (fun x hx => hρ x (by simp [hx]))
    refine ⟨.cons ((own_reads hw hk h1).mono (fun _ _ => rfl) (fun b hb => ?_)) h2, fun e => by cases e⟩
    rcases hb with hb | ⟨c, hc⟩
    · exact hw.ilt b hb.1
    · exact (hw.owned _ _ b c hk hc).1

section
variable {P : Program} {hp : Nat → Option Blk} {ev : Operand → Option D} {dst : Option Nat} {t tt ty : TypeId} {pos : String} {af : Array Edge} {g : Option (Nat × Bool)} {x y c : Operand} {d : D} {f f1 f2 : Bool}

theorem run_call_value {w : World} {fn : FuncId} (hf : TFn P fn) {as : List Operand} {ats : Array TypeId} {ρ : Operand → Value} {cs : List Value} (hx : ρ x = .func (.func fn) #[] cs.toArray) :
    (execOp ρ ⟨dst, .call { callee := .value x, args := as.toArray, argTypes := ats }, tt, pos, af, g⟩).run P w = .ok (.enter fn (as.map ρ ++ cs).toArray) w := by
  simp only [execOp, resolve, hx, Deferred.ofValue, Sem.run_bind, Sem.run_pure, Result.andThen_ok, invoke, List.map_toArray, List.append_toArray, List.nil_append]
  exact run_callFunc hf.h _ w

theorem q_call {fn : FuncId} {caps : List V} {as : List Operand} {ats : Array TypeId} {own fl : Bool} {ds : List V} {r : V} (hx : ev x = some (.v f (.c fn caps))) (ha : ArgsOk hp ev as own fl ds) (hf : TFn P fn) (hc : PureC P true fn (ds ++ caps) r) :
    Quiet P hp ev ⟨dst, .call { callee := .value x, args := as.toArray, argTypes := ats }, tt, pos, af, g⟩ (.v true r) :=
  Quiet.of ⟨rfl, fun C φ I w ρ hw hρ => by
    obtain ⟨cs, h1, h2⟩ := (hρ x (by simp [Op.operands, Call.operands]) _ hx).v_inv.c_inv
    rw [run_call_value hf h1]
    refine ⟨rfl, ?_⟩
    obtain ⟨h3, _⟩ := ha.reps hw (fun y hy => hρ y (by simp [Op.operands, Call.operands, hy]))
    refine (hc _ w (fun b => b < w.heap.size) (fun _ h => h) (h3.append (h2.mono (fun _ _ => rfl) (fun b hb => hw.ilt b hb.1)))).mono ?_
    rintro e w' ⟨v, rfl, hk, hv⟩
    refine ⟨v, rfl, hk, fun b => I b ∨ (w.heap.size ≤ b ∧ b < w'.heap.size), fun b hb => .inl hb, fun b hb => hb, .v _ _ _ (hv.mono (fun _ _ => rfl) ?_)⟩
    rintro b ⟨hb1, hb2 | ⟨hb2, _⟩⟩
    · exact ⟨.inr ⟨hb2, hb1⟩, fun _ => Nat.le_trans hw.size hb2⟩
    · cases hb2⟩

theorem q_calla {fn : FuncId} {caps : List V} {as : List Operand} {ats : Array TypeId} {fl : Bool} {ds : List V} {r : V} (hx : ev x = some (.v f (.c fn caps))) (ha : ArgsOk hp ev as false fl ds) (hf : TFn P fn) (hc : PureC P false fn (ds ++ caps) r) :
    Quiet P hp ev ⟨dst, .call { callee := .value x, args := as.toArray, argTypes := ats }, tt, pos, af, g⟩ (.v (f && fl) r) :=
  Quiet.of ⟨rfl, fun C φ I w ρ hw hρ => by
    obtain ⟨cs, h1, h2⟩ := (hρ x (by simp [Op.operands, Call.operands]) _ hx).v_inv.c_inv
    rw [run_call_value hf h1]
    refine ⟨rfl, ?_⟩
    obtain ⟨_, h3⟩ := ha.reps hw (fun y hy => hρ y (by simp [Op.operands, Call.operands, hy]))
    have h4 : VReps w (fresh (f && fl) I C.base) (ds ++ caps) (as.map ρ ++ cs) :=
      ((h3 rfl).mono (fun _ _ => rfl) (fun b hb => ⟨hb.1, fun e => hb.2 (by simp at e; exact e.2)⟩)).append (h2.mono (fun _ _ => rfl) (fun b hb => ⟨hb.1, fun e => hb.2 (by simp at e; exact e.1)⟩))
    refine (hc _ w (fresh (f && fl) I C.base) (fun b hb => hw.ilt b hb.1) h4).mono ?_
    rintro e w' ⟨v, rfl, hk, hv⟩
    refine ⟨v, rfl, hk, fun b => I b ∨ (w.heap.size ≤ b ∧ b < w'.heap.size), fun b hb => .inl hb, fun b hb => hb, .v _ _ _ (hv.mono (fun _ _ => rfl) ?_)⟩
    rintro b ⟨hb1, hb2 | ⟨_, hb2⟩⟩
    · exact ⟨.inr ⟨hb2, hb1⟩, fun _ => Nat.le_trans hw.size hb2⟩
    · exact ⟨.inl hb2.1, hb2.2⟩⟩

/-- What a closure captures. -/
inductive CapsOk (ev : Operand → Option D) : List Operand → Bool → List V → Prop
  | nil : CapsOk ev [] true []
  | v {a : Operand} {as : List Operand} {f fl : Bool} {x : V} {ds : List V} (h : ev a = some (.v f x)) (t : CapsOk ev as fl ds) : CapsOk ev (a :: as) (f && fl) (x :: ds)

theorem CapsOk.reps {C : Ctx} {φ : Phi} {I : Nat → Prop} {w : World} {ρ : Operand → Value} {as : List Operand} {fl : Bool} {ds : List V} (h : CapsOk ev as fl ds)
    (hρ : ∀ x ∈ as, ∀ d', ev x = some d' → DRep w I C.base φ d' (ρ x)) : VReps w (fresh fl I C.base) ds (as.map ρ) := by
  induction h with
  | nil => exact .nil
  | v h t ih =>
    have h1 := (hρ _ (by simp) _ h).v_inv
    have h3 := ih (fun x hx => hρ x (by simp [hx]))
    refine .cons (h1.mono (fun _ _ => rfl) (fun b hb => ⟨hb.1, fun e => hb.2 ?_⟩)) (h3.mono (fun _ _ => rfl) (fun b hb => ⟨hb.1, fun e => hb.2 ?_⟩))
    · simp at e; exact e.1
    · simp at e; exact e.2

theorem q_func {fn : FuncId} {as : List Operand} {fl : Bool} {ds : List V} (ha : CapsOk ev as fl ds) : Quiet P hp ev ⟨dst, .makeFunc (.func fn) #[] as.toArray, tt, pos, af, g⟩ (.v fl (.c fn ds)) :=
  Quiet.of ⟨rfl, fun C φ I w ρ _ hρ => by
    have h3 := ha.reps (fun y hy => hρ y (by simp [Op.operands, hy]))
    simp only [execOp, Instr.makeFunc, List.map_toArray, List.map_nil, Sem.run_bind, Sem.run_pure, Result.andThen_ok]
    exact ⟨rfl, .v _ _ _ (.c fn ds _ h3.1 h3.2)⟩⟩

/-! #### Values built of parts -/
def setCells (xs : List V) (off : Nat) (ys : List V) : List V := (ys.zipIdx).foldl (fun cs p => cs.set (off + p.2) p.1) xs

theorem VReps.set {w : World} {I : Nat → Prop} {xs : List V} {vs : List Value} (h : VReps w I xs vs) (i : Nat) {x : V} {v : Value} (hx : VRep w I x v) : VReps w I (xs.set i x) (vs.set i v) := by
  refine ⟨by simp [h.1], fun j y u hy hu => ?_⟩
  rw [List.getElem?_set] at hy hu
  by_cases e : i = j
  · subst e
    rw [if_pos rfl] at hy hu
    split at hy
    · split at hu
      · cases hy; cases hu; exact hx
      · cases hu
    · cases hy
  · rw [if_neg e] at hy hu
    exact h.2 j y u hy hu

theorem reps_setCells {w : World} {I : Nat → Prop} (off : Nat) : ∀ (ys : List V) (us : List Value) (n : Nat) (xs : List V) (vs : List Value), VReps w I ys us → VReps w I xs vs →
    VReps w I ((ys.zipIdx n).foldl (fun cs p => cs.set (off + p.2) p.1) xs) ((us.zipIdx n).foldl (fun cs p => cs.set (off + p.2) p.1) vs)
  | [], us, n, xs, vs, h, h' => by rw [h.nil_inv]; exact h'
  | y :: ys, us, n, xs, vs, h, h' => by
    obtain ⟨u, us', rfl, hu, hus⟩ := h.cons_inv
    simp only [List.zipIdx_cons, List.foldl_cons]
    exact reps_setCells off ys us' (n + 1) _ _ hus (h'.set _ hu)

theorem foldl_set_toList (off : Nat) : ∀ (l : List (Value × Nat)) (cs : Array Value), (l.foldl (fun cs p => cs.setIfInBounds (off + p.2) p.1) cs).toList = l.foldl (fun cs p => cs.set (off + p.2) p.1) cs.toList
  | [], cs => rfl
  | p :: l, cs => by
    simp only [List.foldl_cons]
    rw [foldl_set_toList off l]
    simp [Array.toList_setIfInBounds]

theorem length_setCells (off : Nat) {α : Type} : ∀ (l : List (α × Nat)) (xs : List α), (l.foldl (fun cs p => cs.set (off + p.2) p.1) xs).length = xs.length
  | [], xs => rfl
  | p :: l, xs => by simp only [List.foldl_cons]; rw [length_setCells off l]; simp

theorem mem_setCells (off : Nat) {p : Value → Prop} : ∀ (l : List (Value × Nat)) (xs : List Value), (∀ x ∈ xs, p x) → (∀ x ∈ l, p x.1) → ∀ x ∈ l.foldl (fun cs p => cs.set (off + p.2) p.1) xs, p x
  | [], xs, h, _ => h
  | q :: l, xs, h, h' => by
    simp only [List.foldl_cons]
    refine mem_setCells off l _ (fun x hx => ?_) (fun x hx => h' x (by simp [hx]))
    rcases List.mem_or_eq_of_mem_set hx with h1 | h1
    · exact h x h1
    · rw [h1]; exact h' q (by simp)

/-- The parts of a struct's value. -/
inductive PartsOk (pl : List (Nat × Nat)) (ev : Operand → Option D) : List V → List (Nat × Operand) → Bool → List V → Prop
  | nil {xs : List V} : PartsOk pl ev xs [] true xs
  | v {xs r : List V} {i off z : Nat} {a : Operand} {as : List (Nat × Operand)} {f fl : Bool} {x : V} (h : ev a = some (.v f x)) (hp : pl[i]? = some (off, z)) (hpl : x.plain = true) (hz : (V.cells x).length = z) (hle : Nat.ble (off + z) xs.length = true)
      (t : PartsOk pl ev (setCells xs off (V.cells x)) as fl r) : PartsOk pl ev xs ((i, a) :: as) (f && fl) r
  | nils {xs r : List V} {i off : Nat} {a : Operand} {as : List (Nat × Operand)} {f fl : Bool} (z' : Nat) (h : ev a = some (.v f (.raw (.slice none 0 0)))) (hp : pl[i]? = some (off, 1)) (hle : Nat.ble (off + 1) xs.length = true)
      (t : PartsOk pl ev (setCells xs off [V.l z' []]) as fl r) : PartsOk pl ev xs ((i, a) :: as) (f && fl) r

def placesOf (P : Program) (t : TypeId) : Option (List (Nat × Nat)) :=
  match P.underlying t with
  | some (.struct fs) => fs.toList.mapM fun f => (P.info? f.type).map fun i => (f.offset, i.size)
  | _ => none

theorem run_places {P : Program} (w : World) : ∀ (fs : List Field) (pl : List (Nat × Nat)), (fs.mapM fun f => (P.info? f.type).map fun i => (f.offset, i.size)) = some pl →
    (fs.mapM fun f => (do pure (f.offset, ← Go.sizeOf f.type) : Sem (Nat × Nat))).run P w = .ok pl w
  | [], pl, h => by
    simp only [List.mapM_nil, Option.pure_def, Option.some.injEq] at h
    subst h
    rfl
  | f :: fs, pl, h => by
    simp only [List.mapM_cons, Option.bind_eq_bind, Option.pure_def] at h
    cases hi : P.info? f.type with
    | none => rw [hi] at h; simp at h
    | some i =>
      rw [hi] at h
      simp only [Option.map_some, Option.bind_some] at h
      cases hr : (fs.mapM fun f => (P.info? f.type).map fun i => (f.offset, i.size)) with
      | none => rw [hr] at h; simp at h
      | some r =>
        rw [hr] at h
        simp at h
        subst h
        have ih := run_places w fs r hr
        have hs : (Go.sizeOf f.type).run P w = .ok i.size w := by simp [Go.sizeOf, typeInfo, hi]
        simp only [List.mapM_cons, Sem.run_bind, Sem.run_pure, hs, Result.andThen_ok, ih]

class TPl (P : Program) (t : TypeId) (pl : outParam (List (Nat × Nat))) : Prop where h : placesOf P t = some pl

theorem fill_ok {w : World} {C : Ctx} {φ : Phi} {I : Nat → Prop} {ρ : Operand → Value} {pl : List (Nat × Nat)} {xs r : List V} {parts : List (Nat × Operand)} {fl : Bool} (h : PartsOk pl ev xs parts fl r)
    (hρ : ∀ x ∈ parts.map (·.2), ∀ d', ev x = some d' → DRep w I C.base φ d' (ρ x)) : ∀ (fl0 : Bool) (vs : List Value), VReps w (fresh fl0 I C.base) xs vs → (∀ v ∈ vs, v.oneCell' = true) →
    ∃ us : List Value, Instr.fill (pl.toArray[·]?) vs.toArray (parts.map fun p => (p.1, ρ p.2)) = some us.toArray ∧ VReps w (fresh (fl0 && fl) I C.base) r us ∧ ∀ v ∈ us, v.oneCell' = true := by
  induction h with
  | nil => intro fl0 vs hv h1; exact ⟨vs, by simp [Instr.fill], by simpa using hv, h1⟩
  | v h hp hpl hz hle t ih =>
    intro fl0 vs hv h1
    rename_i xs r i off z a as f fl x
    have hx := (hρ a (by simp) _ h).v_inv
    obtain ⟨hc, hc1⟩ := hx.cells hpl
    have hlen : (ρ a).cells.toList.length = z := by rw [← hc.1]; exact hz
    have hsz : (ρ a).cells.size = z := by simpa using hlen
    have hle' : off + z ≤ vs.length := by rw [← hv.1]; simpa using hle
    have hv' : VReps w (fresh (fl0 && f) I C.base) xs vs := hv.mono (fun _ _ => rfl) (fun b hb => ⟨hb.1, fun e => hb.2 (by simp at e; exact e.1)⟩)
    have hc' : VReps w (fresh (fl0 && f) I C.base) (V.cells x) (ρ a).cells.toList := hc.mono (fun _ _ => rfl) (fun b hb => ⟨hb.1, fun e => hb.2 (by simp at e; exact e.2)⟩)
    have h2 := reps_setCells off (V.cells x) (ρ a).cells.toList 0 xs vs hc' hv'
    obtain ⟨us, e1, e2, e3⟩ := ih (fun y hy => hρ y (by simp only [List.map_cons]; exact List.mem_cons_of_mem _ hy)) (fl0 && f) _ h2 (mem_setCells off _ _ h1 (fun p hp => hc1 _ (by have := List.mem_zipIdx' hp; rw [this.2]; exact List.getElem_mem _)))
    refine ⟨us, ?_, by rw [← Bool.and_assoc]; exact e2, e3⟩
    simp only [List.map_cons, Instr.fill]
    have hpl' : pl.toArray[i]? = some (off, z) := by simpa using hp
    simp only [hpl']
    rw [if_neg (by simp [hsz]; omega)]
    rw [← e1]
    congr 1
    apply Array.ext'
    rw [← Array.foldl_toList, foldl_set_toList, Array.toList_zipIdx]
  | nils z' h hp hle t ih =>
    intro fl0 vs hv h1
    rename_i xs r i off a as f fl
    have hx := ((hρ a (by simp) _ h).v_inv.raw_inv).1
    have hle' : off + 1 ≤ vs.length := by rw [← hv.1]; simpa using hle
    have hv' : VReps w (fresh (fl0 && f) I C.base) xs vs := hv.mono (fun _ _ => rfl) (fun b hb => ⟨hb.1, fun e => hb.2 (by simp at e; exact e.1)⟩)
    have hc' : VReps w (fresh (fl0 && f) I C.base) [V.l z' []] [ρ a] := .cons (by rw [hx]; exact .nil_slice _) .nil
    have h2 := reps_setCells off [V.l z' []] [ρ a] 0 xs vs hc' hv'
    obtain ⟨us, e1, e2, e3⟩ := ih (fun y hy => hρ y (by simp only [List.map_cons]; exact List.mem_cons_of_mem _ hy)) (fl0 && f) _ h2 (mem_setCells off _ _ h1 (fun p hp => by
      simp at hp; rw [hp, hx]; rfl))
    refine ⟨us, ?_, by rw [← Bool.and_assoc]; exact e2, e3⟩
    simp only [List.map_cons, Instr.fill]
    have hpl' : pl.toArray[i]? = some (off, 1) := by simpa using hp
    simp only [hpl', hx, Value.cells]
    rw [if_neg (by simp; omega)]
    rw [← e1, hx]
    congr 1
    apply Array.ext'
    rw [← Array.foldl_toList, foldl_set_toList, Array.toList_zipIdx]

def zeroV : Value → List V
  | .agg cs => cs.toList.map constV
  | v => [constV v]
def oneAll (v : Value) : Bool := v.cells.toList.all (·.oneCell')

theorem zeroV_reps {w : World} {I : Nat → Prop} {v : Value} (h : oneAll v = true) : VReps w I (zeroV v) v.cells.toList ∧ ∀ u ∈ v.cells.toList, u.oneCell' = true := by
  have h1 : ∀ u ∈ v.cells.toList, u.oneCell' = true := by
    intro u hu
    exact List.all_eq_true.1 h u hu
  refine ⟨?_, h1⟩
  have hz : zeroV v = v.cells.toList.map constV := by cases v <;> simp [zeroV, Value.cells]
  rw [hz]
  refine ⟨by simp, fun i x u hx hu => ?_⟩
  rw [List.getElem?_map, hu] at hx
  cases hx
  exact constV_rep (h1 u (List.mem_of_getElem? hu))

theorem q_build {pl : List (Nat × Nat)} {zv : Value} {parts : List (Nat × Operand)} {fl : Bool} {r : List V} [hpl : TPl P t pl] [hzv : TZero P t zv] (h1 : oneAll zv = true) (h : PartsOk pl ev (zeroV zv) parts fl r) :
    Quiet P hp ev ⟨dst, .build t parts.toArray, tt, pos, af, g⟩ (.v fl (.st r)) :=
  Quiet.of ⟨rfl, fun C φ I w ρ _ hρ => by
    obtain ⟨hz1, hz2⟩ := zeroV_reps (w := w) (I := fresh true I C.base) h1
    obtain ⟨us, e1, e2, e3⟩ := fill_ok h (C := C) (φ := φ) (I := I) (ρ := ρ) (fun y hy => hρ y (by simpa [Op.operands] using hy)) true _ hz1 hz2
    have hp := hpl.h
    unfold placesOf at hp
    cases hun : P.underlying t with
    | none => rw [hun] at hp; cases hp
    | some dd =>
      rw [hun] at hp
      cases dd <;> try (cases hp; done)
      rename_i fs
      have hrp := run_places (P := P) w fs.toList pl hp
      have hmm : (fs.mapM fun f => (do pure (f.offset, ← Go.sizeOf f.type) : Sem (Nat × Nat))).run P w = .ok pl.toArray w := by
        rw [Array.mapM_eq_mapM_toList, Sem.run_map, hrp]
        rfl
      have hzz := hzv.h
      cases hi : P.info? t with
      | none => rw [hi] at hzz; cases hzz
      | some i =>
        rw [hi] at hzz
        simp only [Option.bind_some] at hzz
        have hf : Instr.fill (pl.toArray[·]?) zv.cells (parts.map fun p => (p.1, ρ p.2)) = some us.toArray := by simpa using e1
        simp only [execOp, Instr.build, zeroValue, typeInfo, Sem.run_bind, run_program, Sem.run_pure, Result.andThen_ok, hi, hzz, run_underlying hun, hmm, List.map_toArray, hf]
        exact ⟨rfl, .v _ _ _ (by simpa using VRep.st_of e2 e3)⟩⟩
end
end Bf
