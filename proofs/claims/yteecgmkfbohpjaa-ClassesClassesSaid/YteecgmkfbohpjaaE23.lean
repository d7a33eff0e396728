/- The engine, part 23: the frame: what an operation does not touch stays. No program is named here. -/
import Derived.Test.YteecgmkfbohpjaaE16
namespace Bf
open Go Go.RowKit

mutual
/-- Does it mention a key of 'F'? -/
def D.anyK (F : Nat → Bool) : D → Bool
  | .p j _ => F j
  | .pe j _ _ _ => F j
  | .o j _ => F j
  | .m j => F j
  | .st xs => D.anyKs F xs
  | .v _ _ => false
def D.anyKs (F : Nat → Bool) : List D → Bool
  | [] => false
  | x :: xs => x.anyK F || D.anyKs F xs
end
def Blk.anyK (F : Nat → Bool) : Blk → Bool
  | .cells _ xs => D.anyKs F xs
  | _ => false

mutual
theorem D.anyK_ment {F : Nat → Bool} : ∀ {d : D} {j : Nat}, d.anyK F = false → d.ment j = true → F j = false
  | .p i _, j, h, hm => by simp [D.anyK, D.ment] at h hm; subst hm; exact h
  | .pe i _ _ _, j, h, hm => by simp [D.anyK, D.ment] at h hm; subst hm; exact h
  | .o i _, j, h, hm => by simp [D.anyK, D.ment] at h hm; subst hm; exact h
  | .m i, j, h, hm => by simp [D.anyK, D.ment] at h hm; subst hm; exact h
  | .st xs, j, h, hm => D.anyKs_ment (xs := xs) (by simpa [D.anyK] using h) (by simpa [D.ment] using hm)
  | .v _ _, j, h, hm => by simp [D.ment] at hm
theorem D.anyKs_ment {F : Nat → Bool} : ∀ {xs : List D} {j : Nat}, D.anyKs F xs = false → D.mentL j xs = true → F j = false
  | [], j, h, hm => by simp [D.mentL] at hm
  | x :: xs, j, h, hm => by
    simp only [D.anyKs, Bool.or_eq_false_iff] at h
    simp only [D.mentL, Bool.or_eq_true] at hm
    rcases hm with hm | hm
    · exact D.anyK_ment h.1 hm
    · exact D.anyKs_ment h.2 hm
end
theorem Blk.anyK_ment {F : Nat → Bool} {b : Blk} {j : Nat} (h : b.anyK F = false) (hm : b.ment j = true) : F j = false := by
  cases b <;> simp only [Blk.anyK, Blk.ment] at h hm <;> first | exact D.anyKs_ment h hm | cases hm

/-- Its keys are all of 'F'. -/
def D.onlyK (F : Nat → Bool) (d : D) : Bool := !d.anyK (fun j => !F j)
def Blk.onlyK (F : Nat → Bool) (b : Blk) : Bool := !b.anyK (fun j => !F j)
theorem D.onlyK_ment {F : Nat → Bool} {d : D} {j : Nat} (h : d.onlyK F = true) (hm : d.ment j = true) : F j = true := by
  have := D.anyK_ment (F := fun j => !F j) (by simpa [D.onlyK] using h) hm
  simpa using this
theorem Blk.onlyK_ment {F : Nat → Bool} {d : Blk} {j : Nat} (h : d.onlyK F = true) (hm : d.ment j = true) : F j = true := by
  have := Blk.anyK_ment (F := fun j => !F j) (by simpa [Blk.onlyK] using h) hm
  simpa using this

/-- The keys of 'F' are hidden. -/
def St.hide (F : Nat → Bool) (σ : St) : St :=
  { σ with fr := fun s => match σ.fr s with | some d => bif d.anyK F then none else some d | none => none
           hp := fun k => bif F k then none else match σ.hp k with | some b => bif b.anyK F then none else some b | none => none }
/-- What was hidden is there again. -/
def St.back (F : Nat → Bool) (σ : St) (dst : Option Nat) (σ' : St) : St :=
  { σ' with fr := fun s => match σ'.fr s with | some d => some d | none => match σ.fr s with | some d => bif d.onlyK F && !(dst == some s) then some d else none | none => none
            hp := fun k => bif F k then (match σ.hp k with | some b => bif b.onlyK F then some b else none | none => none) else σ'.hp k }
structure St.clean (F : Nat → Bool) (σ : St) : Prop where
  fr : ∀ s d, σ.fr s = some d → d.anyK F = false
  hp : ∀ k b, σ.hp k = some b → F k = false ∧ b.anyK F = false

theorem hide_le (F : Nat → Bool) (σ : St) : (σ.hide F).le σ where
  fr := fun s d h => by
    simp only [St.hide] at h
    cases hs : σ.fr s with
    | none => rw [hs] at h; cases h
    | some x => rw [hs] at h; cases hx : x.anyK F <;> simp [hx] at h; subst h; rfl
  hp := fun k b h => by
    simp only [St.hide] at h
    cases hF : F k with
    | true => simp [hF] at h
    | false =>
      simp only [hF, cond_false] at h
      cases hs : σ.hp k with
      | none => rw [hs] at h; cases h
      | some x => rw [hs] at h; cases hx : x.anyK F <;> simp [hx] at h; subst h; rfl
  df := rfl
  gh := rfl
theorem hide_hp {F : Nat → Bool} {σ : St} {k : Nat} {b : Blk} (h : (σ.hide F).hp k = some b) : F k = false := by
  simp only [St.hide] at h
  cases hF : F k with
  | true => simp [hF] at h
  | false => rfl

theorem back_fr {F : Nat → Bool} {σ σ' : St} {dst : Option Nat} {s : Nat} {d : D} (h : (σ.back F dst σ').fr s = some d) : σ'.fr s = some d ∨ (σ.fr s = some d ∧ d.onlyK F = true ∧ dst ≠ some s) := by
  simp only [St.back] at h
  cases h1 : σ'.fr s with
  | some x => rw [h1] at h; exact .inl h
  | none =>
    rw [h1] at h
    simp only at h
    cases h2 : σ.fr s with
    | none => rw [h2] at h; cases h
    | some x =>
      rw [h2] at h
      simp only at h
      cases hc : (x.onlyK F && !(dst == some s)) with
      | false => rw [hc] at h; cases h
      | true =>
        rw [hc] at h
        cases h
        simp only [Bool.and_eq_true, Bool.not_eq_true', beq_eq_false_iff_ne] at hc
        exact .inr ⟨rfl, hc.1, hc.2⟩
theorem back_hp {F : Nat → Bool} {σ σ' : St} {dst : Option Nat} {k : Nat} {b : Blk} (h : (σ.back F dst σ').hp k = some b) : (F k = false ∧ σ'.hp k = some b) ∨ (F k = true ∧ σ.hp k = some b ∧ b.onlyK F = true) := by
  simp only [St.back] at h
  cases hF : F k with
  | false => simp [hF] at h; exact .inl ⟨rfl, h⟩
  | true =>
    simp only [hF, cond_true] at h
    cases h2 : σ.hp k with
    | none => rw [h2] at h; cases h
    | some x =>
      rw [h2] at h
      cases hx : x.onlyK F <;> simp [hx] at h
      subst h
      exact .inr ⟨rfl, rfl, hx⟩

section
variable {C : Ctx} {σ σ' : St} {φ φ' : Phi} {I I' : Nat → Prop} {a a' : Act} {w w' : World} {F : Nat → Bool}

/-- The context in which the hidden part is kept. -/
def Ctx.under (C : Ctx) (F : Nat → Bool) (σ : St) (φ : Phi) (I : Nat → Prop) (w : World) : Ctx := C.anew C.N I (σ.hide F).hp φ w

theorem Holds.under (h : Holds C σ φ I a w) (F : Nat → Bool) : Holds (C.under F σ φ I w) (σ.hide F) φ I a w := by
  have h1 := h.le (hide_le F σ)
  exact h1.moved (Chg.refl (M := fun _ => False) w) (fun _ hb => hb.elim) C.N (fun _ hb => hb) (fun b hb => ⟨h.wok.ilt b hb, h1.not_owned hb⟩) h.sz rfl h1.df h1.fr

/-- The keys' places behind it. -/
def phiBack (F : Nat → Bool) (φ φ' : Phi) : Phi := fun k => bif F k then φ k else φ' k
theorem phiBack_t {k : Nat} (h : F k = true) : phiBack F φ φ' k = φ k := by simp [phiBack, h]
theorem phiBack_f {k : Nat} (h : F k = false) : phiBack F φ φ' k = φ' k := by simp [phiBack, h]

theorem WOk.back (h : Holds C σ φ I a w) (h' : WOk (C.under F σ φ I w) σ'.hp φ' I' w') (hc : ∀ k b, σ'.hp k = some b → F k = false ∧ b.anyK F = false) (dst : Option Nat) : WOk C (σ.back F dst σ').hp (phiBack F φ φ') I' w' ∧
    (∀ b, I b → w'.heap[b]? = w.heap[b]?) ∧ (∀ b, I b → I' b) := by
  have hu := (Holds.under h F).wok
  have hKI : ∀ b, I b → (C.under F σ φ I w).K b := fun b hb => ⟨h.wok.ilt b hb, (h.le (hide_le F σ)).not_owned hb⟩
  have hKF : ∀ k blk b c, F k = true → σ.hp k = some blk → φ k = some (b, c) → (C.under F σ φ I w).K b := fun k blk b c hF hk he => by
    refine ⟨(h.wok.owned k blk b c hk he).1, fun ⟨k', blk', c', h1, h2⟩ => ?_⟩
    have := h.wok.inj k k' blk blk' b c c' hk ((hide_le F σ).hp _ _ h1) he h2
    subst this
    rw [hide_hp h1] at hF; cases hF
  have hKC : ∀ b, C.K b → (C.under F σ φ I w).K b := fun b hb => ⟨h.wok.ksz b hb, fun ho => ((h.le (hide_le F σ)).owned_lt ho).2.2 hb⟩
  have hold : ∀ b, (C.under F σ φ I w).K b → w'.heap[b]? = w.heap[b]? := fun b hb => h'.old b hb
  have hI' : ∀ b, I b → I' b := fun b hb => h'.i0 b hb
  refine ⟨⟨h'.os.trans h.wok.os, h'.tape.trans h.wok.tape, h'.output.trans h.wok.output, h'.size, Nat.le_trans h.wok.wsz h'.wsz, fun b hb => Nat.lt_of_lt_of_le (h.wok.ksz b hb) h'.wsz,
    fun b hb => (hold b (hKC b hb)).trans (h.wok.old b hb), h'.ilt, fun b hb => hI' b (h.wok.i0 b hb), fun b hb => ?_, fun k blk hk => ?_, fun k k' blk blk' b c c' h1 h2 e1 e2 => ?_, fun k blk b c hk he => ?_⟩, fun b hb => hold b (hKI b hb), hI'⟩
  · rcases h'.inew b hb with h1 | h1
    · exact h.wok.inew b h1
    · exact .inr fun hK => h1 (hKC b hK)
  · rcases back_hp hk with ⟨hF, hk'⟩ | ⟨hF, hk', ho⟩
    · exact (h'.own k blk hk').mono (fun _ _ => rfl) (fun _ hb => hb) (phiBack_f hF) (fun j hj => phiBack_f (Blk.anyK_ment (hc k blk hk').2 hj)) (fun _ _ _ => rfl)
    · exact (h.wok.own k blk hk').mono (fun b hb => hold b (hKI b hb)) hI' (phiBack_t hF) (fun j hj => phiBack_t (Blk.onlyK_ment ho hj)) (fun b c he => hold b (hKF k blk b c hF hk' he))
  · rcases back_hp h1 with ⟨hF, hk⟩ | ⟨hF, hk, ho⟩ <;> rcases back_hp h2 with ⟨hF', hk'⟩ | ⟨hF', hk', ho'⟩
    · rw [phiBack_f hF] at e1; rw [phiBack_f hF'] at e2; exact h'.inj k k' blk blk' b c c' hk hk' e1 e2
    · rw [phiBack_f hF] at e1; rw [phiBack_t hF'] at e2
      exact absurd (hKF k' blk' b c' hF' hk' e2) (h'.owned k blk b c hk e1).2.2
    · rw [phiBack_t hF] at e1; rw [phiBack_f hF'] at e2
      exact absurd (hKF k blk b c hF hk e1) (h'.owned k' blk' b c' hk' e2).2.2
    · rw [phiBack_t hF] at e1; rw [phiBack_t hF'] at e2; exact h.wok.inj k k' blk blk' b c c' hk hk' e1 e2
  · rcases back_hp hk with ⟨hF, hk'⟩ | ⟨hF, hk', ho⟩
    · rw [phiBack_f hF] at he
      obtain ⟨g1, g2, g3⟩ := h'.owned k blk b c hk' he
      exact ⟨g1, g2, fun hK => g3 (hKC b hK)⟩
    · rw [phiBack_t hF] at he
      obtain ⟨g1, g2, g3⟩ := h.wok.owned k blk b c hk' he
      refine ⟨Nat.lt_of_lt_of_le g1 h'.wsz, fun hb => ?_, g3⟩
      rcases h'.inew b hb with h1 | h1
      · exact g2 h1
      · exact h1 (hKF k blk b c hF hk' he)

theorem Holds.unframe (h : Holds C σ φ I a w) {dst : Option Nat} (h' : Holds (C.under F σ φ I w) σ' φ' I' a' w') (hc : σ'.clean F) (hk : ∀ s, dst ≠ some s → a'.tmps.getD s undef = a.tmps.getD s undef) : Holds C (σ.back F dst σ') (phiBack F φ φ') I' a' w' := by
  obtain ⟨h1, h2, h3⟩ := WOk.back h h'.wok hc.hp dst
  refine ⟨h'.df, h'.sz, h1, fun s d hs => ?_⟩
  rcases back_fr hs with hs' | ⟨hs', ho, hd⟩
  · exact (h'.fr s d hs').mono (fun _ _ => rfl) (fun _ hb => hb) (fun j hj => phiBack_f (D.anyK_ment (hc.fr s d hs') hj))
  · rw [hk s hd]
    exact (h.fr s d hs').mono h2 h3 (fun j hj => phiBack_t (D.onlyK_ment ho hj))
end

/-- The frame rule. -/
theorem Effect.frame {P : Program} {N : Rm} {o : Oper} {σ σ' : St} (F : Nat → Bool) (h : Effect P N o (σ.hide F) σ') (hc : σ'.clean F) : Effect P N o σ (σ.back F o.dst σ') := by
  refine ⟨h.1, h.2.1, fun C hCN φ I a w hh => ?_⟩
  have hu := Holds.under hh F
  have hr := h.2.2 (C.under F σ φ I w) hCN φ I a w hu
  have hput : ∀ (v : Value) s, o.dst ≠ some s → (a.put o.dst v).tmps.getD s undef = a.tmps.getD s undef := fun v s hs => by
    cases ho : o.dst with
    | none => rfl
    | some t => exact Act.getD_put_other _ _ _ _ (fun e => hs (by rw [ho, e]))
  generalize (execOp a.eval o).run P w = r at hr ⊢
  cases r with
  | halt x w' => exact hr
  | ok n w' =>
    cases n <;> try exact hr
    case value v => obtain ⟨φ', I', h'⟩ := hr; exact ⟨_, I', Holds.unframe hh h' hc (hput v)⟩
    case skip => obtain ⟨φ', I', h'⟩ := hr; exact ⟨_, I', Holds.unframe hh h' hc (hput undef)⟩

theorem Quiet.mono {P : Program} {hp hp' : Nat → Option Blk} {ev ev' : Operand → Option D} {o : Oper} {d : D} (h : Quiet P hp ev o d) (hh : ∀ k b, hp k = some b → hp' k = some b) (he : ∀ x d', ev x = some d' → ev' x = some d') : Quiet P hp' ev' o d :=
  ⟨h.1, fun C φ I w ρ hw hρ => h.2 C φ I w ρ { hw with
    own := fun k blk hb => hw.own k blk (hh k blk hb)
    inj := fun k k' blk blk' b c c' h1 h2 => hw.inj k k' blk blk' b c c' (hh _ _ h1) (hh _ _ h2)
    owned := fun k blk b c hb => hw.owned k blk b c (hh _ _ hb) } fun x hx d' hd => hρ x hx d' (he x d' hd)⟩
end Bf
