/- The engine, part 11: steps on what is said of a state, the rules of control, loops, and a function's contract out of its body. No program is named here. -/
import Derived.Test.YteecgmkfbohpjaaE10
namespace Bf
open Go Go.RowKit

section
variable {X : Cx} {C : Ctx} {σ : St} {d : D} {f : Bool}

theorem shift_le {σ' : St} (h : σ'.le σ) : Shift X σ σ' := ⟨h.gh, fun _ φ I _ _ _ hh => ⟨φ, I, hh.le h⟩⟩

theorem Holds.reput {φ : Phi} {I : Nat → Prop} {a : Act} {w : World} (h : Holds C σ φ I a w) {s : Nat} {d' : D} (hd : DRep w I C.base φ d' (a.tmps.getD s undef)) : Holds C (σ.put (some s) d') φ I a w :=
  ⟨h.df, h.sz, h.wok, fun j x hj => by
    rcases upd_some hj with ⟨rfl, rfl⟩ | ⟨_, hj'⟩
    · exact hd
    · exact h.fr j x hj'⟩

/-- A slot's datum, said otherwise. -/
theorem shift_re {s : Nat} {d' : D} (hs : σ.fr s = some d) (hd : ∀ (w : World) (I : Nat → Prop) (base : Nat) (φ : Phi) (v : Value), DRep w I base φ d v → DRep w I base φ d' v) : Shift X σ (σ.put (some s) d') :=
  ⟨rfl, fun _ φ I _ _ _ hh => ⟨φ, I, hh.reput (hd _ _ _ _ _ (hh.fr s d hs))⟩⟩
theorem shift_as {s : Nat} {d' : D} (hs : σ.fr s = some d) (hd : d = d') : Shift X σ (σ.put (some s) d') := shift_re hs fun _ _ _ _ _ h => hd ▸ h
theorem shift_old {s : Nat} {x : V} (hs : σ.fr s = some (.v f x)) : Shift X σ (σ.put (some s) (.v false x)) :=
  shift_re hs fun _ _ _ _ _ h => .v _ _ _ (h.v_inv.mono (fun _ _ => rfl) (fun _ hb => ⟨hb.1, fun e => by cases e⟩))
theorem shift_flat {s : Nat} {x : V} (hs : σ.fr s = some (.v f x)) (hx : Flat x) : Shift X σ (σ.put (some s) (.v true x)) :=
  shift_re hs fun w _ _ _ _ h => .v _ _ _ (hx w _ _ w _ h.v_inv)
theorem shift_nil0 {s : Nat} (z : Nat) (hs : σ.fr s = some (.v f (.raw (.slice none 0 0)))) : Shift X σ (σ.put (some s) (.v true (.l z []))) :=
  shift_re hs fun _ _ _ _ _ h => .v _ _ _ (by rw [h.v_inv.raw_inv.1]; exact .nil_slice z)

/-- A nil slice becomes the call's own. -/
theorem shift_own (s key ty z : Nat) (hs : σ.fr s = some (.v f (.raw (.slice none 0 0)))) : Shift X σ (σ.lay key (.sl true ty z []) (some s) (.o key 0)) :=
  ⟨rfl, fun C φ I a w _ h => by
    have h1 := (h.fr s _ hs).v_inv.raw_inv.1
    have h2 := h.chg (w' := w) key (.sl true ty z []) none rfl rfl rfl (Nat.le_refl _) (fun _ _ _ => rfl) (fun b c e => by cases e)
      ⟨.slice none 0 0, [], .onil _ (phiSet_same _ _ _), World.ownsRow_nil w 0 ty z, by simp, .nil z⟩
    exact ⟨_, I, h2.reput (by rw [h1]; exact .onil _ (phiSet_same _ _ _))⟩⟩

/-- A box or an array of the call's own, whose cells are data, turns no more. -/
theorem shift_freeze (s : Nat) {k ty : Nat} {cs : List D} {xs : List V} {fl : Bool} (hO : X.clean σ.gh) (hs : σ.fr s = some (.p k 0)) (hk : σ.hp k = some (.cells ty cs)) (hj : D.joinV cs = some (fl, xs)) :
    Shift X σ (({ σ with fr := dropF k σ.fr, hp := dropH k σ.hp } : St).put (some s) (.v fl (.q xs))) :=
  ⟨rfl, fun C φ I a w hC h => by
    obtain ⟨b, c, h1, h2⟩ := (h.fr s _ hs).p_inv
    obtain ⟨b', c', vs, h3, h4, h5, h6, h7⟩ := h.wok.own k _ hk
    rw [h1] at h3; cases h3
    obtain ⟨g1, g2, g3⟩ := h.wok.owned k _ b c hk h1
    have hbs : C.base ≤ b := hO C hC b g3
    have hr := joinV_rep hj h5 h7
    refine ⟨φ, fun b' => I b' ∨ b' = b, Holds.reput (σ := { σ with fr := dropF k σ.fr, hp := dropH k σ.hp }) ⟨h.df, h.sz, ?_, fun s d hs => ?_⟩ ?_⟩
    · refine ⟨h.wok.os, h.wok.tape, h.wok.output, h.wok.size, h.wok.wsz, h.wok.ksz, h.wok.old, fun b' hb' => ?_, fun b' hb' => .inl (h.wok.i0 b' hb'), fun b' hb' => ?_, fun j blk hj => ?_, fun j j' b1 b2 b3 c1 c2 e1 e2 => ?_, fun j blk b1 c1 hj he => ?_⟩
      · rcases hb' with hb' | rfl
        · exact h.wok.ilt b' hb'
        · exact g1
      · rcases hb' with hb' | rfl
        · exact h.wok.inew b' hb'
        · exact .inr g3
      · obtain ⟨_, e1, e2⟩ := dropH_some hj
        exact (h.wok.own j blk e1).mono (fun _ _ => rfl) (fun _ hb => .inl hb) rfl (fun _ _ => rfl) (fun _ _ _ => rfl)
      · exact h.wok.inj j j' b1 b2 b3 c1 c2 (dropH_some e1).2.1 (dropH_some e2).2.1
      · obtain ⟨e0, e1, _⟩ := dropH_some hj
        obtain ⟨q1, q2, q3⟩ := h.wok.owned j blk b1 c1 e1 he
        refine ⟨q1, fun hx => ?_, q3⟩
        rcases hx with hx | rfl
        · exact q2 hx
        · exact e0 (h.wok.inj j k blk _ _ _ _ e1 hk he h1)
    · obtain ⟨e1, _⟩ := dropF_some hs
      exact (h.fr s d e1).mono (fun _ _ => rfl) (fun _ hb => .inl hb) (fun _ _ => rfl)
    · rw [h2]
      refine .v _ _ _ ?_
      have hr' : VReps w (fresh fl (fun b' => I b' ∨ b' = b) C.base) xs vs := hr.mono (fun _ _ => rfl) (fun _ hb => ⟨.inl hb.1, hb.2⟩)
      exact .q xs vs b 0 hr'.1 h6 ⟨.inr rfl, fun _ => hbs⟩ hr'.2 (fun j u hu => by rw [Nat.zero_add, cell_of_cells h4]; exact hu)⟩

/-- A slice of the call's own turns no more. -/
theorem shift_freezes (s : Nat) {k n ty z : Nat} {xs : List V} (hO : X.clean σ.gh) (hs : σ.fr s = some (.o k n)) (hk : σ.hp k = some (.sl f ty z xs)) (hn : n = xs.length) :
    Shift X σ (({ σ with fr := dropF k σ.fr, hp := dropH k σ.hp } : St).put (some s) (.v f (.l z xs))) :=
  ⟨rfl, fun C φ I a w hC h => by
    subst hn
    have hread := own_reads h.wok hk (h.fr s _ hs)
    have hb3 : ∀ b c, φ k = some (b, c) → b < w.heap.size ∧ ¬ C.K b ∧ C.base ≤ b := fun b c hc => by
      obtain ⟨g1, g2, g3⟩ := h.wok.owned k _ b c hk hc
      exact ⟨g1, g3, hO C hC b g3⟩
    refine ⟨φ, fun b' => I b' ∨ ∃ c, φ k = some (b', c), Holds.reput (σ := { σ with fr := dropF k σ.fr, hp := dropH k σ.hp }) ⟨h.df, h.sz, ?_, fun s d hs => ?_⟩ ?_⟩
    · refine ⟨h.wok.os, h.wok.tape, h.wok.output, h.wok.size, h.wok.wsz, h.wok.ksz, h.wok.old, fun b' hb' => ?_, fun b' hb' => .inl (h.wok.i0 b' hb'), fun b' hb' => ?_, fun j blk hj => ?_, fun j j' b1 b2 b3 c1 c2 e1 e2 => ?_, fun j blk b1 c1 hj he => ?_⟩
      · rcases hb' with hb' | ⟨c, hc⟩
        · exact h.wok.ilt b' hb'
        · exact (hb3 b' c hc).1
      · rcases hb' with hb' | ⟨c, hc⟩
        · exact h.wok.inew b' hb'
        · exact .inr (hb3 b' c hc).2.1
      · obtain ⟨_, e1, e2⟩ := dropH_some hj
        exact (h.wok.own j blk e1).mono (fun _ _ => rfl) (fun _ hb => .inl hb) rfl (fun _ _ => rfl) (fun _ _ _ => rfl)
      · exact h.wok.inj j j' b1 b2 b3 c1 c2 (dropH_some e1).2.1 (dropH_some e2).2.1
      · obtain ⟨e0, e1, _⟩ := dropH_some hj
        obtain ⟨q1, q2, q3⟩ := h.wok.owned j blk b1 c1 e1 he
        refine ⟨q1, fun hx => ?_, q3⟩
        rcases hx with hx | ⟨c, hc⟩
        · exact q2 hx
        · exact e0 (h.wok.inj j k blk _ _ _ _ e1 hk he hc)
    · obtain ⟨e1, _⟩ := dropF_some hs
      exact (h.fr s d e1).mono (fun _ _ => rfl) (fun _ hb => .inl hb) (fun _ _ => rfl)
    · refine .v _ _ _ (hread.mono (fun _ _ => rfl) (fun b hb => ?_))
      rcases hb with hb | ⟨c, hc⟩
      · exact ⟨.inl hb.1, hb.2⟩
      · exact ⟨.inr ⟨c, hc⟩, fun _ => (hb3 b c hc).2.2⟩⟩

end

/-! ### Control -/
def thenQ (R : St → Prop) (Q : Exit → St → Prop) : Exit → St → Prop
  | .normal, σ => R σ
  | e, σ => Q e σ
def blockQ (id : Nat) (Q : Exit → St → Prop) : Exit → St → Prop
  | .exit id', σ => if id' = id then Q .normal σ else Q (.exit id') σ
  | e, σ => Q e σ

section
variable {X : Cx} {rd : Option Nat} {P : Program} {σ : St} {Q : Exit → St → Prop}

theorem ev_mono {c : Code} {Q' : Exit → St → Prop} (h : Ev X rd P c σ Q) (hq : ∀ e σ, Q e σ → Q' e σ) : Ev X rd P c σ Q' :=
  fun C φ I a w hC hh => wpIn_mono (h C φ I a w hC hh) fun _ _ _ ⟨C', σ', φ', I', hC', h1, h2⟩ => ⟨C', σ', φ', I', hC', hq _ _ h1, h2⟩

theorem ev_seq {x y : Code} (h : Ev X rd P x σ (thenQ (fun σ' => Ev X rd P y σ' Q) Q)) : Ev X rd P (.seq x y) σ Q :=
  fun C φ I a w hC hh => wpIn_seq (wpIn_mono (h C φ I a w hC hh) fun e a' w' ⟨C', σ', φ', I', hC', h1, h2⟩ => by
    cases e <;> first | exact h1 C' φ' I' a' w' hC' h2 | exact ⟨C', σ', φ', I', hC', h1, h2⟩)

theorem ev_cond {c : Operand} {x y : Code} {p f : Bool} (hc : σ.ev c = some (.v f (.b p))) (ht : p = true → Ev X rd P x σ Q) (hf : p = false → Ev X rd P y σ Q) : Ev X rd P (.cond c x y) σ Q :=
  fun C φ I a w hC hh => wpIn_cond_split (hh.ev hc).b_inv (fun e => ht e C φ I a w hC hh) (fun e => hf e C φ I a w hC hh)

theorem ev_block {id : Nat} {c : Code} (h : Ev X rd P c σ (blockQ id Q)) : Ev X rd P (.block id c) σ Q :=
  fun C φ I a w hC hh => wpIn_block (wpIn_mono (h C φ I a w hC hh) fun e a' w' ⟨C', σ', φ', I', hC', h1, h2⟩ => by
    cases e with
    | exit id' =>
      simp only [blockQ] at h1
      simp only [Exit.inBlock]
      split <;> rename_i he
      · rw [if_pos he] at h1; exact ⟨C', σ', φ', I', hC', h1, h2⟩
      · rw [if_neg he] at h1; exact ⟨C', σ', φ', I', hC', h1, h2⟩
    | _ => exact ⟨C', σ', φ', I', hC', h1, h2⟩)

theorem ev_skip (h : Q .normal σ) : Ev X rd P .skip σ Q := fun C φ I _ _ hC hh => wpIn_skip ⟨C, σ, φ, I, hC, h, hh⟩
theorem ev_label {l : Nat} (h : Q .normal σ) : Ev X rd P (.label l) σ Q := fun C φ I _ _ hC hh => wpIn_label ⟨C, σ, φ, I, hC, h, hh⟩
theorem ev_exit {id : Nat} (h : Q (.exit id) σ) : Ev X rd P (.exit id) σ Q := fun C φ I _ _ hC hh => wpIn_exit ⟨C, σ, φ, I, hC, h, hh⟩
theorem ev_goto {id : Nat} (h : Q (.goto id) σ) : Ev X rd P (.goto id) σ Q := fun C φ I _ _ hC hh => wpIn_goto ⟨C, σ, φ, I, hC, h, hh⟩
theorem ev_ret (h : Q .ret σ) : Ev X rd P .ret σ Q := fun C φ I _ _ hC hh => wpIn_ret ⟨C, σ, φ, I, hC, h, hh⟩

theorem least {p : Nat → Prop} (h : ∃ n, p n) : ∃ n, p n ∧ ∀ m, p m → n ≤ m := by
  obtain ⟨n, hn⟩ := h
  induction n using Nat.strongRecOn with
  | _ n ih =>
    by_cases hm : ∃ m, m < n ∧ p m
    · obtain ⟨m, hlt, hp⟩ := hm
      exact ih m hlt hp
    · exact ⟨n, hn, fun m hp => Nat.le_of_not_lt fun hlt => hm ⟨m, hlt, hp⟩⟩

/-- A loop: 'Inv n': so many rounds at most are to come. -/
theorem ev_loop {body : Code} (Inv : Nat → St → Prop) (n : Nat) (h0 : ∃ σ0, Inv n σ0 ∧ Shift X σ σ0)
    (hstep : ∀ n σ', Inv n σ' → Ev X rd P body σ' (thenQ (fun σ'' => ∃ m σ0, m < n ∧ Inv m σ0 ∧ Shift X σ'' σ0) Q)) : Ev X rd P (.loop body) σ Q := by
  intro C φ I a w hC hh
  let S : Nat → Act → World → Prop := fun n a w => ∃ C σ φ I, X.is σ.gh C ∧ Inv n σ ∧ Holds C σ φ I a w
  have hS0 : S n a w := by
    obtain ⟨σ0, h1, h2⟩ := h0
    obtain ⟨φ', I', h3⟩ := h2.2 C φ I a w hC hh
    exact ⟨C, σ0, φ', I', h2.1 ▸ hC, h1, h3⟩
  have hle : ∀ a w, ∃ n, (∃ m, S m a w) → S n a w ∧ ∀ m, S m a w → n ≤ m := fun a w => by
    by_cases h : ∃ m, S m a w
    · obtain ⟨n, h1, h2⟩ := least h
      exact ⟨n, fun _ => ⟨h1, h2⟩⟩
    · exact ⟨0, fun h' => absurd h' h⟩
  refine wpIn_loop (fun a w => ∃ n, S n a w) (fun a w => (hle a w).choose) ⟨n, hS0⟩ fun a w hI => ?_
  obtain ⟨⟨C', σ', φ', I', hC', h1, h2⟩, _⟩ := (hle a w).choose_spec hI
  refine wpIn_mono (hstep _ σ' h1 C' φ' I' a w hC' h2) fun e a' w' ⟨C'', σ'', φ'', I'', hC'', h3, h4⟩ => ?_
  cases e <;> try exact ⟨C'', σ'', φ'', I'', hC'', h3, h4⟩
  obtain ⟨m, σ0, hlt, hi, hsh⟩ := h3
  obtain ⟨φ3, I3, h5⟩ := hsh.2 C'' φ'' I'' a' w' hC'' h4
  have hS : S m a' w' := ⟨C'', σ0, φ3, I3, hsh.1 ▸ hC'', hi, h5⟩
  exact ⟨⟨m, hS⟩, Nat.lt_of_le_of_lt (((hle a' w').choose_spec ⟨m, hS⟩).2 m hS) hlt⟩

/-- A loop that counts: the state at the head of round 'k'. -/
theorem ev_count {body : Code} (N : Nat) (S : Nat → St) (h0 : Shift X σ (S 0))
    (hstep : ∀ k, k ≤ N → Ev X rd P body (S k) (thenQ (fun σ'' => k < N ∧ Shift X σ'' (S (k + 1))) Q)) : Ev X rd P (.loop body) σ Q :=
  ev_loop (fun n σ' => ∃ k, k ≤ N ∧ n = N - k ∧ σ' = S k) N ⟨S 0, ⟨0, Nat.zero_le _, rfl, rfl⟩, h0⟩ fun n σ' ⟨k, hk, hn, hσ⟩ => by
    subst hσ
    refine ev_mono (hstep k hk) fun e σ'' h => ?_
    cases e <;> try exact h
    exact ⟨N - (k + 1), S (k + 1), by have := h.1; omega, ⟨k + 1, h.1, rfl, rfl⟩, h.2⟩
end
end Bf
