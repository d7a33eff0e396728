/- The engine, part 10: steps on what is said of a state, the rules of control, loops, and a function's contract out of its body. No program is named here. -/
import Derived.Test.YtedblpbpoekdlaaF9
import Derived.RangeFuncLeaves
import Derived.RangeFuncKeeps
namespace Bf
open Go Go.RowKit

section
variable {X : Cx} {C : Ctx} {σ : St} {d : D} {f : Bool}

theorem shift_le {σ' : St} (h : σ'.le σ) : Shift X σ σ' := ⟨h.gh, fun _ I _ _ _ hh => ⟨I, hh.le h⟩⟩

theorem Holds.reput {I : Nat → Prop} {a : Act} {w : World} (h : Holds C σ I a w) {s : Nat} {d' : D} (hd : DRep w I C.base d' (a.tmps.getD s undef)) : Holds C (σ.put (some s) d') I a w :=
  ⟨h.df, h.sz, h.wok, fun j x hj => by
    rcases upd_some hj with ⟨rfl, rfl⟩ | ⟨_, hj'⟩
    · exact hd
    · exact h.fr j x hj'⟩

/-- A slot's datum, said otherwise. -/
theorem shift_re {s : Nat} {d' : D} (hs : σ.fr s = some d) (hd : ∀ (w : World) (I : Nat → Prop) (base : Nat) (v : Value), DRep w I base d v → DRep w I base d' v) : Shift X σ (σ.put (some s) d') :=
  ⟨rfl, fun _ I _ _ _ hh => ⟨I, hh.reput (hd _ _ _ _ (hh.fr s d hs))⟩⟩
theorem shift_as {s : Nat} {d' : D} (hs : σ.fr s = some d) (hd : d = d') : Shift X σ (σ.put (some s) d') := shift_re hs fun _ _ _ _ h => hd ▸ h
theorem shift_old {s : Nat} {x : V} (hs : σ.fr s = some (.v f x)) : Shift X σ (σ.put (some s) (.v false x)) :=
  shift_re hs fun _ _ _ _ h => .v _ _ _ (h.v_inv.mono (fun _ _ => rfl) (fun _ hb => ⟨hb.1, fun e => by cases e⟩))
theorem shift_flat {s : Nat} {x : V} (hs : σ.fr s = some (.v f x)) (hx : Flat x) : Shift X σ (σ.put (some s) (.v true x)) :=
  shift_re hs fun w _ _ _ h => .v _ _ _ (hx w _ _ w _ h.v_inv)
theorem shift_nil0 {s : Nat} (z : Nat) (hs : σ.fr s = some (.v f (.raw (.slice none 0 0)))) : Shift X σ (σ.put (some s) (.v true (.l z []))) :=
  shift_re hs fun _ _ _ _ h => .v _ _ _ (by rw [h.v_inv.raw_inv.1]; exact .nil_slice z)
/-- A slice of data of the call's own turns no more. -/
theorem shift_freeze (s : Nat) {k i n b z off len ty : Nat} {xs : List D} {ys : List V} (hs : σ.fr s = some (.o k i (some (b, n)) z off len)) (hk : σ.hp k i = some (some (b, n), .row ty xs)) (hd : (xs.drop off).take (len * z) = els f ys) (hy : ys.length = len) (hp : ∀ y ∈ ys, y.plain = true ∧ (V.cells y).length = z) :
    Shift X σ ((σ.setH k i none).put (some s) (.v f (.l z ys))) :=
  ⟨rfl, fun C I a w hC h => by
    obtain ⟨cap, e1, h1, h2, h3⟩ := (h.fr s _ hs).osome
    obtain ⟨vs, hr⟩ := h.wok.row hk
    have hlen : (els f ys).length = len * z := by rw [els_map, List.length_map, flatMap_len _ _ (fun y hy => (hp y hy).2), hy]
    obtain ⟨us, g1, g2, g3, _, g4⟩ := hr.seg hd hlen
    have hb := h.wok.owned k i b n _ hk
    have hv := VRep.l_cells (b := b) (off := off) (cap := cap) hp (show VReps w (fresh f (fun b' => I b' ∨ b' = b) C.base) (ys.flatMap V.cells) us by rw [els_map] at g2; exact g2.to_v.mono (fun _ _ => rfl) (fun b hb => ⟨.inl hb.1, hb.2⟩)) g3 (by omega) h2 (fun _ => ⟨.inr rfl, fun _ => h.wok.lo k i b n _ hk⟩) g4
    rw [hy] at hv
    exact ⟨_, (h.freeze k i b n _ hk).reput (.v _ _ _ (by rw [e1]; exact hv))⟩⟩
/-- A box of data turns no more. -/
theorem shift_freezeb (s : Nat) {k i n b off ty : Nat} {xs : List D} {ys : List V} (hs : σ.fr s = some (.p k i b off)) (hk : σ.hp k i = some (some (b, n), .row ty xs)) (hd : (xs.drop off).take ys.length = ys.map (D.v f)) :
    Shift X σ ((σ.setH k i none).put (some s) (.v f (.q ys))) :=
  ⟨rfl, fun C I a w hC h => by
    have e1 := (h.fr s _ hs).p_inv
    obtain ⟨vs, hr⟩ := h.wok.row hk
    obtain ⟨us, g1, g2, g3, _, g4⟩ := hr.seg hd (by simp)
    have hb := h.wok.owned k i b n _ hk
    have hv : VRep w (fresh f (fun b' => I b' ∨ b' = b) C.base) (.q ys) (.pointer (some ⟨b, off, none⟩)) := by
      have g2' := g2.to_v
      exact .q ys us b off (by omega) g3 ⟨.inr rfl, fun _ => h.wok.lo k i b n _ hk⟩ (fun j c v hc hv => (g2'.2 j c v hc hv).mono (fun _ _ => rfl) (fun b hb => ⟨.inl hb.1, hb.2⟩)) g4
    exact ⟨_, (h.freeze k i b n _ hk).reput (.v _ _ _ (by rw [e1]; exact hv))⟩⟩
/-- A nil slice, as the call's own. -/
theorem shift_own (s k i z ty : Nat) (hs : σ.fr s = some (.v f (.raw (.slice none 0 0)))) : Shift X σ ((σ.setH k i (some (none, .row ty []))).put (some s) (.o k i none z 0 0)) :=
  ⟨rfl, fun C I a w hC h => ⟨I, (h.set k i none (.row ty []) rfl rfl rfl (Nat.le_refl _) (fun _ _ _ => rfl) (fun b n e => by cases e) rfl).reput (by rw [(h.fr s _ hs).v_inv.raw_inv.1]; exact .onil k i z)⟩⟩
/-- The name of a block of the call's own. -/
theorem shift_name (k i k' i' : Nat) {pl : Pl} {blk : Blk} (hk : σ.hp k i = some (pl, blk)) : Shift X σ ((σ.setH k i none).setH k' i' (some (pl, blk))) :=
  ⟨rfl, fun C I a w hC h => by
    refine ⟨I, ?_⟩
    have hkey : ∀ {j l : Nat} {x : Pl × Blk}, set2 (set2 σ.hp k i none) k' i' (some (pl, blk)) j l = some x → (j = k' ∧ l = i' ∧ x = (pl, blk)) ∨ (¬ (j = k' ∧ l = i') ∧ ¬ (j = k ∧ l = i) ∧ σ.hp j l = some x) := fun hj => by
      rcases set2_some hj with ⟨e1, e2, e3⟩ | ⟨e1, e2⟩
      · cases e3; exact .inl ⟨e1, e2, rfl⟩
      · rcases set2_some e2 with ⟨_, _, e3⟩ | ⟨e3, e4⟩
        · cases e3
        · exact .inr ⟨e1, e3, e4⟩
    refine ⟨h.df, h.sz, { h.wok with own := fun j l pl' blk' hj => ?_, inj := fun j l j' l' b n n' b1 b2 h1 h2 => ?_, owned := fun j l b n blk' hj => ?_, lo := fun j l b n blk' hj => ?_ }, h.fr⟩
    · rcases hkey hj with ⟨_, _, e⟩ | ⟨_, _, e⟩
      · cases e; exact h.wok.own k i pl blk hk
      · exact h.wok.own j l pl' blk' e
    · rcases hkey h1 with ⟨p1, p2, e⟩ | ⟨q1, q2, e⟩ <;> rcases hkey h2 with ⟨p3, p4, e'⟩ | ⟨q3, q4, e'⟩
      · exact ⟨p1.trans p3.symm, p2.trans p4.symm⟩
      · cases e; exact absurd (h.wok.inj j' l' k i b n' n b2 _ e' hk) q4
      · cases e'; exact absurd (h.wok.inj j l k i b n n' b1 _ e hk) q2
      · exact h.wok.inj j l j' l' b n n' b1 b2 e e'
    · rcases hkey hj with ⟨_, _, e⟩ | ⟨_, _, e⟩
      · cases e; exact h.wok.owned k i b n blk hk
      · exact h.wok.owned j l b n blk' e
    · rcases hkey hj with ⟨_, _, e⟩ | ⟨_, _, e⟩
      · cases e; exact h.wok.lo k i b n blk hk
      · exact h.wok.lo j l b n blk' e⟩
end

/-! ### Control -/
def thenQ (R : St → Prop) (Q : Exit → St → Prop) : Exit → St → Prop
  | .normal, σ => R σ
  | e, σ => Q e σ
def blockQ (id : Nat) (Q : Exit → St → Prop) : Exit → St → Prop
  | .exit id', σ => if id' = id then Q .normal σ else Q (.exit id') σ
  | e, σ => Q e σ

section
variable {X : Cx} {rd : Option Nat} {P : Program} {σ : St} {Q : Exit → St → Prop}

theorem ev_mono {c : Code} {Q' : Exit → St → Prop} (h : Ev X rd P c σ Q) (hq : ∀ e σ, Q e σ → Q' e σ) : Ev X rd P c σ Q' :=
  fun C I a w hC hh => wpIn_mono (h C I a w hC hh) fun _ _ _ ⟨C', σ', I', hC', h1, h2⟩ => ⟨C', σ', I', hC', hq _ _ h1, h2⟩

theorem ev_seq {x y : Code} (h : Ev X rd P x σ (thenQ (fun σ' => Ev X rd P y σ' Q) Q)) : Ev X rd P (.seq x y) σ Q :=
  fun C I a w hC hh => wpIn_seq (wpIn_mono (h C I a w hC hh) fun e a' w' ⟨C', σ', I', hC', h1, h2⟩ => by
    cases e <;> first | exact h1 C' I' a' w' hC' h2 | exact ⟨C', σ', I', hC', h1, h2⟩)

theorem ev_cond {c : Operand} {x y : Code} {p f : Bool} (hc : σ.ev c = some (.v f (.b p))) (ht : p = true → Ev X rd P x σ Q) (hf : p = false → Ev X rd P y σ Q) : Ev X rd P (.cond c x y) σ Q :=
  fun C I a w hC hh => wpIn_cond_split (hh.ev hc).b_inv (fun e => ht e C I a w hC hh) (fun e => hf e C I a w hC hh)

theorem ev_block {id : Nat} {c : Code} (h : Ev X rd P c σ (blockQ id Q)) : Ev X rd P (.block id c) σ Q :=
  fun C I a w hC hh => wpIn_block (wpIn_mono (h C I a w hC hh) fun e a' w' ⟨C', σ', I', hC', h1, h2⟩ => by
    cases e with
    | exit id' =>
      simp only [blockQ] at h1
      simp only [Exit.inBlock]
      split <;> rename_i he
      · rw [if_pos he] at h1; exact ⟨C', σ', I', hC', h1, h2⟩
      · rw [if_neg he] at h1; exact ⟨C', σ', I', hC', h1, h2⟩
    | _ => exact ⟨C', σ', I', hC', h1, h2⟩)

theorem ev_skip (h : Q .normal σ) : Ev X rd P .skip σ Q := fun C I _ _ hC hh => wpIn_skip ⟨C, σ, I, hC, h, hh⟩
theorem ev_label {l : Nat} (h : Q .normal σ) : Ev X rd P (.label l) σ Q := fun C I _ _ hC hh => wpIn_label ⟨C, σ, I, hC, h, hh⟩
theorem ev_exit {id : Nat} (h : Q (.exit id) σ) : Ev X rd P (.exit id) σ Q := fun C I _ _ hC hh => wpIn_exit ⟨C, σ, I, hC, h, hh⟩
theorem ev_goto {id : Nat} (h : Q (.goto id) σ) : Ev X rd P (.goto id) σ Q := fun C I _ _ hC hh => wpIn_goto ⟨C, σ, I, hC, h, hh⟩
theorem ev_ret (h : Q .ret σ) : Ev X rd P .ret σ Q := fun C I _ _ hC hh => wpIn_ret ⟨C, σ, I, hC, h, hh⟩

theorem least {p : Nat → Prop} (h : ∃ n, p n) : ∃ n, p n ∧ ∀ m, p m → n ≤ m := by
  obtain ⟨n, hn⟩ := h
  induction n using Nat.strongRecOn with
  | _ n ih =>
    by_cases hm : ∃ m, m < n ∧ p m
    · obtain ⟨m, hlt, hp⟩ := hm
      exact ih m hlt hp
    · exact ⟨n, hn, fun m hp => Nat.le_of_not_lt fun hlt => hm ⟨m, hlt, hp⟩⟩

/-- A loop: 'Inv n': so many rounds at most are to come. -/
theorem ev_loop {body : Code} (Inv : Nat → St → Prop) (n : Nat) (h0 : ∃ σ0, Inv n σ0 ∧ Shift X σ σ0)
    (hstep : ∀ n σ', Inv n σ' → Ev X rd P body σ' (thenQ (fun σ'' => ∃ m σ0, m < n ∧ Inv m σ0 ∧ Shift X σ'' σ0) Q)) : Ev X rd P (.loop body) σ Q := by
  intro C I a w hC hh
  let S : Nat → Act → World → Prop := fun n a w => ∃ C σ I, X.is σ.gh C ∧ Inv n σ ∧ Holds C σ I a w
  have hS0 : S n a w := by
    obtain ⟨σ0, h1, h2⟩ := h0
    obtain ⟨I', h3⟩ := h2.2 C I a w hC hh
    exact ⟨C, σ0, I', h2.1 ▸ hC, h1, h3⟩
  have hle : ∀ a w, ∃ n, (∃ m, S m a w) → S n a w ∧ ∀ m, S m a w → n ≤ m := fun a w => by
    by_cases h : ∃ m, S m a w
    · obtain ⟨n, h1, h2⟩ := least h
      exact ⟨n, fun _ => ⟨h1, h2⟩⟩
    · exact ⟨0, fun h' => absurd h' h⟩
  refine wpIn_loop (fun a w => ∃ n, S n a w) (fun a w => (hle a w).choose) ⟨n, hS0⟩ fun a w hI => ?_
  obtain ⟨⟨C', σ', I', hC', h1, h2⟩, _⟩ := (hle a w).choose_spec hI
  refine wpIn_mono (hstep _ σ' h1 C' I' a w hC' h2) fun e a' w' ⟨C'', σ'', I'', hC'', h3, h4⟩ => ?_
  cases e <;> try exact ⟨C'', σ'', I'', hC'', h3, h4⟩
  obtain ⟨m, σ0, hlt, hi, hsh⟩ := h3
  obtain ⟨I3, h5⟩ := hsh.2 C'' I'' a' w' hC'' h4
  have hS : S m a' w' := ⟨C'', σ0, I3, hsh.1 ▸ hC'', hi, h5⟩
  exact ⟨⟨m, hS⟩, Nat.lt_of_le_of_lt (((hle a' w').choose_spec ⟨m, hS⟩).2 m hS) hlt⟩

/-- A loop that counts: the state at the head of round 'k'. -/
theorem ev_count {body : Code} (N : Nat) (S : Nat → St) (h0 : Shift X σ (S 0))
    (hstep : ∀ k, k ≤ N → Ev X rd P body (S k) (thenQ (fun σ'' => k < N ∧ Shift X σ'' (S (k + 1))) Q)) : Ev X rd P (.loop body) σ Q :=
  ev_loop (fun n σ' => ∃ k, k ≤ N ∧ n = N - k ∧ σ' = S k) N ⟨S 0, ⟨0, Nat.zero_le _, rfl, rfl⟩, h0⟩ fun n σ' ⟨k, hk, hn, hσ⟩ => by
    subst hσ
    refine ev_mono (hstep k hk) fun e σ'' h => ?_
    cases e <;> try exact h
    exact ⟨N - (k + 1), S (k + 1), by have := h.1; omega, ⟨k + 1, h.1, rfl, rfl⟩, h.2⟩
end
/-- One result. -/
inductive ResVal (P : Program) (σ : St) (fr : Bool) : ResultVar → V → Prop
  | tmp {t : Nat} {d : D} {x : V} (h : σ.fr t = some d) (hs : Snap σ.hp fr d x) : ResVal P σ fr (.tmp t) x
  | flat {t : Nat} {f : Bool} {x : V} (h : σ.fr t = some (.v f x)) (hf : Flat x) : ResVal P σ fr (.tmp t) x
  | cell1 {a k i b n off ty ty' : Nat} {cs : List D} {d : D} {x : V} (ha : isAggB P ty false = true) (h : σ.fr a = some (.p k i b off)) (hk : σ.hp k i = some (some (b, n), .row ty' cs)) (hc : cs[off]? = some d) (hs : Snap σ.hp fr d x) : ResVal P σ fr (.cell a ty) x
  | cellN {a k i b n off ty ty' z : Nat} {cs ds : List D} {x : V} (ha : isAggB P ty true = true) (hz : hasSize P ty z = true) (h : σ.fr a = some (.p k i b off)) (hk : σ.hp k i = some (some (b, n), .row ty' cs)) (hd : (cs.drop off).take z = ds) (hl : ds.length = z)
      (hs : Snap σ.hp fr (D.join ds) x) : ResVal P σ fr (.cell a ty) x
  | cellNw {a k i b n off ty ty' z : Nat} {cs ds : List D} {d : D} {x : V} (ha : isAggB P ty true = true) (hz : hasSize P ty z = true) (h : σ.fr a = some (.p k i b off)) (hk : σ.hp k i = some (some (b, n), .row ty' cs)) (hd : (cs.drop off).take z = ds) (hl : ds.length = z)
      (hw : ∀ (w : World) (I : Nat → Prop) (base : Nat) (v : Value), DRep w I base (D.join ds) v → DRep w I base d v) (hs : Snap σ.hp fr d x) : ResVal P σ fr (.cell a ty) x

inductive ResOk (P : Program) (σ : St) (fr : Bool) : List ResultVar → List V → Prop
  | nil : ResOk P σ fr [] []
  | cons {r : ResultVar} {rs : List ResultVar} {x : V} {xs : List V} (h : ResVal P σ fr r x) (t : ResOk P σ fr rs xs) : ResOk P σ fr (r :: rs) (x :: xs)

theorem ResVal.same {P : Program} {σ σ' : St} {fr : Bool} {r : ResultVar} {x : V} (h : ResVal P σ fr r x) (hf : σ'.fr = σ.fr) (hp : σ'.hp = σ.hp) : ResVal P σ' fr r x := by
  cases h with
  | tmp h1 h2 => exact .tmp (by rw [hf]; exact h1) (by rw [hp]; exact h2)
  | flat h1 h2 => exact .flat (by rw [hf]; exact h1) h2
  | cell1 ha h1 hk hc h2 => exact .cell1 ha (by rw [hf]; exact h1) (by rw [hp]; exact hk) hc (by rw [hp]; exact h2)
  | cellN ha hz h1 hk hd hl h2 => exact .cellN ha hz (by rw [hf]; exact h1) (by rw [hp]; exact hk) hd hl (by rw [hp]; exact h2)
  | cellNw ha hz h1 hk hd hl hw h2 => exact .cellNw ha hz (by rw [hf]; exact h1) (by rw [hp]; exact hk) hd hl hw (by rw [hp]; exact h2)
theorem ResOk.same {P : Program} {σ σ' : St} {fr : Bool} {rs : List ResultVar} {xs : List V} (h : ResOk P σ fr rs xs) (hf : σ'.fr = σ.fr) (hp : σ'.hp = σ.hp) : ResOk P σ' fr rs xs := by
  induction h with
  | nil => exact .nil
  | cons h1 _ ih => exact .cons (h1.same hf hp) ih

/-- The data of all results: one alone is itself. -/
def resV : List V → V
  | [x] => x
  | xs => .t xs

def resVar (tmps : Array Value) : ResultVar → Sem Value
  | .tmp t => pure (tmps.getD t undef)
  | .cell a t => do loadVar t (← asAddr (tmps.getD a undef))

/-- The blocks in which a result may lie. -/
def resI (C : Ctx) (hp : Hp) (I : Nat → Prop) (fr : Bool) : Nat → Prop := fun b => fresh fr I C.base b ∨ ∃ k i n blk, hp k i = some (some (b, n), blk)
theorem run_resVal {P : Program} {C : Ctx} {σ : St} {I : Nat → Prop} {a : Act} {w : World} (h : Holds C σ I a w) {fr : Bool} {r : ResultVar} {x : V} (hr : ResVal P σ fr r x) :
    ∃ v, (resVar a.tmps r).run P w = .ok v w ∧ VRep w (resI C σ.hp I fr) x v := by
  cases hr with
  | tmp h1 hs => exact ⟨_, rfl, hs.rep h.wok (h.fr _ _ h1)⟩
  | flat h1 hf => exact ⟨_, rfl, hf _ _ _ _ _ (h.fr _ _ h1).v_inv⟩
  | cell1 ha h1 hk hc hs =>
    have e2 := (h.fr _ _ h1).p_inv
    obtain ⟨vs, hrr⟩ := h.wok.row hk
    obtain ⟨v, _, g1, g2, _⟩ := hrr.get hc
    exact ⟨v, by simp only [resVar, e2, asAddr, Sem.run_bind, Sem.run_pure, Result.andThen_ok, run_loadVar1 w ha _ _ g1], hs.rep h.wok g2⟩
  | cellN ha hz h1 hk hd hl hs =>
    have e2 := (h.fr _ _ h1).p_inv
    obtain ⟨vs, hrr⟩ := h.wok.row hk
    obtain ⟨us, g1, g2, g3, _, g4⟩ := hrr.seg hd hl
    have hru := run_loadVarN (P := P) w ha hz _ _ us g1 g4
    exact ⟨_, by simp only [resVar, e2, asAddr, Sem.run_bind, Sem.run_pure, Result.andThen_ok, hru], hs.rep h.wok (join_rep g2 g3)⟩
  | cellNw ha hz h1 hk hd hl hw hs =>
    have e2 := (h.fr _ _ h1).p_inv
    obtain ⟨vs, hrr⟩ := h.wok.row hk
    obtain ⟨us, g1, g2, g3, _, g4⟩ := hrr.seg hd hl
    have hru := run_loadVarN (P := P) w ha hz _ _ us g1 g4
    exact ⟨_, by simp only [resVar, e2, asAddr, Sem.run_bind, Sem.run_pure, Result.andThen_ok, hru], hs.rep h.wok (hw _ _ _ _ (join_rep g2 g3))⟩

theorem run_resOk {P : Program} {C : Ctx} {σ : St} {I : Nat → Prop} {a : Act} {w : World} (h : Holds C σ I a w) {fr : Bool} {rs : List ResultVar} {xs : List V} (hr : ResOk P σ fr rs xs) :
    ∃ vs, (rs.mapM (resVar a.tmps)).run P w = .ok vs w ∧ VReps w (resI C σ.hp I fr) xs vs := by
  induction hr with
  | nil => exact ⟨[], rfl, .nil⟩
  | cons h1 _ ih =>
    obtain ⟨v, e1, e2⟩ := run_resVal h h1
    obtain ⟨vs, e3, e4⟩ := ih
    exact ⟨v :: vs, by simp only [List.mapM_cons, Sem.run_bind, e1, e3, Result.andThen_ok, Sem.run_pure], .cons e2 e4⟩

theorem run_results_ok {P : Program} {C : Ctx} {σ : St} {I : Nat → Prop} {a : Act} {w : World} {fn : Func} (h : Holds C σ I a w) {fr : Bool} {rs : List ResultVar} {xs : List V} (hrs : fn.results = rs.toArray) (hr : ResOk P σ fr rs xs) :
    ∃ v, (results fn a.tmps).run P w = .ok v w ∧ VRep w (resI C σ.hp I fr) (resV xs) v := by
  obtain ⟨vs, e1, e2⟩ := run_resOk h hr
  have hm : (fn.results.mapM (resVar a.tmps)).run P w = .ok vs.toArray w := by
    rw [hrs, Array.mapM_eq_mapM_toList, Sem.run_map]
    simp only [e1, Result.andThen_ok]
  have hrun : (results fn a.tmps).run P w = .ok (if h : vs.toArray.size = 1 then vs.toArray[0] else .tuple vs.toArray) w := by
    have : results fn a.tmps = (do
      let vs ← fn.results.mapM (resVar a.tmps)
      pure (if h : vs.size = 1 then vs[0] else .tuple vs)) := by
      unfold results
      congr 1
    rw [this, Sem.run_bind, hm]
    rfl
  refine ⟨_, hrun, ?_⟩
  match xs, vs, e2 with
  | [], vs, e2 => rw [e2.nil_inv]; exact .t [] [] rfl (fun i x v h => by simp at h)
  | [x], vs, e2 =>
    obtain ⟨v, vs', rfl, h1, h2⟩ := e2.cons_inv
    rw [h2.nil_inv]
    exact h1
  | x :: y :: xs, vs, e2 =>
    have hl := e2.1
    rw [dif_neg (by simp at hl ⊢; omega)]
    exact .t _ _ e2.1 e2.2

/-- The marks that ranges over functions have left among the deferred calls. -/
inductive Unmark : Hp → List Deferred → Hp → Prop
  | nil (hp : Hp) : Unmark hp [] hp
  | cons {hp hp' : Hp} {ds : List Deferred} (k i D n : Nat) (hk : hp k i = some (some (D, n), .obj (.deferred (some [])))) (t : Unmark (set2 hp k i none) ds hp') : Unmark hp ({ target := .collected D, args := #[] } :: ds) hp'

/-- An object of its own turns. -/
theorem Holds.turnObj {C : Ctx} {σ : St} {I : Nat → Prop} {a : Act} {w : World} (h : Holds C σ I a w) {k i b n : Nat} {o : Obj} (o' : Obj) (hk : σ.hp k i = some (some (b, n), .obj o)) :
    w.heap[b]? = some o ∧ Holds C (σ.setH k i (some (some (b, n), .obj o'))) I a (w.putObj b o') := by
  obtain ⟨b', n', e, h2⟩ := h.wok.own k i _ _ hk
  cases e
  have hlt : b < w.heap.size := (Array.getElem?_eq_some_iff.1 h2).1
  exact ⟨h2, h.set k i _ _ rfl rfl rfl (by simp [World.putObj]) (fun j _ hne => World.putObj_heap_other (fun e => hne n (.obj o) (by rw [e]; exact hk))) (fun b' n' e => by cases e; exact ⟨by simp [World.putObj]; exact hlt, .inr ⟨n, _, hk⟩⟩) ⟨b, n, rfl, World.putObj_heap_same hlt⟩⟩

theorem Unmark.leaves {P : Program} {fn : Func} {R : Ending → World → Prop} {C : Ctx} {fr : Nat → Option D} {gh : Nat × Bool} {hp hp' : Hp} {ds : List Deferred} (h : Unmark hp ds hp') :
    ∀ {I : Nat → Prop} {a : Act} {w : World}, Holds C ⟨fr, hp, ds, gh⟩ I a w → (∀ (a' : Act) (w' : World), a'.tmps = a.tmps → Holds C ⟨fr, hp', [], gh⟩ I a' w' → LeavesInM (fenceOf none) 0 P fn a.tmps R [] .returning w') →
      LeavesInM (fenceOf none) 0 P fn a.tmps R a.defers .returning w := by
  induction h with
  | nil hp => intro I a w hh hk; rw [hh.df]; exact hk a w rfl hh
  | @cons hp0 hp1 ds0 k i D n hk t ih =>
    intro I a w hh hR
    have hdf := hh.df
    simp only at hdf
    rw [hdf]
    obtain ⟨h1, h2⟩ := hh.turnObj (.deferred none) hk
    refine ⟨by simp, .inl ⟨D, _, rfl, run_takeDeferred h1, ?_⟩⟩
    have h3 : Holds C ⟨fr, set2 hp0 k i none, ds0, gh⟩ I { a with defers := ds0 } (w.putObj D (.deferred none)) := Holds.le (σ := ⟨fr, set2 hp0 k i (some (some (D, n), .obj (.deferred none))), ds0, gh⟩) ⟨rfl, h2.sz, h2.wok, h2.fr⟩ ⟨fun _ _ h => h, fun j l b hj => by
      rcases set2_some hj with ⟨_, _, e⟩ | ⟨e1, e2⟩
      · cases e
      · show set2 hp0 k i _ j l = _; rw [set2_other _ _ e1]; exact e2, rfl, rfl⟩
    exact ih h3 (fun a' w' ha' => hR a' w' ha')

/-- What is asked at a function's end. -/
def RetQ (P : Program) (rs : List ResultVar) (fr : Bool) (r : V) : Exit → St → Prop := fun e σ =>
  (e = .ret ∨ e = .normal) ∧ ∃ hp', Unmark σ.hp σ.df hp' ∧ ∃ xs, resV xs = r ∧ ResOk P ⟨σ.fr, hp', [], σ.gh⟩ fr rs xs

theorem ret_ok {P : Program} {rs : List ResultVar} {fr : Bool} {r : V} {σ : St} (xs : List V) (hx : resV xs = r) (hd : σ.df = []) (h : ResOk P σ fr rs xs) : RetQ P rs fr r .ret σ := ⟨.inl rfl, σ.hp, by rw [hd]; exact .nil _, xs, hx, h.same rfl rfl⟩
theorem end_ok {P : Program} {rs : List ResultVar} {fr : Bool} {r : V} {σ : St} (xs : List V) (hx : resV xs = r) (hd : σ.df = []) (h : ResOk P σ fr rs xs) : RetQ P rs fr r .normal σ := ⟨.inr rfl, σ.hp, by rw [hd]; exact .nil _, xs, hx, h.same rfl rfl⟩

def argsF : List V → Nat → Option D
  | [], _ => none
  | x :: _, 0 => some (.v false x)
  | _ :: xs, n + 1 => argsF xs n

theorem argsF_some : ∀ {ds : List V} {s : Nat} {d : D}, argsF ds s = some d → ∃ x, ds[s]? = some x ∧ d = .v false x
  | [], _, _, h => by simp [argsF] at h
  | x :: _, 0, _, h => by simp [argsF] at h; exact ⟨x, by simp, h.symm⟩
  | _ :: xs, n + 1, _, h => by simp only [argsF] at h; obtain ⟨y, h1, h2⟩ := argsF_some h; exact ⟨y, by simpa using h1, h2⟩

/-- A context with its number of slots written out. -/
def Ctx.at_ (C : Ctx) (N : Nat) : Cx := ⟨{ n := N }, fun _ C' => C' = ⟨{ n := N }, C.base, C.I0, C.K, C.W0⟩, fun _ _ h => by rw [h]⟩

/-- A function's contract: its body, walked from its arguments. -/
theorem pure_intro {P : Program} {f : FuncId} {fn : Func} {c : Code} {rs : List ResultVar} {ds : List V} {fr : Bool} {r : V} {N : Nat} (hf : P.funcs[f]? = some fn) (hb : fn.body = some c) (hrs : fn.results = rs.toArray) (hnt : fn.ntmps = N) (hN : Nat.ble ds.length N = true)
    (h : ∀ C : Ctx, (∀ g, (C.at_ N).clean g) → Ev (C.at_ N) none P c ⟨argsF ds, noHp, [], (0, false)⟩ (RetQ P rs fr r)) : PureC P fr f ds r := by
  intro args w J hJ hargs
  subst hnt
  have hlen : args.length ≤ fn.ntmps := by rw [← hargs.1]; simpa using hN
  refine callsIn_wide.1 (show CallsIn (fenceOf none) 0 P f args.toArray w _ from callsIn_of_wp_marks hf hb trivial ?_)
  let C : Ctx := ⟨{ n := fn.ntmps }, w.heap.size, J, (· < w.heap.size), w⟩
  have h0 : Holds C ⟨argsF ds, noHp, [], (0, false)⟩ J { tmps := args.toArray ++ Array.replicate (fn.ntmps - args.toArray.size) undef, defers := [] } w := by
    refine ⟨rfl, ⟨by simp [C]; omega, fun s hs => by cases hs⟩, ⟨rfl, rfl, rfl, Nat.le_refl _, Nat.le_refl _, fun _ h => h, fun _ _ => rfl, hJ, fun _ h => h, fun _ h => .inl h, fun k i pl blk h => by simp [noHp] at h, fun k i k' i' b n n' blk blk' h => by simp [noHp] at h, fun k i b n blk h => by simp [noHp] at h, fun k i b n blk h => by simp [noHp] at h⟩, fun s d hs => ?_⟩
    obtain ⟨x, hx, rfl⟩ := argsF_some hs
    obtain ⟨v, hv, hr⟩ := hargs.get hx
    have hlt : s < args.length := (List.getElem?_eq_some_iff.1 hv).1
    have hg : ({ tmps := args.toArray ++ Array.replicate (fn.ntmps - args.toArray.size) undef, defers := [] } : Act).tmps.getD s undef = v := by
      rw [Array.getD_eq_getD_getElem?, Array.getElem?_append_left (by simpa using hlt)]
      simp [hv]
    rw [hg]
    exact .v _ _ _ (hr.mono (fun _ _ => rfl) (fun b hb => ⟨hb, fun e => by cases e⟩))
  have hw := h C (fun g C' hC' b hb => by rw [show C' = _ from hC'] at hb ⊢; exact Nat.le_of_not_lt hb) C _ _ _ rfl h0
  refine wpIn_mono hw ?_
  rintro e a' w' ⟨C', σ, I, hC', ⟨he, hp', hu, xs, hx, hr⟩, hh⟩
  obtain rfl : C' = C := hC'
  have hfin : LeavesInM (fenceOf none) 0 P fn a'.tmps (fun e w' => ∃ v', e = .returned v' ∧ Keeps w w' ∧ VRep w' (fun b => b < w'.heap.size ∧ (w.heap.size ≤ b ∨ (fr = false ∧ J b))) r v') a'.defers .returning w' := by
    refine hu.leaves (fr := σ.fr) (gh := σ.gh) (a := a') hh fun a2 w2 ha2 hh2 => ?_
    obtain ⟨v, hv, hrep⟩ := run_results_ok hh2 hrs hr
    rw [ha2] at hv
    refine ⟨v, hv, v, rfl, ⟨hh2.wok.os, hh2.wok.tape, hh2.wok.output, hh2.wok.size, fun b hb => hh2.wok.old b hb⟩, ?_⟩
    rw [← hx]
    refine hrep.mono (fun _ _ => rfl) (fun b hb => ?_)
    rcases hb with hb | ⟨k, i, n, blk, hk⟩
    · refine ⟨hh2.wok.ilt b hb.1, ?_⟩
      cases fr with
      | true => exact .inl (hb.2 rfl)
      | false =>
        rcases hh2.wok.inew b hb.1 with h1 | h1
        · exact .inr ⟨rfl, h1⟩
        · exact .inl (Nat.le_of_not_lt h1)
    · obtain ⟨g1, _, g3⟩ := hh2.wok.owned k i b n blk hk
      exact ⟨g1, .inl (Nat.le_of_not_lt g3)⟩
  rcases he with rfl | rfl <;> exact hfin

/-! ### The rules as a walk takes them -/
/-- The guard lets the operation by. -/
def guardOk (N : Nat) (ops : Array Oper) (σ : St) (g : Option (Nat × Bool)) : Bool :=
  match g with
  | none => true
  | some (j, want) => match (ops[j]?).bind (·.dst) with
    | some s => (match σ.fr s with | some (.v _ (.b c)) => (c == want) && Nat.blt s N | _ => false)
    | none => false
/-- The guard passes the operation over. -/
def guardNo (N : Nat) (ops : Array Oper) (σ : St) (g : Option (Nat × Bool)) : Bool :=
  match g with
  | none => false
  | some (j, want) => match (ops[j]?).bind (·.dst) with
    | some s => (match σ.fr s with | some (.v _ (.b c)) => !(c == want) && Nat.blt s N | some (.v _ (.t [])) => Nat.blt s N | _ => false)
    | none => false
def dstOk (N : Rm) : Option Nat → Bool
  | none => true
  | some s => N.can s

section
variable {X : Cx} {rd : Option Nat} {P : Program} {ops : Array Oper} {rest : List Oper} {σ σ' : St} {Q : Exit → St → Prop} {d : D} {dst : Option Nat} {op : Op} {tt : TypeId} {pos : String} {af : Array Edge} {g : Option (Nat × Bool)}

theorem guard_some {j : Nat} {want : Bool} {s : Nat} (h : (ops[j]?).bind (·.dst) = some s) : guardSlot ops ⟨dst, op, tt, pos, af, some (j, want)⟩ = some (s, want) := by
  simp [guardSlot, h]

theorem guardOk_inv {N : Nat} (h : guardOk N ops σ g = true) : g = none ∨ ∃ s want f, guardSlot ops ⟨dst, op, tt, pos, af, g⟩ = some (s, want) ∧ σ.fr s = some (.v f (.b want)) ∧ Nat.blt s N = true := by
  cases g with
  | none => exact .inl rfl
  | some p =>
    obtain ⟨j, want⟩ := p
    right
    simp only [guardOk] at h
    cases hj : (ops[j]?).bind (·.dst) with
    | none => rw [hj] at h; cases h
    | some s =>
      rw [hj] at h
      simp only at h
      split at h
      case h_1 f c hs =>
        simp only [Bool.and_eq_true, beq_iff_eq] at h
        exact ⟨s, want, f, guard_some hj, by rw [hs, h.1], h.2⟩
      case h_2 => cases h
theorem guardNo_inv {C : Ctx} {a : Act} {w : World} {I : Nat → Prop} {o : Oper} (h : guardNo C.N.n ops σ o.guard = true) (hh : Holds C σ I a w) : Region.wanted o (yielded ops a.tmps) = false := by
  cases hgd : o.guard with
  | none => rw [hgd] at h; simp [guardNo] at h
  | some p =>
    obtain ⟨j, want⟩ := p
    rw [hgd] at h
    simp only [guardNo] at h
    cases hj : (ops[j]?).bind (·.dst) with
    | none => rw [hj] at h; cases h
    | some s =>
      rw [hj] at h
      have hsl : guardSlot ops o = some (s, want) := by simp [guardSlot, hgd, hj]
      simp only at h
      split at h
      case h_1 f c hs =>
        simp only [Bool.and_eq_true, Bool.not_eq_true'] at h
        exact (wanted_of hh hsl hs (by simpa using h.2)).trans h.1
      case h_2 f hs => exact wanted_none hh hsl hs (by simpa using h)
      case h_3 => cases h

mutual
def V.flatB : V → Bool
  | .b _ | .i _ _ | .s _ => true
  | .st xs => V.flatBs xs
  | _ => false
def V.flatBs : List V → Bool
  | [] => true
  | x :: xs => x.flatB && V.flatBs xs
end
theorem V.flatBs_mem {x : V} : ∀ {xs : List V}, V.flatBs xs = true → x ∈ xs → x.flatB = true
  | y :: ys, h, hx => by
    simp only [V.flatBs, Bool.and_eq_true] at h
    rcases List.mem_cons.1 hx with rfl | hx
    · exact h.1
    · exact V.flatBs_mem h.2 hx
theorem VRep.flat {w : World} {I I' : Nat → Prop} {x : V} {v : Value} (h : VRep w I x v) : x.flatB = true → VRep w I' x v := by
  induction h with
  | b x => exact fun _ => .b x
  | i k n => exact fun _ => .i k n
  | s x => exact fun _ => .s x
  | st xs vs hl h1 _ ih => exact fun hf => .st xs vs hl h1 fun i x v hx hv => ih i x v hx hv (V.flatBs_mem (by simpa [V.flatB] using hf) (List.mem_of_getElem? hx))
  | raw v h => intro hf; simp [V.flatB] at hf
  | t xs vs hl _ ih => intro hf; simp [V.flatB] at hf
  | l z xs A c hc hm val b o hA _ hz hcell ih => intro hf; simp [V.flatB] at hf
  | q xs vs b o hl h1 hb _ hcell ih => intro hf; simp [V.flatB] at hf
  | c f caps vs hl _ ih => intro hf; simp [V.flatB] at hf
/-- Data that lies in no memory is as good as new. -/
def normD : D → D
  | .v f x => .v (f || x.flatB) x
  | d => d
theorem normD_rep {w : World} {I : Nat → Prop} {base : Nat} {d : D} {v : Value} (h : DRep w I base d v) : DRep w I base (normD d) v := by
  cases d with
  | v f x =>
    cases f with
    | true => exact h
    | false =>
      cases e : x.flatB with
      | true =>
        show DRep w I base (.v (false || x.flatB) x) v
        rw [e]
        exact .v _ _ _ (h.v_inv.flat e)
      | false =>
        show DRep w I base (.v (false || x.flatB) x) v
        rw [e]
        exact h
  | _ => exact h
theorem Quiet.norm {P : Program} {hp : Hp} {ev : Operand → Option D} {o : Oper} {d : D} (h : Quiet P hp ev o d) : Quiet P hp ev o (normD d) :=
  ⟨h.1, fun C I w ρ hw hρ => by
    have := h.2 C I w ρ hw hρ
    generalize (execOp ρ o).run P w = r at this ⊢
    cases r with
    | halt x w' => exact this
    | ok n w' =>
      cases n <;> try exact this
      case value v => obtain ⟨hk, I', h1, h2, hd⟩ := this; exact ⟨hk, I', h1, h2, normD_rep hd⟩
      case enter f args =>
        obtain ⟨he, hc⟩ := this
        refine ⟨he, hc.mono ?_⟩
        rintro e w'' ⟨v, rfl, hk, I', h1, h2, hd⟩
        exact ⟨v, rfl, hk, I', h1, h2, normD_rep hd⟩⟩

/-- A quiet operation. -/
theorem rq (hg : guardOk X.N.n ops σ g = true) (hs : dstOk X.N dst = true) (hq : Quiet P σ.hp σ.ev ⟨dst, op, tt, pos, af, g⟩ d) (h : RunS X rd P ops rest (σ.put dst (normD d)) Q) : RunS X rd P ops (⟨dst, op, tt, pos, af, g⟩ :: rest) σ Q := by
  have hq := hq.norm
  have hs' : (dst.all X.N.can) = true := by cases dst <;> simp_all [dstOk]
  rcases guardOk_inv hg with rfl | ⟨s, want, f, h1, h2, h3⟩
  · exact run_quiet hq rfl hs' h
  · exact run_guarded h1 h2 h3 hq hs' h
/-- An operation with an effect. -/
theorem re {T : St → Prop} (hg : guardOk X.N.n ops σ g = true) (he : Eff P X.N ⟨dst, op, tt, pos, af, g⟩ σ T) (h : ∀ σ', T σ' → RunS X rd P ops rest σ' Q) : RunS X rd P ops (⟨dst, op, tt, pos, af, g⟩ :: rest) σ Q := by
  rcases guardOk_inv hg with rfl | ⟨s, want, f, h1, h2, h3⟩
  · exact run_effect he rfl h
  · exact run_effectg h1 h2 h3 he h
/-- An operation that its guard passes over. -/
theorem rs (hg : guardNo X.N.n ops σ g = true) (hs : dstOk X.N dst = true) (h : RunS X rd P ops rest (σ.skip dst) Q) : RunS X rd P ops (⟨dst, op, tt, pos, af, g⟩ :: rest) σ Q :=
  run_skipped (fun C I a w hN hh => guardNo_inv (o := ⟨dst, op, tt, pos, af, g⟩) (by rw [hN]; exact hg) hh) (by cases dst <;> simp_all [dstOk]) h
/-- An undecided guard: both ways. -/
theorem rg {j s : Nat} {want c f : Bool} (_hj : (ops[j]?).bind (·.dst) = some s) (hs : σ.fr s = some (.v f (.b c)))
    (ht : c = true → RunS X rd P ops (⟨dst, op, tt, pos, af, some (j, want)⟩ :: rest) (σ.put (some s) (.v true (.b true))) Q)
    (hf : c = false → RunS X rd P ops (⟨dst, op, tt, pos, af, some (j, want)⟩ :: rest) (σ.put (some s) (.v true (.b false))) Q) : RunS X rd P ops (⟨dst, op, tt, pos, af, some (j, want)⟩ :: rest) σ Q := by
  cases c with
  | true => exact run_shift (shift_flat hs (Flat.b true)) (ht rfl)
  | false => exact run_shift (shift_flat hs (Flat.b false)) (hf rfl)
end

section
variable {P : Program} {fr f : Bool} {r x : V} {t : Nat} {σ : St}
theorem ret1 {d : D} (h : σ.fr t = some d) (hs : Snap σ.hp fr d r) (hd : σ.df = []) : RetQ P [.tmp t] fr r .ret σ := ret_ok [r] rfl hd (.cons (.tmp h hs) .nil)
theorem ret1b {p q : Bool} (h : σ.fr t = some (.v f (.b p))) (hd : σ.df = []) (hx : p = q) : RetQ P [.tmp t] fr (.b q) .ret σ := ret_ok [.b q] rfl hd (.cons (.flat (hx ▸ h) (Flat.b _)) .nil)
theorem ret1i {k : IntKind} {p q : Int} (h : σ.fr t = some (.v f (.i k p))) (hd : σ.df = []) (hx : p = q) : RetQ P [.tmp t] fr (.i k q) .ret σ := ret_ok [.i k q] rfl hd (.cons (.flat (hx ▸ h) (Flat.i _ _)) .nil)
end
/-! ### Operations whose guard is not decided -/
/-- An operand, its condition dropped. -/
def D.force : D → D
  | .cnd _ d => d
  | d => d
/-- Some slots' conditions are dropped. -/
def evl (l : List Nat) (ev : Operand → Option D) : Operand → Option D
  | .tmp t => bif hasN l t then (ev (.tmp t)).map D.force else ev (.tmp t)
  | x => ev x
/-- Under the condition 'c' these slots are there. -/
def condsL (ev : Operand → Option D) (c : Bool) : List Nat → Prop
  | [] => True
  | t :: l => (match ev (.tmp t) with | some (.cnd g _) => c = true → g = true | _ => True) ∧ condsL ev c l
theorem condsL_mem {ev : Operand → Option D} {c : Bool} : ∀ {l : List Nat}, condsL ev c l → ∀ t, hasN l t = true → ∀ g d, ev (.tmp t) = some (.cnd g d) → c = true → g = true
  | [], _, t, ht, _, _, _, _ => by simp [hasN] at ht
  | y :: l, h, t, ht, g, d, he, hc => by
    simp only [hasN, Bool.or_eq_true] at ht
    rcases ht with ht | ht
    · have e := Nat.eq_of_beq_eq_true ht
      subst e
      have := h.1; rw [he] at this; exact this hc
    · exact condsL_mem h.2 t ht g d he hc
/-- Whether a guard lets by, by what its slot holds. -/
def gval (want : Bool) : D → Option Bool
  | .v _ (.b p) => some (bif want then p else !p)
  | .cnd g (.v _ (.b p)) => some (g && (bif want then p else !p))
  | _ => none

theorem DRep.cnd_inv {w : World} {I : Nat → Prop} {base : Nat} {g : Bool} {d : D} {u : Value} (h : DRep w I base (.cnd g d) u) : (g = true ∧ DRep w I base d u) ∨ (g = false ∧ u = undef) := by
  cases h with
  | cndt _ _ h => exact .inl ⟨rfl, h⟩
  | cndf => exact .inr ⟨rfl, rfl⟩
theorem DRep.cnd_of {w : World} {I : Nat → Prop} {base : Nat} {g : Bool} {d : D} {u : Value} (h1 : g = true → DRep w I base d u) (h2 : g = false → u = undef) : DRep w I base (.cnd g d) u := by
  cases g with
  | true => exact .cndt _ _ (h1 rfl)
  | false => rw [h2 rfl]; exact .cndf _

theorem gval_wanted {C : Ctx} {σ : St} {I : Nat → Prop} {a : Act} {w : World} {ops : Array Oper} {o : Oper} {s : Nat} {want c : Bool} {ds : D} (hh : Holds C σ I a w) (hg : guardSlot ops o = some (s, want)) (hs : σ.fr s = some ds) (hv : gval want ds = some c) (hN : s < C.N.n) :
    Region.wanted o (yielded ops a.tmps) = c := by
  have hd := hh.fr s ds hs
  have hslot : ∃ j s', o.guard = some (j, want) ∧ (ops[j]?).bind (·.dst) = some s' ∧ s' = s := by
    unfold guardSlot at hg
    cases hgd : o.guard with
    | none => rw [hgd] at hg; cases hg
    | some p =>
      obtain ⟨j, wt⟩ := p
      rw [hgd] at hg
      simp only at hg
      cases hj : (ops[j]?).bind (·.dst) with
      | none => rw [hj] at hg; cases hg
      | some s' => rw [hj] at hg; simp at hg; exact ⟨j, s', by rw [hg.2], hj, hg.1⟩
  obtain ⟨j, s', h1, h2, rfl⟩ := hslot
  have hlt : s' < a.tmps.size := by rw [hh.sz.1]; exact hN
  have hget : ∀ v, a.tmps.getD s' undef = v → a.tmps[s']? = some v := fun v hv => by simpa [Array.getD_eq_getD_getElem?, hlt] using hv
  have hb : ∀ p : Bool, a.tmps[s']? = some (.bool p) → Region.wanted o (yielded ops a.tmps) = (bif want then p else !p) := fun p hp => by
    simp [Region.wanted, h1, yielded, h2, hp]
    cases p <;> cases want <;> rfl
  cases ds with
  | v f x =>
    cases x <;> simp [gval] at hv
    rw [← hv]
    exact hb _ (hget _ hd.b_inv)
  | cnd g d =>
    cases d with
    | v f x =>
      cases x <;> simp [gval] at hv
      rw [← hv]
      rcases hd.cnd_inv with ⟨rfl, h3⟩ | ⟨rfl, h3⟩
      · have := hb _ (hget _ h3.b_inv)
        rw [this]
        cases want <;> simp
      · have hu := hget _ h3
        simp [Region.wanted, h1, yielded, h2, hu, undef]
    | _ => simp [gval] at hv
  | _ => simp [gval] at hv

/-- An operation that is carried out under a condition, and what it leaves. -/
def CondOk (P : Program) (N : Nat) (ops : Array Oper) (σ : St) (o : Oper) (l : List Nat) (c : Bool) (d : D) : Prop :=
  (∃ s want ds, guardSlot ops o = some (s, want) ∧ σ.fr s = some ds ∧ gval want ds = some c ∧ Nat.blt s N = true) ∧ noDefer o.op = true ∧ (c = true → Quiet P σ.hp (evl l σ.ev) o d) ∧ condsL σ.ev c l

theorem evl_rep {C : Ctx} {σ : St} {I : Nat → Prop} {a : Act} {w : World} {l : List Nat} {c : Bool} (hh : Holds C σ I a w) (hc : condsL σ.ev c l) (ht : c = true) : ∀ x d', evl l σ.ev x = some d' → DRep w I C.base d' (a.eval x) := by
  intro x d' hd
  cases x with
  | tmp t =>
    simp only [evl] at hd
    cases hm : hasN l t with
    | false => rw [hm] at hd; exact hh.ev hd
    | true =>
      rw [hm] at hd
      simp only [cond_true] at hd
      cases he : σ.ev (.tmp t) with
      | none => rw [he] at hd; cases hd
      | some d0 =>
        rw [he] at hd
        simp at hd
        subst hd
        have h0 := hh.ev he
        cases d0 with
        | cnd g d =>
          have hg := condsL_mem hc t hm g d he ht
          subst hg
          rcases h0.cnd_inv with ⟨_, h⟩ | ⟨h, _⟩
          · exact h
          · cases h
        | _ => exact h0
  | const v => exact hh.ev hd
  | func f => exact hh.ev hd
  | global g => exact hh.ev hd

theorem CondOk.wp {P : Program} {C : Ctx} {rd : Option Nat} {ops : Array Oper} {σ : St} {I : Nat → Prop} {a : Act} {w : World} {o : Oper} {l : List Nat} {c : Bool} {d : D} {K : Act → World → Prop} {Q : Exit → Act → World → Prop}
    (h : CondOk P C.N.n ops σ o l c d) (hh : Holds C σ I a w) (hs : ∀ s, o.dst = some s → C.N.can s = true)
    (hK : ∀ (I' : Nat → Prop) (a' : Act) (w' : World), Holds C (σ.put o.dst (.cnd c d)) I' a' w' → K a' w') : if Region.wanted o (yielded ops a.tmps) then o.wpIn (fenceOf rd) 0 P a w K Q else (Region.wanted o (yielded ops a.tmps) = false → K (a.put o.dst undef) w) := by
  obtain ⟨⟨s, want, ds, h1, h2, h3, h4⟩, hnd, hq, hc⟩ := h
  rw [gval_wanted hh h1 h2 h3 (by simpa using h4)]
  cases c with
  | true =>
    simp only [if_true]
    have hr := (hq rfl).2 C I w a.eval hh.wok (fun x _ d' hd => evl_rep hh hc rfl x d' hd)
    refine ⟨fun _ _ => trivial, ?_⟩
    rw [noDefer_sem hnd]
    generalize (execOp a.eval o).run P w = r at hr ⊢
    cases r with
    | halt x w' => exact hr.elim
    | ok n w' =>
      cases n <;> try exact hr.elim
      case value v =>
        obtain ⟨hk, I', e1, e2, hd⟩ := hr
        exact hK I' _ _ ((hh.keep hk e1 e2).put _ _ _ (.cndt _ _ hd) hs)
      case enter f args =>
        obtain ⟨rfl, hcc⟩ := hr
        refine ⟨fun e => absurd e (by simp [fenceOf, Fence.wide]), (callsIn_of rd hcc).mono ?_⟩
        rintro e w'' ⟨v, rfl, hk, I', e1, e2, hd⟩
        exact hK I' _ _ ((hh.keep hk e1 e2).put _ _ _ (.cndt _ _ hd) hs)
  | false =>
    simp only [Bool.false_eq_true, if_false]
    exact fun _ => hK I _ _ (hh.put _ _ _ (.cndf _) hs)

section
variable {X : Cx} {rd : Option Nat} {P : Program} {ops : Array Oper} {rest : List Oper} {σ σ' : St} {Q : Exit → St → Prop} {d : D} {dst : Option Nat} {op : Op} {tt : TypeId} {pos : String} {af : Array Edge} {g : Option (Nat × Bool)}
/-- A quiet operation under a condition. -/
theorem rqc {c : Bool} {l : List Nat} (h : CondOk P X.N.n ops σ ⟨dst, op, tt, pos, af, g⟩ l c d) (hs : dstOk X.N dst = true) (hr : RunS X rd P ops rest (σ.put dst (.cnd c d)) Q) : RunS X rd P ops (⟨dst, op, tt, pos, af, g⟩ :: rest) σ Q :=
  fun C I a w hC hh => wpListIn_step fun K hK => by
    have hd : ∀ s, dst = some s → C.N.can s = true := fun s e => by rw [X.hN _ _ hC]; rw [e] at hs; exact hs
    have h' : CondOk P C.N.n ops σ ⟨dst, op, tt, pos, af, g⟩ l c d := by rw [X.hN _ _ hC]; exact h
    have hw := CondOk.wp (rd := rd) (Q := Lift X Q) h' hh hd fun I' a' w' hh' => hK a' w' (hr C I' a' w' (gh_put hC) hh')
    by_cases hwt : Region.wanted (⟨dst, op, tt, pos, af, g⟩ : Oper) (yielded ops a.tmps) = true
    · rw [if_pos hwt] at hw ⊢; exact hw
    · rw [if_neg hwt] at hw ⊢; exact ⟨fun _ _ => trivial, hw (by simpa using hwt)⟩
end
/-- A choice between truth values, of which one may not be there. -/
def PB (d : D) (p want q : Bool) : Prop := (∃ f, d = .v f (.b q)) ∨ ∃ g f, d = .cnd g (.v f (.b q)) ∧ (p = want → g = true)
theorem PB.v {f p want q : Bool} : PB (.v f (.b q)) p want q := .inl ⟨f, rfl⟩
theorem PB.c {g f p want q : Bool} (h : p = want → g = true) : PB (.cnd g (.v f (.b q))) p want q := .inr ⟨g, f, rfl, h⟩
section
variable {P : Program} {hp : Hp} {ev : Operand → Option D} {dst : Option Nat} {tt : TypeId} {pos : String} {af : Array Edge} {g : Option (Nat × Bool)} {x y c : Operand} {f : Bool}
theorem q_pickb {p qa qb : Bool} {da db : D} (hc : ev c = some (.v f (.b p))) (hx : ev x = some da) (hy : ev y = some db) (ha : PB da p true qa) (hb : PB db p false qb) : Quiet P hp ev ⟨dst, .pick c x y, tt, pos, af, g⟩ (.v true (.b (bif p then qa else qb))) :=
  Quiet.of ⟨rfl, fun C I w ρ _ hρ => by
    have h1 := (hρ c (by simp [Op.operands]) _ hc).b_inv
    have h2 := hρ x (by simp [Op.operands]) _ hx
    have h3 := hρ y (by simp [Op.operands]) _ hy
    simp only [execOp, h1, asBool, Sem.run_bind, Sem.run_pure, Result.andThen_ok]
    cases p with
    | true =>
      refine ⟨rfl, ?_⟩
      rcases ha with ⟨f', rfl⟩ | ⟨g', f', rfl, hg⟩
      · simp only [if_true]; rw [h2.b_inv]; exact .v _ _ _ (.b _)
      · rcases h2.cnd_inv with ⟨_, h⟩ | ⟨h, _⟩
        · simp only [if_true]; rw [h.b_inv]; exact .v _ _ _ (.b _)
        · rw [hg rfl] at h; cases h
    | false =>
      refine ⟨rfl, ?_⟩
      rcases hb with ⟨f', rfl⟩ | ⟨g', f', rfl, hg⟩
      · simp only [Bool.false_eq_true, if_false]; rw [h3.b_inv]; exact .v _ _ _ (.b _)
      · rcases h3.cnd_inv with ⟨_, h⟩ | ⟨h, _⟩
        · simp only [Bool.false_eq_true, if_false]; rw [h.b_inv]; exact .v _ _ _ (.b _)
        · rw [hg rfl] at h; cases h⟩
end

end Bf
