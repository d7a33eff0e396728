/- The engine, part 21: iterators and ranges over them, beside a model. No program is named here. -/
import Derived.Test.YtedblpbpoekdlaaF20
namespace Bf
open Go Go.RowKit

/-! #### An iterator's model: the list of what it yields -/
def yl {α : Type} (x : α) (o : Option (List α)) : Option (List α) := o.map (x :: ·)
theorem yl_inv {α : Type} {x : α} {o : Option (List α)} {r : List α} (h : yl x o = some r) : ∃ r', r = x :: r' ∧ o = some r' := by
  cases o with
  | none => cases h
  | some r' => cases h; exact ⟨r', rfl, rfl⟩
/-- What is still to be yielded, after 'n'. -/
def Rem {α : Type} (R : List α) (n : Nat) (r : List α) : Prop := n ≤ R.length ∧ R.drop n = r
theorem Rem.start {α : Type} (R : List α) : Rem R 0 R := ⟨Nat.zero_le _, rfl⟩
theorem Rem.next {α : Type} {R : List α} {n : Nat} {x : α} {r' : List α} (h : Rem R n (x :: r')) : R[n]? = some x ∧ Rem R (n + 1) r' := by
  obtain ⟨h1, h2⟩ := h
  have hlt : n < R.length := by
    rcases Nat.lt_or_ge n R.length with h' | h'
    · exact h'
    · rw [List.drop_eq_nil_of_le h'] at h2; cases h2
  rw [List.drop_eq_getElem_cons hlt] at h2
  cases h2
  exact ⟨List.getElem?_eq_getElem hlt, hlt, rfl⟩
theorem Rem.done {α : Type} {R : List α} {n : Nat} (h : Rem R n []) : n = R.length := by
  have := congrArg List.length h.2
  simp at this
  have := h.1
  omega
theorem seq_end {α : Type} {R : List α} {enc : α → List V} {n : Nat} {σ : St} {e : Exit} (he : e = .ret ∨ e = .normal) (hd : σ.df = []) (hg : σ.gh = (n, false)) (h : Rem R n []) : SeqQ (R.map enc).length e σ := ⟨he, hd, .inl (by rw [hg, h.done, List.length_map])⟩
theorem seq_stop {m : Nat} {σ : St} {e : Exit} (he : e = .ret ∨ e = .normal) (hd : σ.df = []) (hg : σ.gh.2 = true) : SeqQ m e σ := ⟨he, hd, .inr hg⟩

section
variable {X : Cx} {rd : Option Nat} {P : Program} {σ : St} {Q : Exit → St → Prop} {code : Code}
theorem ev_forLy {α S R : Type} {xs : List α} {body : Nat → α → S → (S → Option R) → Option R} {kk : S → Option R} {s0 : S} {r0 : R} (H : forL xs body kk s0 = some r0) (SS : Nat → S → R → St → Prop) (h0 : ∃ σ0, SS 0 s0 r0 σ0 ∧ Shift X σ σ0)
    (hstep : ∀ k s r σ', SS k s r σ' → k ≤ xs.length → forLg body kk k (xs.drop k) s = some r → Ev X rd P code σ' (thenQ (fun σ'' => ∃ s' r' σ0, k < xs.length ∧ forLg body kk (k + 1) (xs.drop (k + 1)) s' = some r' ∧ SS (k + 1) s' r' σ0 ∧ Shift X σ'' σ0) Q)) : Ev X rd P (.loop code) σ Q := by
  obtain ⟨σ0, g1, g2⟩ := h0
  refine ev_loop (fun n σ' => ∃ k s r, n = xs.length - k ∧ k ≤ xs.length ∧ SS k s r σ' ∧ forLg body kk k (xs.drop k) s = some r) xs.length ⟨σ0, ⟨0, s0, r0, rfl, Nat.zero_le _, g1, H⟩, g2⟩ fun n σ' ⟨k, s, r, hn, hk, hS, hH⟩ => ?_
  refine ev_mono (hstep k s r σ' hS hk hH) fun e σ'' h => ?_
  cases e <;> try exact h
  obtain ⟨s', r', σ1, h1, h2, h3, h4⟩ := h
  exact ⟨xs.length - (k + 1), σ1, by omega, ⟨k + 1, s', r', rfl, h1, h3, h2⟩, h4⟩
theorem ev_forNy {S R : Type} {lo hi : Int} {body : Int → S → (S → Option R) → Option R} {kk : S → Option R} {s0 : S} {r0 : R} (H : forN lo hi body kk s0 = some r0) (SS : Int → S → R → St → Prop) (h0 : ∃ σ0, SS lo s0 r0 σ0 ∧ Shift X σ σ0)
    (hstep : ∀ n i s r σ', SS i s r σ' → n = (hi - i).toNat → lo ≤ i → -9223372036854775808 ≤ lo → hi ≤ 9223372036854775807 → forNg body kk n i s = some r → Ev X rd P code σ' (thenQ (fun σ'' => ∃ n' s' r' σ0, n = n' + 1 ∧ forNg body kk n' (i + 1) s' = some r' ∧ SS (i + 1) s' r' σ0 ∧ Shift X σ'' σ0) Q)) : Ev X rd P (.loop code) σ Q := by
  obtain ⟨⟨hlo, hhi⟩, H⟩ := gdd_inv H
  obtain ⟨σ0, g1, g2⟩ := h0
  refine ev_loop (fun n σ' => ∃ i s r, n = (hi - i).toNat ∧ lo ≤ i ∧ SS i s r σ' ∧ forNg body kk n i s = some r) (hi - lo).toNat ⟨σ0, ⟨lo, s0, r0, rfl, Int.le_refl _, g1, H⟩, g2⟩ fun n σ' ⟨i, s, r, hn, hl, hS, hH⟩ => ?_
  refine ev_mono (hstep n i s r σ' hS hn hl hlo hhi hH) fun e σ'' h => ?_
  cases e <;> try exact h
  obtain ⟨n', s', r', σ1, h1, h2, h3, h4⟩ := h
  exact ⟨n', σ1, by omega, ⟨i + 1, s', r', by omega, by omega, h3, h2⟩, h4⟩
theorem ev_itery {S R : Type} {body : S → (S → Option R) → Option R} {n0 : Nat} {s0 : S} {r0 : R} (H : iter body n0 s0 = some r0) (SS : S → R → St → Prop) (h0 : ∃ σ0, SS s0 r0 σ0 ∧ Shift X σ σ0)
    (hstep : ∀ n s r σ', SS s r σ' → body s (iter body n) = some r → Ev X rd P code σ' (thenQ (fun σ'' => ∃ s' r' σ0, iter body n s' = some r' ∧ SS s' r' σ0 ∧ Shift X σ'' σ0) Q)) : Ev X rd P (.loop code) σ Q := by
  obtain ⟨σ0, g1, g2⟩ := h0
  refine ev_loop (fun n σ' => ∃ s r, SS s r σ' ∧ iter body n s = some r) n0 ⟨σ0, ⟨s0, r0, g1, H⟩, g2⟩ fun n σ' ⟨s, r, hS, hH⟩ => ?_
  cases n with
  | zero => cases hH
  | succ n =>
    refine ev_mono (hstep n s r σ' hS hH) fun e σ'' h => ?_
    cases e <;> try exact h
    obtain ⟨s', r', σ1, h1, h2, h3⟩ := h
    exact ⟨n, σ1, Nat.lt_succ_self n, ⟨s', r', h2, h1⟩, h3⟩
end

/-! #### Exactly so -/
def FrEq (f : Nat → Option D) : List (Nat × D) → Prop
  | [] => True
  | (s, d) :: l => f s = some d ∧ FrEq f l
def HpEq (h : Hp) : List Ent → Prop
  | [] => True
  | .e k i pl b :: l => h k i = some (pl, b) ∧ HpEq h l
  | .f k n pl b :: l => (∀ i, i < n → h k i = some (pl i, b i)) ∧ HpEq h l
theorem FrEq.get {f : Nat → Option D} : ∀ {l : List (Nat × D)}, FrEq f l → ∀ {s : Nat} {d : D}, assocN l s = some d → f s = some d
  | [], _, _, _, h => by simp [assocN] at h
  | (k, x) :: l, hf, s, d, h => by
    simp only [assocN] at h
    cases e : Nat.beq s k with
    | true => rw [e] at h; cases h; rw [Nat.eq_of_beq_eq_true e]; exact hf.1
    | false => rw [e] at h; exact FrEq.get hf.2 h
theorem HpEq.get {h : Hp} : ∀ {l : List Ent}, HpEq h l → ∀ {k i : Nat} {x : Pl × Blk}, assocH l k i = some x → h k i = some x
  | [], _, _, _, _, h => by simp [assocH] at h
  | .e k i pl b :: l, hl, j, q, x, h => by
    simp only [assocH] at h
    cases e : (Nat.beq j k && Nat.beq q i) with
    | true =>
      rw [e] at h
      simp only [Bool.and_eq_true] at e
      rw [Nat.eq_of_beq_eq_true e.1, Nat.eq_of_beq_eq_true e.2]
      simp at h
      rw [← h]
      exact hl.1
    | false => rw [e] at h; exact HpEq.get hl.2 h
  | .f k n pl b :: l, hl, j, q, x, h => by
    simp only [assocH] at h
    cases e : (Nat.beq j k && Nat.blt q n) with
    | true =>
      rw [e] at h
      simp only [Bool.and_eq_true] at e
      rw [Nat.eq_of_beq_eq_true e.1]
      simp at h
      rw [← h]
      exact hl.1 q (by simpa using e.2)
    | false => rw [e] at h; exact HpEq.get hl.2 h
theorem le_mk {σ : St} {fs : List (Nat × D)} {es : List Ent} {df : List Deferred} {gh : Nat × Bool} (hf : FrEq σ.fr fs) (he : HpEq σ.hp es) (hd : df = σ.df) (hg : gh = σ.gh) : (mkS fs es df gh).le σ :=
  ⟨fun _ _ h => hf.get h, fun _ _ _ h => he.get h, hd, hg⟩
def keysIn (pins : List Nat) : List (Nat × D) → Bool
  | [] => true
  | (s, _) :: l => hasN pins s && keysIn pins l
theorem keysIn.get {pins : List Nat} : ∀ {l : List (Nat × D)}, keysIn pins l = true → ∀ {s : Nat} {d : D}, assocN l s = some d → hasN pins s = true
  | [], _, _, _, h => by simp [assocN] at h
  | (k, x) :: l, hl, s, d, h => by
    simp only [keysIn, Bool.and_eq_true] at hl
    simp only [assocN] at h
    cases e : Nat.beq s k with
    | true => rw [Nat.eq_of_beq_eq_true e]; exact hl.1
    | false => rw [e] at h; exact keysIn.get hl.2 h
theorem cov_mk {pins : List Nat} {σ : St} {fs : List (Nat × D)} {es : List Ent} {df : List Deferred} {gh : Nat × Bool} (hk : keysIn pins fs = true) (hf : FrEq σ.fr fs) (he : HpEq σ.hp es) (hg : gh = σ.gh) : Cov pins (mkS fs es df gh) σ :=
  ⟨fun _ _ h => ⟨keysIn.get hk h, hf.get h⟩, fun _ _ _ h => he.get h, hg⟩
theorem ret_okm {P : Program} {rs : List ResultVar} {fr : Bool} {r : V} {σ : St} {hp' : Hp} (xs : List V) (hx : resV xs = r) (hu : Unmark σ.hp σ.df hp') (h : ResOk P ⟨σ.fr, hp', [], σ.gh⟩ fr rs xs) : RetQ P rs fr r .ret σ := ⟨.inl rfl, hp', hu, xs, hx, h⟩
theorem end_okm {P : Program} {rs : List ResultVar} {fr : Bool} {r : V} {σ : St} {hp' : Hp} (xs : List V) (hx : resV xs = r) (hu : Unmark σ.hp σ.df hp') (h : ResOk P ⟨σ.fr, hp', [], σ.gh⟩ fr rs xs) : RetQ P rs fr r .normal σ := ⟨.inr rfl, hp', hu, xs, hx, h⟩
theorem yield_at {α : Type} {R : List α} {enc : α → List V} {n : Nat} {x : α} {r' : List α} (h : Rem R n (x :: r')) : (R.map enc)[n]? = some (enc x) := by rw [List.getElem?_map, h.next.1]; rfl
theorem range_at {α : Type} {ys : List α} {enc : α → List V} {n : Nat} {args : List V} (h : (ys.map enc)[n]? = some args) : ∃ x, ys[n]? = some x ∧ args = enc x := by
  rw [List.getElem?_map, Option.map_eq_some_iff] at h
  obtain ⟨x, h1, h2⟩ := h
  exact ⟨x, h1, h2.symm⟩
theorem forL_gen {α S R : Type} {xs : List α} {body : Nat → α → S → (S → Option R) → Option R} {kk : S → Option R} {s : S} {r : R} (H : forL xs body kk s = some r) : ∃ B K, B = body ∧ K = kk ∧ forLg B K 0 xs s = some r := ⟨body, kk, rfl, rfl, H⟩
/-- A round of a range over an iterator, in the model. -/
theorem forL_at {α S R : Type} {xs : List α} {body : Nat → α → S → (S → Option R) → Option R} {kk : S → Option R} {k : Nat} {s : S} {r : R} {x : α} (hx : xs[k]? = some x) (H : forLg body kk k (xs.drop k) s = some r) : body k x s (forLg body kk (k + 1) (xs.drop (k + 1))) = some r := by
  obtain ⟨hlt, e⟩ := List.getElem?_eq_some_iff.1 hx
  rw [List.drop_eq_getElem_cons hlt, e] at H
  exact H
theorem forL_end {α S R : Type} {xs : List α} {body : Nat → α → S → (S → Option R) → Option R} {kk : S → Option R} {s : S} {r : R} (H : forLg body kk xs.length (xs.drop xs.length) s = some r) : kk s = some r := by
  rw [List.drop_length] at H
  exact H
end Bf
