/- The engine, part 17: models that go along with a walk: how a model goes on, loops, states written out; typed lists. No program is named here. -/
import Derived.Test.YtedblpbpoekdlaaF16
namespace Bf
open Go Go.RowKit

abbrev vi (n : Int) : V := .i .i64 n
abbrev vb (b : Bool) : V := .b b
abbrev wr (n : Int) : Int := IntKind.i64.wrap n

/-! #### How a model goes on -/
def bd {α β : Type} (o : Option α) (k : α → Option β) : Option β := match o with | some x => k x | none => none
theorem bd_inv {α β : Type} {o : Option α} {k : α → Option β} {r : β} (h : bd o k = some r) : ∃ x, o = some x ∧ k x = some r := by
  cases o with
  | none => cases h
  | some x => exact ⟨x, rfl, h⟩
/-- What is carried out under a condition. -/
def bdc {α β : Type} [Inhabited α] (c : Bool) (o : Option α) (k : α → Option β) : Option β := bif c then bd o k else k default
theorem bdc_inv {α β : Type} [Inhabited α] {c : Bool} {o : Option α} {k : α → Option β} {r : β} (h : bdc c o k = some r) : ∃ x, (c = true → o = some x) ∧ (c = false → x = default) ∧ k x = some r := by
  cases c with
  | true => obtain ⟨x, h1, h2⟩ := bd_inv h; exact ⟨x, fun _ => h1, (fun e => by cases e), h2⟩
  | false => exact ⟨default, (fun e => by cases e), fun _ => rfl, h⟩
def gd {β : Type} (c : Bool) (k : Option β) : Option β := bif c then k else none
theorem gd_inv {β : Type} {c : Bool} {k : Option β} {r : β} (h : gd c k = some r) : c = true ∧ k = some r := by
  cases c with
  | true => exact ⟨rfl, h⟩
  | false => cases h
theorem gdd_inv {β : Type} {p : Prop} [Decidable p] {k : Option β} {r : β} (h : gd (decide p) k = some r) : p ∧ k = some r := by
  obtain ⟨h1, h2⟩ := gd_inv h; exact ⟨by simpa using h1, h2⟩
/-- A condition of what is carried out under a condition. -/
def gdc {β : Type} (c g : Bool) (k : Option β) : Option β := bif c && !g then none else k
theorem gdc_inv {β : Type} {c g : Bool} {k : Option β} {r : β} (h : gdc c g k = some r) : (c = true → g = true) ∧ k = some r := by
  cases c <;> cases g <;> first | exact ⟨fun _ => rfl, h⟩ | exact ⟨fun e => (by cases e), h⟩ | cases h
theorem ct {β : Type} {c : Bool} {a b : β} {r : β} (hc : c = true) (h : (bif c then a else b) = r) : a = r := by subst hc; exact h
theorem cf {β : Type} {c : Bool} {a b : β} {r : β} (hc : c = false) (h : (bif c then a else b) = r) : b = r := by subst hc; exact h

/-- An element by the machine's number. -/
def idx {α : Type} (xs : List α) (n : Int) : Option α := if 0 ≤ n then xs[n.toNat]? else none
theorem idx_inv {α : Type} {xs : List α} {n : Int} {x : α} (h : idx xs n = some x) : 0 ≤ n ∧ xs[n.toNat]? = some x ∧ n.toNat < xs.length ∧ n < (xs.length : Nat) := by
  unfold idx at h
  split at h
  · have := (List.getElem?_eq_some_iff.1 h).1
    exact ⟨by assumption, h, this, by omega⟩
  · cases h
theorem idx_nat {α : Type} {xs : List α} {k : Nat} : idx xs (k : Int) = xs[k]? := by simp [idx]

/-! #### Loops -/
def forLg {α S R : Type} (body : Nat → α → S → (S → Option R) → Option R) (kk : S → Option R) : Nat → List α → S → Option R
  | _, [], s => kk s
  | k, x :: xs, s => body k x s (forLg body kk (k + 1) xs)
/-- A range over a list. -/
def forL {α S R : Type} (xs : List α) (body : Nat → α → S → (S → Option R) → Option R) (kk : S → Option R) (s : S) : Option R := forLg body kk 0 xs s
def forNg {S R : Type} (body : Int → S → (S → Option R) → Option R) (kk : S → Option R) : Nat → Int → S → Option R
  | 0, _, s => kk s
  | n + 1, i, s => body i s (forNg body kk n (i + 1))
/-- A loop that counts. -/
def forN {S R : Type} (lo hi : Int) (body : Int → S → (S → Option R) → Option R) (kk : S → Option R) (s : S) : Option R := gd (decide (-9223372036854775808 ≤ lo ∧ hi ≤ 9223372036854775807)) (forNg body kk (hi - lo).toNat lo s)
/-- Any other loop: so many rounds at most. -/
def iter {S R : Type} (body : S → (S → Option R) → Option R) : Nat → S → Option R
  | 0, _ => none
  | n + 1, s => body s (iter body n)

section
variable {X : Cx} {rd : Option Nat} {P : Program} {σ : St} {Q : Exit → St → Prop} {code : Code}
theorem ev_forL {α S R : Type} {xs : List α} {body : Nat → α → S → (S → Option R) → Option R} {kk : S → Option R} {s0 : S} {r : R} (H : forL xs body kk s0 = some r) (SS : Nat → S → St → Prop) (h0 : ∃ σ0, SS 0 s0 σ0 ∧ Shift X σ σ0)
    (hstep : ∀ k s σ', SS k s σ' → k ≤ xs.length → forLg body kk k (xs.drop k) s = some r → Ev X rd P code σ' (thenQ (fun σ'' => ∃ s' σ0, k < xs.length ∧ forLg body kk (k + 1) (xs.drop (k + 1)) s' = some r ∧ SS (k + 1) s' σ0 ∧ Shift X σ'' σ0) Q)) : Ev X rd P (.loop code) σ Q := by
  obtain ⟨σ0, g1, g2⟩ := h0
  refine ev_loop (fun n σ' => ∃ k s, n = xs.length - k ∧ k ≤ xs.length ∧ SS k s σ' ∧ forLg body kk k (xs.drop k) s = some r) xs.length ⟨σ0, ⟨0, s0, rfl, Nat.zero_le _, g1, H⟩, g2⟩ fun n σ' ⟨k, s, hn, hk, hS, hH⟩ => ?_
  refine ev_mono (hstep k s σ' hS hk hH) fun e σ'' h => ?_
  cases e <;> try exact h
  obtain ⟨s', σ1, h1, h2, h3, h4⟩ := h
  exact ⟨xs.length - (k + 1), σ1, by omega, ⟨k + 1, s', rfl, h1, h3, h2⟩, h4⟩
theorem forL_in {α S R : Type} {xs : List α} {body : Nat → α → S → (S → Option R) → Option R} {kk : S → Option R} {k : Nat} {s : S} {r : R} (hc : decide ((k : Int) < (xs.length : Nat)) = true) (H : forLg body kk k (xs.drop k) s = some r) :
    ∃ x, k < xs.length ∧ xs[k]? = some x ∧ body k x s (forLg body kk (k + 1) (xs.drop (k + 1))) = some r := by
  have hlt : k < xs.length := by simpa using hc
  rw [List.drop_eq_getElem_cons hlt] at H
  exact ⟨xs[k], hlt, List.getElem?_eq_getElem hlt, H⟩
theorem forL_out {α S R : Type} {xs : List α} {body : Nat → α → S → (S → Option R) → Option R} {kk : S → Option R} {k : Nat} {s : S} {r : R} (hc : decide ((k : Int) < (xs.length : Nat)) = false) (H : forLg body kk k (xs.drop k) s = some r) : kk s = some r := by
  have hge : xs.length ≤ k := by simpa using hc
  rw [List.drop_eq_nil_of_le hge] at H
  exact H

theorem ev_forN {S R : Type} {lo hi : Int} {body : Int → S → (S → Option R) → Option R} {kk : S → Option R} {s0 : S} {r : R} (H : forN lo hi body kk s0 = some r) (SS : Int → S → St → Prop) (h0 : ∃ σ0, SS lo s0 σ0 ∧ Shift X σ σ0)
    (hstep : ∀ n i s σ', SS i s σ' → n = (hi - i).toNat → lo ≤ i → -9223372036854775808 ≤ lo → hi ≤ 9223372036854775807 → forNg body kk n i s = some r → Ev X rd P code σ' (thenQ (fun σ'' => ∃ n' s' σ0, n = n' + 1 ∧ forNg body kk n' (i + 1) s' = some r ∧ SS (i + 1) s' σ0 ∧ Shift X σ'' σ0) Q)) : Ev X rd P (.loop code) σ Q := by
  obtain ⟨⟨hlo, hhi⟩, H⟩ := gdd_inv H
  obtain ⟨σ0, g1, g2⟩ := h0
  refine ev_loop (fun n σ' => ∃ i s, n = (hi - i).toNat ∧ lo ≤ i ∧ SS i s σ' ∧ forNg body kk n i s = some r) (hi - lo).toNat ⟨σ0, ⟨lo, s0, rfl, Int.le_refl _, g1, H⟩, g2⟩ fun n σ' ⟨i, s, hn, hl, hS, hH⟩ => ?_
  refine ev_mono (hstep n i s σ' hS hn hl hlo hhi hH) fun e σ'' h => ?_
  cases e <;> try exact h
  obtain ⟨n', s', σ1, h1, h2, h3, h4⟩ := h
  exact ⟨n', σ1, by omega, ⟨i + 1, s', by omega, by omega, h3, h2⟩, h4⟩
theorem forN_in {S R : Type} {hi i : Int} {n : Nat} {body : Int → S → (S → Option R) → Option R} {kk : S → Option R} {s : S} {r : R} (hc : decide (i < hi) = true) (hn : n = (hi - i).toNat) (H : forNg body kk n i s = some r) : ∃ n', n = n' + 1 ∧ i < hi ∧ body i s (forNg body kk n' (i + 1)) = some r := by
  have hlt : i < hi := by simpa using hc
  cases n with
  | zero => omega
  | succ n => exact ⟨n, rfl, hlt, H⟩
theorem forN_out {S R : Type} {hi i : Int} {n : Nat} {body : Int → S → (S → Option R) → Option R} {kk : S → Option R} {s : S} {r : R} (hc : decide (i < hi) = false) (hn : n = (hi - i).toNat) (H : forNg body kk n i s = some r) : kk s = some r := by
  have hge : ¬ i < hi := by simpa using hc
  cases n with
  | zero => exact H
  | succ n => omega

theorem ev_iter {S R : Type} {body : S → (S → Option R) → Option R} {n0 : Nat} {s0 : S} {r : R} (H : iter body n0 s0 = some r) (SS : S → St → Prop) (h0 : ∃ σ0, SS s0 σ0 ∧ Shift X σ σ0)
    (hstep : ∀ n s σ', SS s σ' → body s (iter body n) = some r → Ev X rd P code σ' (thenQ (fun σ'' => ∃ s' σ0, iter body n s' = some r ∧ SS s' σ0 ∧ Shift X σ'' σ0) Q)) : Ev X rd P (.loop code) σ Q := by
  obtain ⟨σ0, g1, g2⟩ := h0
  refine ev_loop (fun n σ' => ∃ s, SS s σ' ∧ iter body n s = some r) n0 ⟨σ0, ⟨s0, g1, H⟩, g2⟩ fun n σ' ⟨s, hS, hH⟩ => ?_
  cases n with
  | zero => cases hH
  | succ n =>
    refine ev_mono (hstep n s σ' hS hH) fun e σ'' h => ?_
    cases e <;> try exact h
    obtain ⟨s', σ1, h1, h2, h3⟩ := h
    exact ⟨n, σ1, Nat.lt_succ_self n, ⟨s', h2, h1⟩, h3⟩
end

/-! #### States written out -/
/-- A block of the call's own that is known: one, or a family. -/
inductive Ent where
  | e (k i : Nat) (pl : Pl) (b : Blk)
  | f (k n : Nat) (pl : Nat → Pl) (b : Nat → Blk)
def assocH : List Ent → Hp
  | [], _, _ => none
  | .e k i pl b :: l, j, q => bif Nat.beq j k && Nat.beq q i then some (pl, b) else assocH l j q
  | .f k n pl b :: l, j, q => bif Nat.beq j k && Nat.blt q n then some (pl q, b q) else assocH l j q
def assocN {α : Type} : List (Nat × α) → Nat → Option α
  | [], _ => none
  | (k, x) :: l, s => bif Nat.beq s k then some x else assocN l s
def mkS (fs : List (Nat × D)) (es : List Ent) (df : List Deferred) (gh : Nat × Bool) : St := ⟨assocN fs, assocH es, df, gh⟩

/-- Less is said of what a slot holds. -/
def Wk (d' d : D) : Prop := ∀ (w : World) (I : Nat → Prop) (base : Nat) (v : Value), DRep w I base d' v → DRep w I base d v
theorem Wk.rfl {d : D} : Wk d d := fun _ _ _ _ h => h
theorem Wk.eq {d' d : D} (h : d' = d) : Wk d' d := by subst h; exact .rfl
theorem Wk.old {f : Bool} {x : V} : Wk (.v f x) (.v false x) := fun _ _ _ _ h => .v _ _ _ (h.v_inv.mono (fun _ _ => _root_.rfl) (fun _ hb => ⟨hb.1, fun e => by cases e⟩))
theorem Wk.oldx {f : Bool} {x y : V} (h : x = y) : Wk (.v f x) (.v false y) := by subst h; exact .old
theorem Wk.nilo {f : Bool} {k i z : Nat} : Wk (.v f (.raw (.slice none 0 0))) (.o k i none z 0 0) := fun _ _ _ _ h => by rw [h.v_inv.raw_inv.1]; exact .onil k i z
theorem Wk.nill {f f' : Bool} {z : Nat} : Wk (.v f (.raw (.slice none 0 0))) (.v f' (.l z [])) := fun _ _ _ _ h => by rw [h.v_inv.raw_inv.1]; exact .v _ _ _ (.nil_slice z)
theorem Wk.ptr {f : Bool} {k i b off : Nat} : Wk (.v f (.raw (.pointer (some ⟨b, off, none⟩)))) (.p k i b off) := fun _ _ _ _ h => by rw [h.v_inv.raw_inv.1]; exact .p k i b off
theorem Wk.rawp {k i b off : Nat} {f : Bool} : Wk (.p k i b off) (.v f (.raw (.pointer (some ⟨b, off, none⟩)))) := fun _ _ _ _ h => by rw [h.p_inv]; exact .v _ _ _ (.raw _ _root_.rfl)
theorem Wk.cl {f : Bool} {z : Nat} {xs : List V} : Wk (.cl f z xs) (.v f (.l z xs)) := fun _ _ _ _ h => by cases h with | cl _ _ _ A h => exact .v _ _ _ h

inductive Wks : List D → List D → Prop
  | nil : Wks [] []
  | cons {x y : D} {xs ys : List D} (h : Wk x y) (t : Wks xs ys) : Wks (x :: xs) (y :: ys)
theorem Wks.len {xs ys : List D} (h : Wks xs ys) : xs.length = ys.length := by induction h with | nil => rfl | cons _ _ ih => simp [ih]
theorem Wks.get {xs ys : List D} (h : Wks xs ys) : ∀ {i : Nat} {y : D}, ys[i]? = some y → ∃ x, xs[i]? = some x ∧ Wk x y := by
  induction h with
  | nil => intro i y h; simp at h
  | cons h _ ih =>
    intro i y hy
    cases i with
    | zero => simp at hy; subst hy; exact ⟨_, rfl, h⟩
    | succ i => simp at hy; simpa using ih hy
theorem Wks.rfl : ∀ {xs : List D}, Wks xs xs
  | [] => .nil
  | _ :: _ => .cons .rfl .rfl

def FrOk (f : Nat → Option D) : List (Nat × D) → Prop
  | [] => True
  | (s, d) :: l => (∃ d', f s = some d' ∧ Wk d' d) ∧ FrOk f l
inductive EntOk (h : Hp) : Ent → Prop
  | e {k i : Nat} {pl : Pl} {b : Blk} (hk : h k i = some (pl, b)) : EntOk h (.e k i pl b)
  | w {k i ty : Nat} {pl : Pl} {xs ys : List D} (hk : h k i = some (pl, .row ty xs)) (hw : Wks xs ys) : EntOk h (.e k i pl (.row ty ys))
  | n {k i ty : Nat} : EntOk h (.e k i none (.row ty []))
  | f {k n : Nat} {pl : Nat → Pl} {b : Nat → Blk} (hk : ∀ i, i < n → h k i = some (pl i, b i)) : EntOk h (.f k n pl b)
def HpOk (h : Hp) : List Ent → Prop
  | [] => True
  | e :: l => EntOk h e ∧ HpOk h l

theorem FrOk.get {f : Nat → Option D} : ∀ {l : List (Nat × D)}, FrOk f l → ∀ {s : Nat} {d : D}, assocN l s = some d → ∃ d', f s = some d' ∧ Wk d' d
  | [], _, _, _, h => by simp [assocN] at h
  | (k, x) :: l, hf, s, d, h => by
    simp only [assocN] at h
    cases e : Nat.beq s k with
    | true => rw [e] at h; cases h; rw [Nat.eq_of_beq_eq_true e]; exact hf.1
    | false => rw [e] at h; exact FrOk.get hf.2 h
/-- What is known of a name's block, said less exactly. -/
theorem HpOk.get {h : Hp} : ∀ {l : List Ent}, HpOk h l → ∀ {k i : Nat} {pl : Pl} {b : Blk}, assocH l k i = some (pl, b) →
    h k i = some (pl, b) ∨ (∃ ty xs ys, h k i = some (pl, .row ty xs) ∧ Wks xs ys ∧ b = .row ty ys) ∨ (pl = none ∧ ∃ ty, b = .row ty [])
  | [], _, _, _, _, _, h => by simp [assocH] at h
  | .e k i pl b :: l, hl, j, q, pl', b', h => by
    simp only [assocH] at h
    cases e : (Nat.beq j k && Nat.beq q i) with
    | true =>
      rw [e] at h
      simp at h
      obtain ⟨rfl, rfl⟩ := h
      simp only [Bool.and_eq_true] at e
      rw [Nat.eq_of_beq_eq_true e.1, Nat.eq_of_beq_eq_true e.2]
      cases hl.1 with
      | e hk => exact .inl hk
      | w hk hw => exact .inr (.inl ⟨_, _, _, hk, hw, rfl⟩)
      | n => exact .inr (.inr ⟨rfl, _, rfl⟩)
    | false => rw [e] at h; exact HpOk.get hl.2 h
  | .f k n pl b :: l, hl, j, q, pl', b', h => by
    simp only [assocH] at h
    cases e : (Nat.beq j k && Nat.blt q n) with
    | true =>
      rw [e] at h
      simp at h
      obtain ⟨rfl, rfl⟩ := h
      simp only [Bool.and_eq_true] at e
      rw [Nat.eq_of_beq_eq_true e.1]
      cases hl.1 with
      | f hk => exact .inl (hk q (by simpa using e.2))
    | false => rw [e] at h; exact HpOk.get hl.2 h

theorem RowRep.wk {w : World} {I : Nat → Prop} {base b n ty : Nat} {xs ys : List D} {vs : List Value} (h : RowRep w I base b n ty xs vs) (hw : Wks xs ys) : RowRep w I base b n ty ys vs :=
  ⟨h.blk, h.len, by rw [← hw.len]; exact h.le, h.one, fun j d v hd hv => by obtain ⟨x, h1, h2⟩ := hw.get hd; exact h2 _ _ _ _ (h.rep j x v h1 hv)⟩

theorem Holds.mkS {C : Ctx} {σ : St} {I : Nat → Prop} {a : Act} {w : World} (h : Holds C σ I a w) {fs : List (Nat × D)} {es : List Ent} (hf : FrOk σ.fr fs) (he : HpOk σ.hp es) : Holds C (mkS fs es σ.df σ.gh) I a w := by
  have key : ∀ {k i : Nat} {b n : Nat} {blk : Blk}, assocH es k i = some (some (b, n), blk) → ∃ blk', σ.hp k i = some (some (b, n), blk') := fun hk => by
    rcases he.get hk with h1 | ⟨_, _, _, h1, _, _⟩ | ⟨h1, _⟩
    · exact ⟨_, h1⟩
    · exact ⟨_, h1⟩
    · cases h1
  refine ⟨h.df, h.sz, { h.wok with own := fun k i pl blk hk => ?_, inj := fun k i k' i' b n n' blk blk' h1 h2 => ?_, owned := fun k i b n blk hk => ?_, lo := fun k i b n blk hk => ?_ }, fun s d hs => ?_⟩
  · rcases he.get hk with h1 | ⟨ty, xs, ys, h1, h2, rfl⟩ | ⟨rfl, ty, rfl⟩
    · exact h.wok.own k i pl blk h1
    · have := h.wok.own k i _ _ h1
      cases pl with
      | none =>
        have hx : xs = [] := this
        subst hx
        exact List.eq_nil_of_length_eq_zero h2.len.symm
      | some p => obtain ⟨b, n⟩ := p; obtain ⟨vs, hr⟩ := this; exact ⟨vs, hr.wk h2⟩
    · rfl
  · obtain ⟨_, e1⟩ := key h1
    obtain ⟨_, e2⟩ := key h2
    exact h.wok.inj k i k' i' b n n' _ _ e1 e2
  · obtain ⟨_, e1⟩ := key hk
    exact h.wok.owned k i b n _ e1
  · obtain ⟨_, e1⟩ := key hk
    exact h.wok.lo k i b n _ e1
  · obtain ⟨d', h1, h2⟩ := hf.get hs
    exact h2 _ _ _ _ (h.fr s d' h1)

theorem shift_mk {X : Cx} {σ : St} {fs : List (Nat × D)} {es : List Ent} {df : List Deferred} {gh : Nat × Bool} (hf : FrOk σ.fr fs) (he : HpOk σ.hp es) (hd : σ.df = df) (hg : σ.gh = gh) : Shift X σ (mkS fs es df gh) := by
  subst hd; subst hg
  exact ⟨rfl, fun C I a w _ h => ⟨I, h.mkS hf he⟩⟩

/-! #### Typed lists -/
section
variable {α : Type} {E : α → V} {z : Nat}
theorem map_get {xs : List α} {n : Nat} {x : α} (h : xs[n]? = some x) : (xs.map E)[n]? = some (E x) := by rw [List.getElem?_map, h]; rfl
theorem els_len (f : Bool) {xs : List α} (hz : ∀ x, (V.cells (E x)).length = z) : (els f (xs.map E)).length = xs.length * z := by
  rw [els_map, List.length_map, flatMap_len V.cells (z := z) (xs.map E) (fun y hy => by obtain ⟨x, _, rfl⟩ := List.mem_map.1 hy; exact hz x), List.length_map]
theorem els_get (f : Bool) {xs : List α} (hz : ∀ x, (V.cells (E x)).length = z) {e j : Nat} {x : α} {c : V} (hx : xs[e]? = some x) (hc : (V.cells (E x))[j]? = some c) : (els f (xs.map E))[e * z + j]? = some (.v f c) := by
  rw [els_map, List.getElem?_map, flatMap_get V.cells (z := z) (fun y hy => by obtain ⟨x, _, rfl⟩ := List.mem_map.1 hy; exact hz x) (map_get hx) hc]; rfl
theorem els_seg (f : Bool) {xs : List α} (hz : ∀ x, (V.cells (E x)).length = z) {e : Nat} {x : α} (hx : xs[e]? = some x) : ((els f (xs.map E)).drop (e * z)).take z = cellsD f (E x) := by
  unfold els
  exact flatMap_seg (cellsD f) (z := z) (xs.map E) (fun y hy => by obtain ⟨x, _, rfl⟩ := List.mem_map.1 hy; simp [cellsD, hz x]) e (E x) (map_get hx)
theorem els_app (f : Bool) (xs ys : List α) : els f (xs.map E) ++ els f (ys.map E) = els f ((xs ++ ys).map E) := by rw [List.map_append, els_append]
theorem els_one (f : Bool) (x : α) : cellsD f (E x) = els f ([x].map E) := by simp [els]
theorem els_splice (f : Bool) : ∀ {xs : List α} (_ : ∀ x, (V.cells (E x)).length = z) {e : Nat} (x : α), e < xs.length → splice (els f (xs.map E)) (e * z) (cellsD f (E x)) = els f ((xs.set e x).map E)
  | y :: xs, hz, 0, x, _ => by
    have h1 : (cellsD f (E y)).length = z := by simp [cellsD, hz]
    have h2 : (cellsD f (E x)).length = z := by simp [cellsD, hz]
    simp only [List.map_cons, List.set_cons_zero, els, List.flatMap_cons, splice, Nat.zero_mul, List.take_zero, List.nil_append, Nat.zero_add, h2]
    rw [← h1, List.drop_left]
  | y :: xs, hz, e + 1, x, h => by
    have h1 : (cellsD f (E y)).length = z := by simp [cellsD, hz]
    have h2 : (cellsD f (E x)).length = z := by simp [cellsD, hz]
    have ih := els_splice f hz x (by simpa using h : e < xs.length)
    simp only [List.map_cons, List.set_cons_succ, els, List.flatMap_cons, splice, h2] at ih ⊢
    rw [← ih]
    have e1 : (e + 1) * z = z + e * z := by rw [Nat.add_mul, Nat.one_mul, Nat.add_comm]
    have e2 : ∀ n, (cellsD f (E y) ++ List.flatMap (cellsD f) (xs.map E)).take (z + n) = cellsD f (E y) ++ (List.flatMap (cellsD f) (xs.map E)).take n := fun n => by
      rw [List.take_append, List.take_of_length_le (by omega)]; congr 2; omega
    have e3 : ∀ n, (cellsD f (E y) ++ List.flatMap (cellsD f) (xs.map E)).drop (z + n) = (List.flatMap (cellsD f) (xs.map E)).drop n := fun n => by
      rw [List.drop_append, List.drop_eq_nil_of_le (by omega), List.nil_append]; congr 1; omega
    rw [e1, e2, Nat.add_assoc, e3]
    simp [List.append_assoc]
theorem els_set (f : Bool) {xs : List α} (hz : ∀ x, V.cells (E x) = [E x]) {e : Nat} (x : α) (h : e < xs.length) : (els f (xs.map E)).set e (.v f (E x)) = els f ((xs.set e x).map E) := by
  have h1 := els_splice (z := 1) f (fun x => by rw [hz x]; rfl) x h
  rw [Nat.mul_one] at h1
  rw [← h1]
  have : cellsD f (E x) = [.v f (E x)] := by simp [cellsD, hz x]
  rw [this, splice_one _ (by rw [els_len (z := 1) f (fun x => by rw [hz x]; rfl)]; omega)]
theorem els_rep (f : Bool) (n : Nat) (x : α) : els f (List.replicate n (E x)) = els f ((List.replicate n x).map E) := by rw [List.map_replicate]
theorem els_plain {xs : List α} (hp : ∀ x, (E x).plain = true ∧ (V.cells (E x)).length = z) : ∀ y ∈ xs.map E, y.plain = true ∧ (V.cells y).length = z := fun y hy => by obtain ⟨x, _, rfl⟩ := List.mem_map.1 hy; exact hp x
end
end Bf
