/- The engine, part 24: regions that draw their order and hold operations that lay blocks of the call's own. No program is named here. -/
import Derived.Test.YteecgmkfbohpjaaE23
namespace Bf
open Go Go.RowKit

/-- What an operation comes to: a datum, nothing, or a block with a pointer to it. -/
inductive RO where
  | q (r : Option D)
  | l (k : Nat) (blk : Blk) (d : D)
  | t (k : Nat) (blk : Blk)

def memN (t : Nat) : List Nat → Bool
  | [] => false
  | s :: l => Nat.beq t s || memN t l
theorem memN_of {t : Nat} : ∀ {l : List Nat}, t ∈ l → memN t l = true
  | s :: l, h => by
    simp only [memN, Bool.or_eq_true]
    rcases List.mem_cons.1 h with rfl | h
    · exact .inl (Nat.beq_refl t)
    · exact .inr (memN_of h)
theorem of_memN {t : Nat} : ∀ {l : List Nat}, memN t l = true → t ∈ l
  | s :: l, h => by
    simp only [memN, Bool.or_eq_true] at h
    rcases h with h | h
    · rw [Nat.eq_of_beq_eq_true h]; exact List.mem_cons_self ..
    · exact List.mem_cons_of_mem _ (of_memN h)

def isDst (s : Nat) : List Oper → Bool
  | [] => false
  | o :: l => (match o.dst with | some t => Nat.beq t s | none => false) || isDst s l
theorem isDst_of {s : Nat} {o : Oper} : ∀ {l : List Oper}, o ∈ l → o.dst = some s → isDst s l = true
  | x :: l, h, hd => by
    simp only [isDst, Bool.or_eq_true]
    rcases List.mem_cons.1 h with rfl | h
    · exact .inl (by rw [hd]; exact Nat.beq_refl s)
    · exact .inr (isDst_of h hd)
/-- Slots that a turn of the block 'k' leaves: those that do not mention it, and of those that mention it alone the ones that the operation looks at or that the region does not write. -/
def keepT (ops : Array Oper) (o : Oper) (k : Nat) (s : Nat) (d : D) : Bool := !(d.ment k) || (!(d.anyK (fun j => !(Nat.beq j k))) && (memN s (o.looksAt ops) || !(isDst s ops.toList)))
def St.turnK (ops : Array Oper) (o : Oper) (σ : St) (k : Nat) (blk : Blk) : St :=
  { σ with fr := fun s => match σ.fr s with | some d => bif keepT ops o k s d then some d else none | none => none, hp := upd (dropH k σ.hp) k blk }
def outE (ops : Array Oper) (o : Oper) (σ : St) : RO → St
  | .q r => outS σ o.dst r
  | .l k blk d => σ.lay k blk o.dst d
  | .t k blk => σ.turnK ops o k blk

/-- What an operation sees of a state: the slots that it looks at, less the hidden keys. -/
def St.view (ops : Array Oper) (o : Oper) (F : Nat → Bool) (σ : St) : St :=
  { σ.hide F with fr := fun s => bif memN s (o.looksAt ops) then (σ.hide F).fr s else none }
theorem view_le (ops : Array Oper) (o : Oper) (F : Nat → Bool) (σ : St) : (σ.view ops o F).le σ where
  fr := fun s d h => by
    simp only [St.view] at h
    cases hm : memN s (o.looksAt ops) with
    | false => simp [hm] at h
    | true => simp [hm] at h; exact (hide_le F σ).fr s d h
  hp := (hide_le F σ).hp
  df := rfl
  gh := rfl

/-- What an operation that turns the block 'k' sees. -/
def St.viewT (ops : Array Oper) (o : Oper) (k : Nat) (σ : St) : St :=
  { σ.hide (fun j => !(Nat.beq j k)) with fr := fun s => match (σ.hide (fun j => !(Nat.beq j k))).fr s with | some d => bif memN s (o.looksAt ops) || (d.ment k && !(isDst s ops.toList)) then some d else none | none => none }
theorem viewT_hide (ops : Array Oper) (o : Oper) (k : Nat) (σ : St) : (σ.viewT ops o k).le (σ.hide (fun j => !(Nat.beq j k))) where
  fr := fun s d h => by
    simp only [St.viewT] at h
    cases hs : (σ.hide (fun j => !(Nat.beq j k))).fr s with
    | none => rw [hs] at h; cases h
    | some x => rw [hs] at h; simp only at h; cases hc : (memN s (o.looksAt ops) || (x.ment k && !(isDst s ops.toList))) <;> simp [hc] at h; subst h; rfl
  hp := fun _ _ h => h
  df := rfl
  gh := rfl

def YE (P : Program) (N : Rm) (ops : Array Oper) (H : Nat → Nat → Bool) (ks : Nat → Option Nat) (i : Nat) (σ : St) (o : Oper) : RO → Prop
  | .q none => guardNo N.n ops (σ.view ops o (H i)) o.guard = true ∧ dstOk N o.dst = true ∧ ks i = none
  | .q (some d) => guardOk N.n ops (σ.view ops o (H i)) o.guard = true ∧ dstOk N o.dst = true ∧ ks i = none ∧ Quiet P (σ.view ops o (H i)).hp (σ.view ops o (H i)).ev o d ∧ d.anyK (H i) = false
  | .l k blk d => guardOk N.n ops (σ.view ops o (H i)) o.guard = true ∧ (∃ s, o.dst = some s) ∧ ks i = some k ∧ Effect P N o (σ.view ops o (H i)) ((σ.view ops o (H i)).lay k blk o.dst d) ∧ blk.anyK (H i) = false ∧ d.anyK (H i) = false ∧ ∀ j, H i j = !(Nat.beq j k)
  | .t k blk => guardOk N.n ops (σ.viewT ops o k) o.guard = true ∧ o.dst = none ∧ ks i = some k ∧ Effect P N o (σ.viewT ops o k) { σ.viewT ops o k with hp := upd (σ.viewT ops o k).hp k blk } ∧ blk.anyK (H i) = false ∧ ∀ j, H i j = !(Nat.beq j k)
def EOp (P : Program) (N : Rm) (ops : Array Oper) (H : Nat → Nat → Bool) (ks : Nat → Option Nat) (i : Nat) (K : St → Prop) (σ : St) : Prop :=
  match ops[i]? with
  | none => K σ
  | some o => ∃ r, YE P N ops H ks i σ o r ∧ K (outE ops o σ r)
def RunE (P : Program) (N : Rm) (ops : Array Oper) (H : Nat → Nat → Bool) (ks : Nat → Option Nat) (K : St → Prop) : Nat → List Oper → St → Prop
  | _, [], σ => K σ
  | i, o :: rest, σ => ∃ r, YE P N ops H ks i σ o r ∧ RunE P N ops H ks K (i + 1) rest (outE ops o σ r)
def AnyE (P : Program) (N : Rm) (md : Region.Mode) (ops : Array Oper) (H : Nat → Nat → Bool) (ks : Nat → Option Nat) (Q : St → Prop) : Nat → Array Bool → St → Prop
  | 0, listed, σ => Region.ready md ops listed = [] ∧ Q σ
  | fuel + 1, listed, σ => (Region.ready md ops listed = [] → Q σ) ∧ ∀ i ∈ Region.ready md ops listed, EOp P N ops H ks i (AnyE P N md ops H ks Q fuel (listed.setIfInBounds i true)) σ

theorem anyK_of_ment {F : Nat → Bool} {d : D} {k : Nat} (h : d.anyK F = false) (hk : F k = true) : d.ment k = false := by
  cases hm : d.ment k with
  | false => rfl
  | true => rw [D.anyK_ment h hm] at hk; cases hk
theorem anyK_of_mentB {F : Nat → Bool} {d : Blk} {k : Nat} (h : d.anyK F = false) (hk : F k = true) : d.ment k = false := by
  cases hm : d.ment k with
  | false => rfl
  | true => rw [Blk.anyK_ment h hm] at hk; cases hk

section
variable {P : Program} {N : Rm} {ops : Array Oper} {md : Region.Mode} {H : Nat → Nat → Bool} {ks : Nat → Option Nat} {σ σ' : St} {o oi oj : Oper} {r r' : RO}

theorem bnot_false_cond {α : Type} {b : Bool} {x y : Option α} (h : b = true) : (bif b then x else y) = x := by rw [h]; rfl
/-- What is hidden, or looked at by no one, may turn unseen. -/
theorem view_out {F : Nat → Bool} (hd : ∀ d, oi.dst = some d → d ∉ o.looksAt ops) (hk : ∀ k, (∃ blk d, r = .l k blk d) ∨ (∃ blk, r = .t k blk) → F k = true) : (outE ops oi σ r).view ops o F = σ.view ops o F := by
  have hfr : ∀ t, memN t (o.looksAt ops) = true → ∀ d, oi.dst = some d → Nat.beq t d = false := fun t ht d e => beq_ne fun e2 => hd d e (e2 ▸ of_memN ht)
  have key : ∀ {k : Nat} {x : D}, F k = true → x.ment k = true → x.anyK F = true := fun {k x} hF hx => by
    cases h : x.anyK F with
    | true => rfl
    | false => rw [anyK_of_ment h hF] at hx; cases hx
  have keyB : ∀ {k : Nat} {x : Blk}, F k = true → x.ment k = true → x.anyK F = true := fun {k x} hF hx => by
    cases h : x.anyK F with
    | true => rfl
    | false => rw [anyK_of_mentB h hF] at hx; cases hx
  have hphide : ∀ (k : Nat) (blk : Blk), F k = true → (fun j => bif F j then none else match upd (dropH k σ.hp) k blk j with | some b => bif b.anyK F then none else some b | none => none) = (fun j => bif F j then none else match σ.hp j with | some b => bif b.anyK F then none else some b | none => none) := fun k blk hF => by
    funext j
    cases hj : F j with
    | true => rfl
    | false =>
      simp only [cond_false]
      have hjk : j ≠ k := fun e => by rw [e, hF] at hj; cases hj
      unfold upd dropH
      simp only [beq_ne hjk, cond_false]
      cases hs : σ.hp j with
      | none => rfl
      | some x =>
        cases hx : x.ment k with
        | false => simp [hx]
        | true => simp [hx, keyB hF hx]
  cases r with
  | q r =>
    unfold outE St.view St.hide
    simp only [outS_hp]
    congr 1
    · funext s
      cases hm : memN s (o.looksAt ops) with
      | false => rfl
      | true => simp only [cond_true]; rw [outS_fr (fun d e e2 => hd d e (e2 ▸ of_memN hm))]
    · cases r <;> cases oi.dst <;> rfl
    · exact outS_gh ..
  | l k blk d =>
    have hF := hk k (.inl ⟨blk, d, rfl⟩)
    have hput : ∀ (τ : St) t, memN t (o.looksAt ops) = true → (τ.put oi.dst d).fr t = τ.fr t := fun τ t ht => by
      cases hdst : oi.dst with
      | none => rfl
      | some s => show upd τ.fr s d t = τ.fr t; unfold upd; rw [hfr t ht s hdst]; rfl
    have hhp : ∀ (τ : St), (τ.put oi.dst d).hp = τ.hp := fun τ => by cases oi.dst <;> rfl
    have hdf : ∀ (τ : St), (τ.put oi.dst d).df = τ.df := fun τ => by cases oi.dst <;> rfl
    have hgh : ∀ (τ : St), (τ.put oi.dst d).gh = τ.gh := fun τ => by cases oi.dst <;> rfl
    unfold outE St.view St.hide St.lay
    simp only [hhp, hdf, hgh]
    congr 1
    · funext s
      cases hm : memN s (o.looksAt ops) with
      | false => rfl
      | true =>
        simp only [cond_true]
        rw [hput _ s hm]
        simp only [dropF]
        cases hs : σ.fr s with
        | none => rfl
        | some x =>
          cases hx : x.ment k with
          | false => simp [hx]
          | true => simp [hx, key hF hx]
    · exact hphide k blk hF
  | t k blk =>
    have hF := hk k (.inr ⟨blk, rfl⟩)
    unfold outE St.view St.hide St.turnK
    simp only
    congr 1
    · funext s
      cases hm : memN s (o.looksAt ops) with
      | false => rfl
      | true =>
        simp only [cond_true]
        cases hs : σ.fr s with
        | none => rfl
        | some x =>
          cases hx : x.ment k with
          | false => simp [keepT, hx]
          | true => cases hkt : keepT ops oi k s x <;> simp [hkt, key hF hx]
    · exact hphide k blk hF
theorem st_ext {a b : St} (h1 : a.fr = b.fr) (h2 : a.hp = b.hp) (h3 : a.df = b.df) (h4 : a.gh = b.gh) : a = b := by cases a; cases b; simp_all
theorem viewT_out {k : Nat} (hin : oi ∈ ops.toList) (hd : ∀ d, oi.dst = some d → d ∉ o.looksAt ops) (hq : ∀ k', (∃ blk d, r = .l k' blk d) ∨ (∃ blk, r = .t k' blk) → k' ≠ k) : (outE ops oi σ r).viewT ops o k = σ.viewT ops o k := by
  have hdst : ∀ s, oi.dst = some s → memN s (o.looksAt ops) = false ∧ isDst s ops.toList = true := fun s e => ⟨by
    cases hm : memN s (o.looksAt ops) with
    | false => rfl
    | true => exact absurd (of_memN hm) (hd s e), isDst_of hin e⟩
  have base : ∀ (τ : St), (∀ s, oi.dst ≠ some s → (match (τ.hide (fun j => !(Nat.beq j k))).fr s with | some d => bif memN s (o.looksAt ops) || (d.ment k && !(isDst s ops.toList)) then some d else none | none => none) = (match (σ.hide (fun j => !(Nat.beq j k))).fr s with | some d => bif memN s (o.looksAt ops) || (d.ment k && !(isDst s ops.toList)) then some d else none | none => none)) →
      (τ.hide (fun j => !(Nat.beq j k))).hp = (σ.hide (fun j => !(Nat.beq j k))).hp → τ.df = σ.df → τ.gh = σ.gh → τ.viewT ops o k = σ.viewT ops o k := fun τ h1 h2 h3 h4 => by
    refine st_ext ?_ h2 h3 h4
    funext s
    show (match (τ.hide (fun j => !(Nat.beq j k))).fr s with | some d => bif memN s (o.looksAt ops) || (d.ment k && !(isDst s ops.toList)) then some d else none | none => none) = (match (σ.hide (fun j => !(Nat.beq j k))).fr s with | some d => bif memN s (o.looksAt ops) || (d.ment k && !(isDst s ops.toList)) then some d else none | none => none)
    by_cases hs : oi.dst = some s
    · obtain ⟨g1, g2⟩ := hdst s hs
      simp only [g1, g2, Bool.not_true, Bool.and_false, Bool.or_self, cond_false]
      cases (τ.hide (fun j => !(Nat.beq j k))).fr s <;> cases (σ.hide (fun j => !(Nat.beq j k))).fr s <;> rfl
    · exact h1 s hs
  have hpk : ∀ (k' : Nat) (blk : Blk), k' ≠ k → (fun j => bif !(Nat.beq j k) then none else match upd (dropH k' σ.hp) k' blk j with | some b => bif b.anyK (fun j => !(Nat.beq j k)) then none else some b | none => none) = (fun j => bif !(Nat.beq j k) then none else match σ.hp j with | some b => bif b.anyK (fun j => !(Nat.beq j k)) then none else some b | none => none) := fun k' blk hne => by
    funext j
    cases hj : Nat.beq j k with
    | false => rfl
    | true =>
      have := Nat.eq_of_beq_eq_true hj
      subst this
      simp only [Bool.not_true, cond_false]
      unfold upd dropH
      simp only [beq_ne (Ne.symm hne), cond_false]
      cases hs : σ.hp j with
      | none => rfl
      | some x =>
        cases hx : x.ment k' with
        | false => simp [hx]
        | true =>
          have : x.anyK (fun i => !(Nat.beq i j)) = true := by
            cases h : x.anyK (fun i => !(Nat.beq i j)) with
            | true => rfl
            | false => have := Blk.anyK_ment h hx; simp at this; exact absurd this hne
          simp [hx, this]
  cases r with
  | q r =>
    refine base _ (fun s hs => ?_) ?_ (by show (outS σ oi.dst r).df = σ.df; cases r <;> cases oi.dst <;> rfl) (outS_gh ..)
    · have : (outS σ oi.dst r).fr s = σ.fr s := outS_fr (fun d e e2 => hs (by rw [e, e2])) r
      simp only [outE, St.hide, this]
    · simp only [outE, St.hide, outS_hp]
  | l k' blk d =>
    have hne := hq k' (.inl ⟨blk, d, rfl⟩)
    have hhp : ∀ (τ : St), (τ.put oi.dst d).hp = τ.hp := fun τ => by cases oi.dst <;> rfl
    refine base _ (fun s hs => ?_) ?_ (by cases h : oi.dst <;> simp [outE, St.lay, St.put, h]) (by cases h : oi.dst <;> simp [outE, St.lay, St.put, h])
    · have hput : (σ.lay k' blk oi.dst d).fr s = dropF k' σ.fr s := by
        unfold St.lay
        cases hdd : oi.dst with
        | none => rfl
        | some t => show upd (dropF k' σ.fr) t d s = _; unfold upd; rw [beq_ne (fun e : s = t => hs (by rw [hdd, e]))]; rfl
      simp only [outE, St.hide, hput, dropF]
      cases hsx : σ.fr s with
      | none => rfl
      | some x =>
        cases hx : x.ment k' with
        | false => simp [hx]
        | true =>
          have : x.anyK (fun i => !(Nat.beq i k)) = true := by
            cases h : x.anyK (fun i => !(Nat.beq i k)) with
            | true => rfl
            | false => have := D.anyK_ment h hx; simp at this; exact absurd this hne
          simp [hx, this]
    · simp only [outE, St.hide, St.lay, hhp]
      exact hpk k' blk hne
  | t k' blk =>
    have hne := hq k' (.inr ⟨blk, rfl⟩)
    refine base _ (fun s hs => ?_) ?_ rfl rfl
    · simp only [outE, St.hide, St.turnK]
      cases hsx : σ.fr s with
      | none => rfl
      | some x =>
        cases hx : x.ment k' with
        | false => simp [keepT, hx]
        | true =>
          have : x.anyK (fun i => !(Nat.beq i k)) = true := by
            cases h : x.anyK (fun i => !(Nat.beq i k)) with
            | true => rfl
            | false => have := D.anyK_ment h hx; simp at this; exact absurd this hne
          cases hkt : keepT ops oi k' s x <;> simp [hkt, this]
    · simp only [outE, St.hide, St.turnK]
      exact hpk k' blk hne

theorem YE.congr {i : Nat} (h : YE P N ops H ks i σ o r) (he : σ'.view ops o (H i) = σ.view ops o (H i)) (ht : ∀ k, ks i = some k → (∀ j, H i j = !(Nat.beq j k)) → σ'.viewT ops o k = σ.viewT ops o k) : YE P N ops H ks i σ' o r := by
  cases r with
  | q r => cases r <;> simpa only [YE, he] using h
  | l k blk d => simpa only [YE, he] using h
  | t k blk =>
    have e := ht k h.2.2.1 h.2.2.2.2.2
    simpa only [YE, e] using h

theorem upd_comm {α : Type} (f : Nat → Option α) {a b : Nat} (h : a ≠ b) (x y : α) : upd (upd f a x) b y = upd (upd f b y) a x := by
  funext j
  unfold upd
  by_cases e1 : j = a
  · have e2 : Nat.beq j b = false := beq_ne fun e => h (e1 ▸ e)
    subst e1; rw [e2]; simp
  · rw [beq_ne e1]; rfl
theorem dropF_comm (k k' : Nat) (f : Nat → Option D) : dropF k (dropF k' f) = dropF k' (dropF k f) := by
  funext s
  unfold dropF
  cases f s with
  | none => rfl
  | some d => cases h1 : d.ment k <;> cases h2 : d.ment k' <;> simp [h1, h2]
theorem dropF_upd {k s : Nat} {d : D} (h : d.ment k = false) (f : Nat → Option D) : dropF k (upd f s d) = upd (dropF k f) s d := by
  funext j
  unfold dropF upd
  cases e : Nat.beq j s with
  | true => simp [h]
  | false => rfl
theorem dropH_upd {k k' : Nat} {b : Blk} (hk : k' ≠ k) (h : b.ment k = false) (f : Nat → Option Blk) : dropH k (upd f k' b) = upd (dropH k f) k' b := by
  funext j
  unfold dropH upd
  cases e : Nat.beq j k' with
  | true =>
    have : Nat.beq j k = false := beq_ne fun e2 => hk (by rw [← Nat.eq_of_beq_eq_true e, e2])
    simp [h, this]
  | false => rfl
theorem dropH_comm (k k' : Nat) (f : Nat → Option Blk) : dropH k (dropH k' f) = dropH k' (dropH k f) := by
  funext j
  unfold dropH
  cases e1 : Nat.beq j k <;> cases e2 : Nat.beq j k' <;> simp
  cases f j with
  | none => rfl
  | some d => cases h1 : d.ment k <;> cases h2 : d.ment k' <;> simp [h1, h2]
theorem put_lay {dst dst2 : Option Nat} {k : Nat} {blk : Blk} {d d2 : D} (hd : ∀ s, dst = some s → dst2 ≠ some s) (hm : d.ment k = false) : (σ.put dst d).lay k blk dst2 d2 = (σ.lay k blk dst2 d2).put dst d := by
  cases dst with
  | none => rfl
  | some s =>
    cases dst2 with
    | none => simp only [St.put, St.lay, dropF_upd hm]
    | some t =>
      have : s ≠ t := fun e => hd s rfl (by rw [e])
      simp only [St.put, St.lay, dropF_upd hm, upd_comm _ this]

theorem keepT_q {o' : Oper} {k s : Nat} {d : D} (h : d.ment k = false) : keepT ops o' k s d = true := by simp [keepT, h]
theorem turn_put' {o' : Oper} {dst : Option Nat} {k : Nat} {blk : Blk} {d : D} (hm : d.ment k = false) : (σ.put dst d).turnK ops o' k blk = (σ.turnK ops o' k blk).put dst d := by
  cases dst with
  | none => rfl
  | some s =>
    simp only [St.put, St.turnK]
    congr 1
    funext t
    unfold upd
    cases e : Nat.beq t s with
    | true => simp [keepT_q hm]
    | false => rfl
theorem turn_put {o' : Oper} {dst : Option Nat} {k : Nat} {blk : Blk} {d : D} (hm : d.ment k = false) : (σ.put dst d).turnK ops o' k blk = (σ.turnK ops o' k blk).put dst d := turn_put' hm
theorem turn_lay {o' : Oper} {k k' : Nat} {blk blk' : Blk} {dst : Option Nat} {d : D} (hne : k ≠ k') (hd : d.ment k' = false) (hb : blk.ment k' = false) (hb' : blk'.ment k = false) : (σ.lay k blk dst d).turnK ops o' k' blk' = (σ.turnK ops o' k' blk').lay k blk dst d := by
  have e : ∀ (f : Nat → Option D), (fun s => match dropF k f s with | some d => bif keepT ops o' k' s d then some d else none | none => none) = dropF k (fun s => match f s with | some d => bif keepT ops o' k' s d then some d else none | none => none) := fun f => by
    funext s
    simp only [dropF]
    cases hf : f s with
    | none => rfl
    | some x => cases h1 : x.ment k <;> cases h2 : keepT ops o' k' s x <;> simp [h1, h2]
  have key : ({ σ with fr := dropF k σ.fr, hp := upd (dropH k σ.hp) k blk } : St).turnK ops o' k' blk' = { σ.turnK ops o' k' blk' with fr := dropF k (σ.turnK ops o' k' blk').fr, hp := upd (dropH k (σ.turnK ops o' k' blk').hp) k blk } := by
    simp only [St.turnK, e, dropH_upd hne hb, dropH_upd (Ne.symm hne) hb', dropH_comm k' k, upd_comm _ hne]
  unfold St.lay
  rw [← key]
  exact turn_put' hd
theorem outE_comm {i j : Nat} (hd : ∀ d, oi.dst = some d → oj.dst ≠ some d) (h1 : YE P N ops H ks i σ oi r) (h2 : YE P N ops H ks j σ' oj r') (k1 : ∀ k, ks i = some k → H j k = true) (k2 : ∀ k, ks j = some k → H i k = true) :
    outE ops oj (outE ops oi σ r) r' = outE ops oi (outE ops oj σ r') r := by
  have hd' : ∀ d, oj.dst = some d → oi.dst ≠ some d := fun d e e' => hd d e' e
  have skipm : ∀ k, (D.v true (.t [])).ment k = false := fun k => rfl
  have qm : ∀ {i : Nat} {σ : St} {o : Oper} {r : Option D} {k : Nat}, YE P N ops H ks i σ o (.q r) → H i k = true → (r.getD (.v true (.t []))).ment k = false := fun {i σ o r k} h hk => by
    cases r with
    | none => exact skipm k
    | some x => exact anyK_of_ment h.2.2.2.2 hk
  cases r with
  | q r =>
    cases r' with
    | q r' => exact outS_comm hd r r'
    | l k blk d =>
      unfold outE
      simp only [outS_put]
      exact put_lay hd (qm h1 (k2 k h2.2.2.1))
    | t k blk =>
      unfold outE
      simp only [outS_put]
      exact turn_put (qm h1 (k2 k h2.2.2.1))
  | l k blk d =>
    cases r' with
    | q r' =>
      unfold outE
      simp only [outS_put]
      exact (put_lay hd' (qm h2 (k1 k h1.2.2.1))).symm
    | l k' blk' d' =>
      obtain ⟨_, _, e1, _, hb1, hx1, hh1⟩ := h1
      obtain ⟨_, _, e2, _, hb2, hx2, hh2⟩ := h2
      have g1 := k1 k e1
      have g2 := k2 k' e2
      have hne : k ≠ k' := fun e => by rw [hh2 k, e] at g1; simp at g1
      have a1 := anyK_of_ment hx1 g2
      have a2 := anyK_of_ment hx2 g1
      have b1 := anyK_of_mentB hb1 g2
      have b2 := anyK_of_mentB hb2 g1
      unfold outE St.lay
      cases hd1 : oi.dst with
      | none =>
        cases hd2 : oj.dst with
        | none => simp only [St.put, dropF_comm k' k, dropH_upd hne b1, dropH_upd (Ne.symm hne) b2, dropH_comm k' k, upd_comm _ hne]
        | some t => simp only [St.put, dropF_comm k' k, dropF_upd a2, dropH_upd hne b1, dropH_upd (Ne.symm hne) b2, dropH_comm k' k, upd_comm _ hne]
      | some s =>
        cases hd2 : oj.dst with
        | none => simp only [St.put, dropF_comm k' k, dropF_upd a1, dropH_upd hne b1, dropH_upd (Ne.symm hne) b2, dropH_comm k' k, upd_comm _ hne]
        | some t =>
          have : s ≠ t := fun e => hd s hd1 (by rw [hd2, e])
          simp only [St.put, dropF_comm k' k, dropF_upd a1, dropF_upd a2, dropH_upd hne b1, dropH_upd (Ne.symm hne) b2, dropH_comm k' k, upd_comm _ hne, upd_comm _ this]
    | t k' blk' =>
      obtain ⟨_, _, e1, _, hb1, hx1, hh1⟩ := h1
      obtain ⟨_, _, e2, _, hb2, hh2⟩ := h2
      have g1 := k1 k e1
      have g2 := k2 k' e2
      have hne : k ≠ k' := fun e => by rw [hh2 k, e] at g1; simp at g1
      unfold outE
      exact turn_lay hne (anyK_of_ment hx1 g2) (anyK_of_mentB hb1 g2) (anyK_of_mentB hb2 g1)
  | t k blk =>
    cases r' with
    | q r' =>
      unfold outE
      simp only [outS_put]
      exact (turn_put (qm h2 (k1 k h1.2.2.1))).symm
    | l k' blk' d' =>
      obtain ⟨_, _, e1, _, hb1, hh1⟩ := h1
      obtain ⟨_, _, e2, _, hb2, hx2, hh2⟩ := h2
      have g1 := k1 k e1
      have g2 := k2 k' e2
      have hne : k ≠ k' := fun e => by rw [hh2 k, e] at g1; simp at g1
      unfold outE
      exact (turn_lay (Ne.symm hne) (anyK_of_ment hx2 g1) (anyK_of_mentB hb2 g1) (anyK_of_mentB hb1 g2)).symm
    | t k' blk' =>
      obtain ⟨_, _, e1, _, hb1, hh1⟩ := h1
      obtain ⟨_, _, e2, _, hb2, hh2⟩ := h2
      have g1 := k1 k e1
      have g2 := k2 k' e2
      have hne : k ≠ k' := fun e => by rw [hh2 k, e] at g1; simp at g1
      have b1 := anyK_of_mentB hb1 g2
      have b2 := anyK_of_mentB hb2 g1
      unfold outE St.turnK
      simp only [dropH_upd hne b1, dropH_upd (Ne.symm hne) b2, dropH_comm k' k, upd_comm _ hne]
      congr 1
      funext s
      cases σ.fr s with
      | none => rfl
      | some x => cases h1 : keepT ops oi k s x <;> cases h2 : keepT ops oj k' s x <;> simp [h1, h2]

theorem EOp.mono {i : Nat} {K K' : St → Prop} (h : ∀ σ, K σ → K' σ) (hh : EOp P N ops H ks i K σ) : EOp P N ops H ks i K' σ := by
  unfold EOp at *
  split
  · rename_i ho; simp only [ho] at hh; exact h _ hh
  · rename_i o ho; simp only [ho] at hh; obtain ⟨r, h1, h2⟩ := hh; exact ⟨r, h1, h _ h2⟩

theorem EOp_put {i j : Nat} (hi : ops[i]? = some oi) (hj : ops[j]? = some oj) (hap : oi.apart ops oj = true) (k1 : ∀ k, ks i = some k → H j k = true) (k2 : ∀ k, ks j = some k → H i k = true) {K : St → Prop} (hy : YE P N ops H ks i σ oi r) (h : EOp P N ops H ks j K (outE ops oi σ r)) :
    EOp P N ops H ks j (fun σ' => YE P N ops H ks i σ' oi r ∧ K (outE ops oi σ' r)) σ := by
  obtain ⟨h1, h2, h3⟩ := Oper.apart_spec hap
  have mi : oi ∈ ops.toList := by rw [Array.mem_toList_iff]; exact Array.mem_of_getElem? hi
  have mj : oj ∈ ops.toList := by rw [Array.mem_toList_iff]; exact Array.mem_of_getElem? hj
  unfold EOp at *
  simp only [hj] at *
  obtain ⟨r', hy', hK⟩ := h
  have hkr : ∀ k, (∃ blk d, r = .l k blk d) ∨ (∃ blk, r = .t k blk) → ks i = some k := fun k e => by
    rcases e with ⟨blk, d, rfl⟩ | ⟨blk, rfl⟩
    · exact hy.2.2.1
    · exact hy.2.2.1
  have hkr' : ∀ k, (∃ blk d, r' = .l k blk d) ∨ (∃ blk, r' = .t k blk) → ks j = some k := fun k e => by
    rcases e with ⟨blk, d, rfl⟩ | ⟨blk, rfl⟩
    · exact hy'.2.2.1
    · exact hy'.2.2.1
  have hy2 : YE P N ops H ks j σ oj r' := hy'.congr (view_out (fun d hd => h1 d hd) (fun k e => k1 k (hkr k e))).symm (fun k hk hH => (viewT_out mi (fun d hd => h1 d hd) (fun k' e e2 => by
    have := k1 k' (hkr k' e)
    rw [hH k', e2] at this
    simp at this)).symm)
  refine ⟨r', hy2, hy.congr (view_out (fun d hd => h3 d hd) (fun k e => k2 k (hkr' k e))) (fun k hk hH => viewT_out mj (fun d hd => h3 d hd) (fun k' e e2 => by
    have := k2 k' (hkr' k' e)
    rw [hH k', e2] at this
    simp at this)), ?_⟩
  rw [outE_comm (fun d hd e => h2 d hd e) hy hy2 k1 k2] at hK
  exact hK

/-- Whatever is listed, all that it waits for is listed. -/
def Down (md : Region.Mode) (ops : Array Oper) (listed : Array Bool) : Prop := ∀ j oj, ops[j]? = some oj → listed.getD j false = true → ∀ e ∈ oj.after, Region.binds md e = true → listed.getD e.on false = true
theorem getD_set_or {listed : Array Bool} {i t : Nat} (h : (listed.setIfInBounds i true).getD t false = true) : t = i ∨ listed.getD t false = true := by
  by_cases e : t = i
  · exact .inl e
  · rw [getD_set_ne false (fun e2 => e e2.symm)] at h; exact .inr h
theorem getD_set_true {listed : Array Bool} {i t : Nat} (h : listed.getD t false = true) : (listed.setIfInBounds i true).getD t false = true := by
  by_cases e : i = t
  · subst e
    rcases Nat.lt_or_ge i listed.size with h' | h'
    · simp [h']
    · simp [Array.getElem?_eq_none h'] at h
  · rw [getD_set_ne false e]; exact h
theorem Down.set {listed : Array Bool} {j : Nat} (h : Down md ops listed) (hj : j ∈ Region.ready md ops listed) : Down md ops (listed.setIfInBounds j true) := fun t ot ht hl e he hb => by
  obtain ⟨_, oj, hoj, hall⟩ := mem_ready.1 hj
  refine getD_set_true ?_
  rcases getD_set_or hl with rfl | hl
  · rw [ht] at hoj; cases hoj; exact hall e he hb
  · exact h t ot ht hl e he hb
/-- Is 'i' awaited by 'j', through others maybe? -/
def reachB (md : Region.Mode) (ops : Array Oper) (i : Nat) : Nat → Nat → Bool
  | 0, _ => false
  | f + 1, j => match ops[j]? with | some oj => oj.after.any (fun e => Region.binds md e && (Nat.beq e.on i || reachB md ops i f e.on)) | none => false
theorem reach_listed {listed : Array Bool} (h : Down md ops listed) {i : Nat} : ∀ (f j : Nat), reachB md ops i f j = true → (∀ oj, ops[j]? = some oj → ∀ e ∈ oj.after, Region.binds md e = true → listed.getD e.on false = true) → listed.getD i false = true
  | 0, _, hr, _ => by simp [reachB] at hr
  | f + 1, j, hr, hj => by
    unfold reachB at hr
    cases ho : ops[j]? with
    | none => rw [ho] at hr; cases hr
    | some oj =>
      rw [ho] at hr
      simp only [Array.any_eq_true, Bool.and_eq_true, Bool.or_eq_true] at hr
      obtain ⟨m, hm, hb, he⟩ := hr
      have hl := hj oj ho _ (Array.getElem_mem hm) hb
      rcases he with he | he
      · rw [Nat.eq_of_beq_eq_true he] at hl; exact hl
      · exact reach_listed h f _ he fun ok hk e he' hb' => h _ ok hk hl e he' hb'
theorem not_reach {listed : Array Bool} (h : Down md ops listed) {i j f : Nat} (hi : i ∈ Region.ready md ops listed) (hj : j ∈ Region.ready md ops listed) : reachB md ops i f j = false := by
  cases hr : reachB md ops i f j with
  | false => rfl
  | true =>
    obtain ⟨_, oj, hoj, hall⟩ := mem_ready.1 hj
    have := reach_listed h f j hr fun ok hk e he hb => by rw [hoj] at hk; cases hk; exact hall e he hb
    have hi' := (mem_ready.1 hi).1
    rw [getD_both hi'] at this; cases this

theorem AnyE_first {Q : St → Prop} {i : Nat} (hi : ops[i]? = some oi) :
    ∀ (fuel : Nat) (listed : Array Bool) (σ : St),
      (∀ j oj, ops[j]? = some oj → j ≠ i → listed.getD j true = false → (∀ e ∈ oj.after, Region.binds md e = true → e.on ≠ i) → oi.apart ops oj = true) → Down md ops listed →
      (∀ j listed', j ≠ i → Down md ops listed' → i ∈ Region.ready md ops listed' → j ∈ Region.ready md ops listed' → (∀ k, ks i = some k → H j k = true) ∧ (∀ k, ks j = some k → H i k = true)) →
      i ∈ Region.ready md ops listed → YE P N ops H ks i σ oi r →
      AnyE P N md ops H ks Q fuel (listed.setIfInBounds i true) (outE ops oi σ r) → AnyE P N md ops H ks Q (fuel + 1) listed σ := by
  intro fuel
  induction fuel with
  | zero =>
    intro listed σ _ _ _ hr hy HH
    refine ⟨fun h => (by rw [h] at hr; cases hr), fun j hj => ?_⟩
    by_cases hji : j = i
    · subst hji; unfold EOp; simp only [hi]; exact ⟨r, hy, HH⟩
    · have := ready_mono hj hji
      rw [HH.1] at this
      cases this
  | succ fuel ih =>
    intro listed σ hfree hdn hkey hr hy HH
    refine ⟨fun h => (by rw [h] at hr; cases hr), fun j hj => ?_⟩
    by_cases hji : j = i
    · subst hji; unfold EOp; simp only [hi]; exact ⟨r, hy, HH⟩
    · have h1 := HH.2 j (ready_mono hj hji)
      obtain ⟨hjun, oj, hoj, hall⟩ := mem_ready.1 hj
      have hnot : ∀ e ∈ oj.after, Region.binds md e = true → e.on ≠ i := fun e he hb heq => by
        have h1 := hall e he hb
        have h0 := (mem_ready.1 hr).1
        rw [heq] at h1
        rcases Nat.lt_or_ge i listed.size with h' | h'
        · simp [h'] at h0 h1; rw [h0] at h1; cases h1
        · simp [Array.getElem?_eq_none h'] at h1
      obtain ⟨f2, f3⟩ := hkey j listed hji hdn hr hj
      have h2 := EOp_put hi hoj (hfree j oj hoj hji hjun hnot) f2 f3 hy h1
      refine h2.mono (fun σ' h3 => ih (listed.setIfInBounds j true) σ' (fun k ok hk hki hun hno => hfree k ok hk hki ?_ hno) (hdn.set hj) hkey (ready_mono hr (Ne.symm hji)) h3.1 ?_)
      · by_cases hjk : j = k
        · subst hjk; exact hjun
        · rw [getD_set_ne true hjk] at hun; exact hun
      · rw [Array.setIfInBounds_comm _ _ hji]
        exact h3.2

/-- The pairs that may run in either order hide each other's keys. -/
def keysB (md : Region.Mode) (ops : Array Oper) (H : Nat → Nat → Bool) (ks : Nat → Option Nat) : Bool :=
  (List.range ops.size).all fun i => match ks i with | none => true | some k => (List.range ops.size).all fun j => Nat.beq i j || reachB md ops i ops.size j || reachB md ops j ops.size i || H j k
theorem keysB_pair (hkb : keysB md ops H ks = true) {listed : Array Bool} {i j : Nat} (hji : j ≠ i) (hd : Down md ops listed) (hi : i ∈ Region.ready md ops listed) (hj : j ∈ Region.ready md ops listed) : (∀ k, ks i = some k → H j k = true) ∧ (∀ k, ks j = some k → H i k = true) := by
  have key : ∀ i j, j ≠ i → i ∈ Region.ready md ops listed → j ∈ Region.ready md ops listed → ∀ k, ks i = some k → H j k = true := fun i j hji hi hj k hk => by
    obtain ⟨_, oi, hoi, _⟩ := mem_ready.1 hi
    obtain ⟨_, oj, hoj, _⟩ := mem_ready.1 hj
    simp only [keysB, List.all_eq_true, List.mem_range] at hkb
    have hp := hkb i (Array.getElem?_eq_some_iff.1 hoi).1
    rw [hk] at hp
    simp only [List.all_eq_true, List.mem_range] at hp
    have hp := hp j (Array.getElem?_eq_some_iff.1 hoj).1
    simp only [Bool.or_eq_true] at hp
    rcases hp with ((hp | hp) | hp) | hp
    · exact absurd (Nat.eq_of_beq_eq_true hp).symm hji
    · rw [not_reach hd hi hj] at hp; cases hp
    · rw [not_reach hd hj hi] at hp; cases hp
    · exact hp
  exact ⟨key i j hji hi hj, key j i (Ne.symm hji) hj hi⟩
theorem AnyE_lex {Q : St → Prop} (hkb : keysB md ops H ks = true) : ∀ (l : List Oper) (k : Nat) (listed : Array Bool) (σ : St), (∀ j, l[j]? = ops[k + j]?) → Down md ops listed →
    Region.lexFrom md ops l.length k listed = true → RunE P N ops H ks Q k l σ → AnyE P N md ops H ks Q l.length listed σ
  | [], _, _, _, _, _, hB, h => ⟨by simpa [Region.lexFrom] using hB, h⟩
  | o :: l, k, listed, σ, hl, hdn, hB, h => by
    have h0 : ops[k]? = some o := by simpa using (hl 0).symm
    simp only [List.length_cons, Region.lexFrom, Bool.and_eq_true] at hB
    obtain ⟨⟨hr, hf⟩, hB'⟩ := hB
    obtain ⟨r, hy, hK⟩ := h
    have hr' : k ∈ Region.ready md ops listed := by simpa using hr
    exact AnyE_first h0 l.length listed σ (Region.free_spec h0 hf) hdn (fun j listed' hji hd hi hj => keysB_pair hkb hji hd hi hj) hr' hy
      (AnyE_lex hkb l (k + 1) _ _ (fun j => by have := hl (j + 1); simpa [Nat.add_assoc, Nat.add_comm 1 j] using this) (hdn.set hr') hB' hK)

variable {X : Cx} {C : Ctx} {rd : Option Nat}

theorem Effect.pre {σ0 σ1 σ2 : St} (h : Effect P N o σ0 σ2) (hl : σ0.le σ1) : Effect P N o σ1 σ2 :=
  ⟨h.1.trans hl.gh, h.2.1, fun C hC φ I a w hh => h.2.2 C hC φ I a w (hh.le hl)⟩
theorem Effect.post {σ0 σ1 σ2 : St} (h : Effect P N o σ0 σ1) (hl : σ2.le σ1) : Effect P N o σ0 σ2 :=
  ⟨hl.gh.trans h.1, h.2.1, fun C hC φ I a w hh => by
    have hr := h.2.2 C hC φ I a w hh
    generalize (execOp a.eval o).run P w = r at hr ⊢
    cases r with
    | halt x w' => exact hr
    | ok n w' =>
      cases n <;> try exact hr
      case value v => obtain ⟨φ', I', h'⟩ := hr; exact ⟨φ', I', h'.le hl⟩
      case skip => obtain ⟨φ', I', h'⟩ := hr; exact ⟨φ', I', h'.le hl⟩⟩
mutual
theorem D.anyK_one {k : Nat} : ∀ {d : D}, d.ment k = false → d.anyK (fun j => Nat.beq j k) = false
  | .p _ _, h => h
  | .pe _ _ _ _, h => h
  | .o _ _, h => h
  | .m _, h => h
  | .st xs, h => D.anyKs_one (xs := xs) (by simpa [D.ment] using h)
  | .v _ _, _ => rfl
theorem D.anyKs_one {k : Nat} : ∀ {xs : List D}, D.mentL k xs = false → D.anyKs (fun j => Nat.beq j k) xs = false
  | [], _ => rfl
  | x :: xs, h => by
    simp only [D.mentL, Bool.or_eq_false_iff] at h
    simp only [D.anyKs, D.anyK_one h.1, D.anyKs_one h.2, Bool.or_self]
end
theorem only_ne {k : Nat} {d : D} (h : d.ment k = false) : d.onlyK (fun j => !(Nat.beq j k)) = true := by
  unfold D.onlyK
  simp only [Bool.not_not]
  rw [D.anyK_one h]; rfl
theorem only_neB {k : Nat} {d : Blk} (h : d.ment k = false) : d.onlyK (fun j => !(Nat.beq j k)) = true := by
  unfold Blk.onlyK
  simp only [Bool.not_not]
  cases d <;> simp only [Blk.anyK, Blk.ment] at h ⊢ <;> first | rfl | (rw [D.anyKs_one h]; rfl)

/-- An operation that lays a block, in the whole state. -/
theorem lay_whole {k : Nat} {blk : Blk} {d : D} {s : Nat} (ho : o.dst = some s) (h : Effect P N o (σ.view ops o (fun j => !(Nat.beq j k))) ((σ.view ops o (fun j => !(Nat.beq j k))).lay k blk o.dst d)) (hb : blk.anyK (fun j => !(Nat.beq j k)) = false) (hd : d.anyK (fun j => !(Nat.beq j k)) = false) :
    Effect P N o σ (σ.lay k blk o.dst d) := by
  have hvh : (σ.view ops o (fun j => !(Nat.beq j k))).le (σ.hide (fun j => !(Nat.beq j k))) := ⟨fun s d h => by
    simp only [St.view] at h
    cases hm : memN s (o.looksAt ops) with
    | false => simp [hm] at h
    | true => simpa [hm] using h, fun _ _ h => h, rfl, rfl⟩
  have hcl : ((σ.view ops o (fun j => !(Nat.beq j k))).lay k blk o.dst d).clean (fun j => !(Nat.beq j k)) := by
    rw [ho]
    refine ⟨fun t x hx => ?_, fun j b hj => ?_⟩
    · rcases upd_some hx with ⟨_, rfl⟩ | ⟨_, hx⟩
      · exact hd
      · have h1 := hvh.fr t x (dropF_some hx).1
        simp only [St.hide] at h1
        cases hs : σ.fr t with
        | none => rw [hs] at h1; cases h1
        | some y => rw [hs] at h1; cases hy : y.anyK (fun j => !(Nat.beq j k)) <;> simp [hy] at h1; subst h1; exact hy
    · rcases upd_some hj with ⟨rfl, rfl⟩ | ⟨hne, hj⟩
      · exact ⟨by simp, hb⟩
      · have h1 := (dropH_some hj).2.1
        have h2 := hide_hp (F := fun j => !(Nat.beq j k)) (σ := σ) h1
        rw [beq_ne hne] at h2; cases h2
  refine (Effect.frame _ (h.pre hvh) hcl).post ?_
  rw [ho]
  refine ⟨fun t x hx => ?_, fun j b hj => ?_, rfl, rfl⟩
  · simp only [St.back]
    rcases upd_some hx with ⟨rfl, rfl⟩ | ⟨hne, hx⟩
    · have : ((σ.view ops o (fun j => !(Nat.beq j k))).lay k blk (some t) x).fr t = some x := by simp [St.lay, St.put, upd]
      rw [this]
    · obtain ⟨g1, g2⟩ := dropF_some hx
      cases hv : ((σ.view ops o (fun j => !(Nat.beq j k))).lay k blk (some s) d).fr t with
      | some y =>
        rcases upd_some hv with ⟨e, _⟩ | ⟨_, hy⟩
        · exact absurd e hne
        · have := (view_le ops o _ σ).fr t y (dropF_some hy).1
          rw [g1] at this; cases this; rfl
      | none =>
        simp only
        have g1' : σ.fr t = some x := g1
        rw [g1']
        have hst : (s == t) = false := by simpa using fun e : s = t => hne e.symm
        simp [only_ne g2, hst]
  · simp only [St.back]
    rcases upd_some hj with ⟨rfl, rfl⟩ | ⟨hne, hj⟩
    · simp [St.lay, St.put, upd]
    · obtain ⟨_, g1, g2⟩ := dropH_some hj
      have g1' : σ.hp j = some b := g1
      simp [beq_ne hne, g1', only_neB g2]

/-- An operation that turns a block, in the whole state. -/
theorem turn_whole {k : Nat} {blk : Blk} (ho : o.dst = none) (h : Effect P N o (σ.viewT ops o k) { σ.viewT ops o k with hp := upd (σ.viewT ops o k).hp k blk }) (hb : blk.anyK (fun j => !(Nat.beq j k)) = false) : Effect P N o σ (σ.turnK ops o k blk) := by
  have hvh := viewT_hide ops o k σ
  have hhid : ∀ t x, (σ.hide (fun j => !(Nat.beq j k))).fr t = some x → σ.fr t = some x ∧ x.anyK (fun j => !(Nat.beq j k)) = false := fun t x h1 => by
    simp only [St.hide] at h1
    cases hs : σ.fr t with
    | none => rw [hs] at h1; cases h1
    | some y => rw [hs] at h1; cases hy : y.anyK (fun j => !(Nat.beq j k)) <;> simp [hy] at h1; subst h1; exact ⟨rfl, hy⟩
  have hcl : ({ σ.viewT ops o k with hp := upd (σ.viewT ops o k).hp k blk } : St).clean (fun j => !(Nat.beq j k)) := by
    refine ⟨fun t x hx => (hhid t x (hvh.fr t x hx)).2, fun j b hj => ?_⟩
    rcases upd_some hj with ⟨rfl, rfl⟩ | ⟨hne, hj⟩
    · exact ⟨by simp, hb⟩
    · have h2 := hide_hp (F := fun j => !(Nat.beq j k)) (σ := σ) hj
      rw [beq_ne hne] at h2; cases h2
  refine (Effect.frame _ (h.pre hvh) hcl).post ?_
  rw [ho]
  refine ⟨fun t x hx => ?_, fun j b hj => ?_, rfl, rfl⟩
  · simp only [St.turnK] at hx
    cases hs : σ.fr t with
    | none => rw [hs] at hx; cases hx
    | some y =>
      rw [hs] at hx
      simp only at hx
      cases hkt : keepT ops o k t y with
      | false => simp [hkt] at hx
      | true =>
        simp [hkt] at hx
        subst hx
        simp only [St.back]
        cases hv : (σ.viewT ops o k).fr t with
        | some z =>
          have := (hhid t z (hvh.fr t z hv)).1
          rw [hs] at this; cases this; rfl
        | none =>
          simp only [hs]
          have hmt : y.ment k = false := by
            cases hm : y.ment k with
            | false => rfl
            | true =>
              simp only [keepT, hm, Bool.not_true, Bool.false_or, Bool.and_eq_true, Bool.not_eq_true'] at hkt
              have : (σ.hide (fun j => !(Nat.beq j k))).fr t = some y := by simp [St.hide, hs, hkt.1]
              simp only [St.viewT, this, hm, Bool.true_and] at hv
              rw [hkt.2] at hv
              cases hv
          simp [only_ne hmt]
  · simp only [St.turnK] at hj
    simp only [St.back]
    rcases upd_some hj with ⟨rfl, rfl⟩ | ⟨hne, hj⟩
    · simp [upd]
    · obtain ⟨_, g1, g2⟩ := dropH_some hj
      simp [beq_ne hne, g1, only_neB g2]

theorem EOp.sound {i : Nat} {K : St → Prop} {K' : Act → World → Prop} {Q' : Exit → Act → World → Prop} {φ : Phi} {I : Nat → Prop} {a : Act} {w : World} (hh : Holds C σ φ I a w) (hq : EOp P C.N ops H ks i K σ)
    (h : ∀ σ' φ' I' a' w', K σ' → Holds C σ' φ' I' a' w' → K' a' w') : wpOpIn (fenceOf rd) 0 P ops Q' i K' a w := by
  unfold EOp at hq
  unfold wpOpIn
  split
  · rename_i ho; simp only [ho] at hq; exact h _ _ _ _ _ hq hh
  · rename_i o ho
    simp only [ho] at hq
    obtain ⟨r, hy, hK⟩ := hq
    have hv := hh.le (view_le ops o (H i) σ)
    have hwant : guardOk C.N.n ops (σ.view ops o (H i)) o.guard = true → Region.wanted o (yielded ops a.tmps) = true := fun hg => by
      rcases guardOk_inv (dst := o.dst) (op := o.op) (tt := o.type) (pos := o.pos) (af := o.after) hg with h1 | ⟨s, want, f, h1, h2, h3⟩
      · simp [Region.wanted, h1]
      · rw [wanted_of hv (show guardSlot ops o = some (s, want) from h1) h2 (by simpa using h3)]
        simp
    cases r with
    | q r =>
      cases r with
      | none =>
        obtain ⟨hg, hd, _⟩ := hy
        rw [guardNo_inv hg hv]
        exact ⟨fun _ _ => trivial, h _ _ _ _ _ hK (hh.skip _ (fun s e => by have := hd; rw [e] at this; exact this))⟩
      | some d =>
        obtain ⟨hg, hd, _, hq, _⟩ := hy
        have hd' : ∀ s, o.dst = some s → C.N.can s = true := fun s e => by rw [e] at hd; simpa [dstOk] using hd
        rw [hwant hg, if_pos rfl]
        exact (hq.mono (view_le ops o (H i) σ).hp (fun x d' hx => by
          cases x with
          | tmp t => exact (view_le ops o (H i) σ).fr t d' hx
          | const v => exact hx
          | func f => exact hx
          | global g => exact hx)).wp hh hd' fun I' v w' hh' => h _ _ _ _ _ hK hh'
    | l k blk d =>
      obtain ⟨hg, ⟨s, hs⟩, _, he, hb, hx, hH⟩ := hy
      have hHe : H i = fun j => !(Nat.beq j k) := funext hH
      rw [hHe] at he hb hx
      rw [hwant hg, if_pos rfl]
      exact (lay_whole hs he hb hx).wp hh fun φ' I' a' w' hh' => h _ _ _ _ _ hK hh'
    | t k blk =>
      obtain ⟨hg, hs, _, he, hb, hH⟩ := hy
      have hHe : H i = fun j => !(Nat.beq j k) := funext hH
      rw [hHe] at hb
      have hv' := (hh.le (hide_le _ σ)).le (viewT_hide ops o k σ)
      have hw' : Region.wanted o (yielded ops a.tmps) = true := by
        rcases guardOk_inv (dst := o.dst) (op := o.op) (tt := o.type) (pos := o.pos) (af := o.after) hg with h1 | ⟨s, want, f, h1, h2, h3⟩
        · simp [Region.wanted, h1]
        · rw [wanted_of hv' (show guardSlot ops o = some (s, want) from h1) h2 (by simpa using h3)]
          simp
      rw [hw', if_pos rfl]
      exact (turn_whole hs he hb).wp hh fun φ' I' a' w' hh' => h _ _ _ _ _ hK hh'

theorem AnyE.sound {Q : St → Prop} {Q' : Exit → Act → World → Prop} (hQ : ∀ σ φ I a w, Q σ → Holds C σ φ I a w → Q' .normal a w) : ∀ (fuel : Nat) (listed : Array Bool) (σ : St) (φ : Phi) (I : Nat → Prop) (a : Act) (w : World), Holds C σ φ I a w →
    AnyE P C.N md ops H ks Q fuel listed σ → wpAnyIn (fenceOf rd) 0 P md ops Q' fuel listed a w
  | 0, _, _, _, _, _, _, hh, h => ⟨h.1, hQ _ _ _ _ _ h.2 hh⟩
  | fuel + 1, _, _, _, _, _, _, hh, h => ⟨fun h0 => hQ _ _ _ _ _ (h.1 h0) hh, fun i hi => (h.2 i hi).sound hh fun σ' φ' I' a' w' hK hh' => AnyE.sound hQ fuel _ σ' φ' I' a' w' hh' hK⟩

theorem outE_gh (o : Oper) (σ : St) (r : RO) : (outE ops o σ r).gh = σ.gh := by
  cases r with
  | q r => exact outS_gh σ o.dst r
  | l k blk d => cases h : o.dst <;> simp [outE, St.lay, St.put, h]
  | t k blk => rfl
theorem RunE_gh {K : St → Prop} {g : Nat × Bool} : ∀ {l : List Oper} {i : Nat} {σ : St}, σ.gh = g → RunE P N ops H ks K i l σ → RunE P N ops H ks (fun σ' => σ'.gh = g ∧ K σ') i l σ
  | [], _, _, hg, h => ⟨hg, h⟩
  | _ :: _, _, _, hg, ⟨r, h1, h2⟩ => ⟨r, h1, RunE_gh ((outE_gh _ _ _).trans hg) h2⟩
end

/-- A region that draws its order, with operations that lay blocks: 'H i' are the keys hidden from its i-th operation, 'ks i' the key that it lays. -/
theorem ev_drawE {X : Cx} {rd : Option Nat} {P : Program} {σ : St} {id : Nat} {l : List Oper} {Q : Exit → St → Prop} (H : Nat → Nat → Bool) (ks : Nat → Option Nat) (hm : P.follows .mixedOrders = true) (hB : Region.lexB .any l.toArray = true) (hk : keysB .any l.toArray H ks = true) (h : RunE P X.N l.toArray H ks (fun σ' => Q .normal σ') 0 l σ) : Ev X rd P (.region id l.toArray true) σ Q := by
  intro C φ I a w hC hh
  have hN := X.hN _ _ hC
  simp only [Region.lexB, Bool.and_eq_true] at hB
  refine wpIn_region_any hm ?_
  rw [← hN] at h
  have h1 := AnyE_lex (P := P) (N := C.N) (md := .any) (Q := fun σ' => σ'.gh = σ.gh ∧ Q .normal σ') hk l 0 (Array.replicate l.toArray.size false) σ (by simp) (fun j oj _ hl => (by rw [getD_replicate_false] at hl; cases hl)) (by simpa using hB.2) (RunE_gh rfl h)
  have h2 := AnyE.sound (rd := rd) (Q' := Lift X Q) (Q := fun σ' => σ'.gh = σ.gh ∧ Q .normal σ') (C := C) (fun σ' φ I a w hq hh => ⟨C, σ', φ, I, hq.1 ▸ hC, hq.2, hh⟩) _ _ σ φ I a { w with drawn := w.drawn + 1 } hh.drew h1
  simpa using h2
end Bf
