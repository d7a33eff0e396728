/- The engine, part 22: effects within regions that draw their order. No program is named here. -/
import Derived.Test.YtedblpbpoekdlaaF21
namespace Bf
open Go Go.RowKit

theorem Eff.mono {P : Program} {N : Rm} {o : Oper} {σ : St} {T T' : St → Prop} (h : Eff P N o σ T) (hT : ∀ σ', T σ' → T' σ') (hg : ∀ σ', T' σ' → σ'.gh = σ.gh) : Eff P N o σ T' :=
  ⟨h.1, hg, fun C hC I a w hh => by
    have := h.2.2 C hC I a w hh
    generalize (execOp a.eval o).run P w = r at this ⊢
    cases r with
    | halt x w' => exact this
    | ok n w' =>
      cases n <;> try exact this
      case value v => obtain ⟨σ', I', h1, h2⟩ := this; exact ⟨σ', I', hT _ h1, h2⟩
      case skip => obtain ⟨σ', I', h1, h2⟩ := this; exact ⟨σ', I', hT _ h1, h2⟩
      case enter f args => exact Calls.mono this (by rintro e w'' ⟨v, σ', I', h1, h2, h3⟩; exact ⟨v, σ', I', h1, hT _ h2, h3⟩)⟩
theorem app_gh {σ : St} {dst : Option Nat} {δ : Dl} : (σ.app dst δ).gh = σ.gh := by unfold St.app; cases dst <;> rfl
theorem ev_look {ops : Array Oper} {o : Oper} {σ τ : St} (h : ∀ t ∈ o.looksAt ops, τ.fr t = σ.fr t) {x : Operand} (hx : x ∈ o.op.operands) : τ.ev x = σ.ev x := by
  cases x with
  | tmp t =>
    refine h t ?_
    unfold Oper.looksAt
    refine List.mem_append.2 (.inl (List.mem_filterMap.2 ⟨.tmp t, by simpa using hx, rfl⟩))
  | _ => rfl
section
variable {P : Program} {N : Rm} {ops : Array Oper} {σ : St} {dst : Nat} {dd : Option Nat} {t tt : TypeId} {pos : String} {af : Array Edge} {x y : Operand} {d : D} {f : Bool} {L : Nat → Bool}
theorem LocEff.of {o : Oper} {A : Dl → Prop} (hw : ∀ δ, A δ → δ.within L) (hg : o.guard = none) (h : ∀ τ : St, (∀ z ∈ o.op.operands, τ.ev z = σ.ev z) → (∀ k i, L k = true → τ.hp k i = σ.hp k i) → ∃ T, Eff P N o τ T ∧ ∀ τ', T τ' → ∃ δ, A δ ∧ τ' = τ.app o.dst δ) : LocEff P N ops o L σ A :=
  ⟨hw, fun τ h1 h2 => ⟨by rw [hg]; rfl, by
    obtain ⟨T, g1, g2⟩ := h τ (fun z hz => ev_look h1 hz) h2
    exact g1.mono g2 (fun σ' hs => by obtain ⟨δ, _, rfl⟩ := hs; exact app_gh)⟩⟩
theorem x_store1 {k i b n off ty' : Nat} {xs : List D} [hz : TSz P t 1] (hx : σ.ev x = some (.p k i b off)) (hk : σ.hp k i = some (some (b, n), .row ty' xs)) (hy : σ.ev y = some d) (hpl : d.plain = true) (hl : d.cells = [d]) (hle : off < xs.length) (hd : dd = none) (hL : L k = true) :
    LocEff P N ops ⟨dd, .store t x y, tt, pos, af, none⟩ L σ (fun δ => δ = ⟨[(k, i, some (some (b, n), .row ty' (xs.set off d)))], .any, []⟩) :=
  .of (fun δ h => by subst h; exact ⟨fun e he => by simp at he; subst he; exact hL, fun e he => by cases he⟩) rfl fun τ h1 h2 => by
    refine ⟨_, e_store1 (σ := τ) (by rw [h1 x (by simp [Op.operands])]; exact hx) ((h2 k i hL).trans hk) (by rw [h1 y (by simp [Op.operands])]; exact hy) hpl hl hle hd, fun τ' h => ⟨_, rfl, ?_⟩⟩
    subst hd
    exact h
theorem x_store {k i b n off z ty' : Nat} {xs : List D} [hz : TSz P t z] (hx : σ.ev x = some (.p k i b off)) (hk : σ.hp k i = some (some (b, n), .row ty' xs)) (hy : σ.ev y = some d) (hpl : d.plain = true) (hl : d.cells.length = z) (hle : off + z ≤ xs.length) (hd : dd = none) (hL : L k = true) :
    LocEff P N ops ⟨dd, .store t x y, tt, pos, af, none⟩ L σ (fun δ => δ = ⟨[(k, i, some (some (b, n), .row ty' (splice xs off d.cells)))], .any, []⟩) :=
  .of (fun δ h => by subst h; exact ⟨fun e he => by simp at he; subst he; exact hL, fun e he => by cases he⟩) rfl fun τ h1 h2 => by
    refine ⟨_, e_store (σ := τ) (by rw [h1 x (by simp [Op.operands])]; exact hx) ((h2 k i hL).trans hk) (by rw [h1 y (by simp [Op.operands])]; exact hy) hpl hl hle hd, fun τ' h => ⟨_, rfl, ?_⟩⟩
    subst hd
    exact h
variable {α : Type} {E : α → V} {z : Nat}
theorem x_store_ee {k i b n e ty' : Nat} {xs : List α} {a : α} [hz : TSz P t z] (hx : σ.ev x = some (.p k i b (0 + e * z))) (hk : σ.hp k i = some (some (b, n), .row ty' (els f (xs.map E)))) (hE : ∀ x, (E x).plain = true ∧ (V.cells (E x)).length = z) (hlt : e < xs.length) (hy : σ.ev y = some (.v f (E a))) (hd : dd = none) (hL : L k = true) :
    LocEff P N ops ⟨dd, .store t x y, tt, pos, af, none⟩ L σ (fun δ => δ = ⟨[(k, i, some (some (b, n), .row ty' (els f ((xs.set e a).map E))))], .any, []⟩) :=
  .of (fun δ h => by subst h; exact ⟨fun e he => by simp at he; subst he; exact hL, fun e he => by cases he⟩) rfl fun τ h1 h2 => by
    refine ⟨_, e_store_ee (σ := τ) (by rw [h1 x (by simp [Op.operands])]; exact hx) ((h2 k i hL).trans hk) hE hlt (by rw [h1 y (by simp [Op.operands])]; exact hy) hd, fun τ' h => ⟨_, rfl, ?_⟩⟩
    subst hd
    exact h
theorem x_store_ef {k i b n e j ty' : Nat} {xs : List α} {a a' : α} {c : V} [hz : TSz P t 1] (hx : σ.ev x = some (.p k i b (0 + e * z + j))) (hk : σ.hp k i = some (some (b, n), .row ty' (els f (xs.map E)))) (hE : ∀ x, (E x).plain = true ∧ (V.cells (E x)).length = z) (ha : xs[e]? = some a) (hy : σ.ev y = some (.v f c)) (hpl : c.plain = true) (hc : V.cells c = [c])
    (hj : j < z) (hs : (V.cells (E a)).set j c = V.cells (E a')) (hd : dd = none) (hL : L k = true) :
    LocEff P N ops ⟨dd, .store t x y, tt, pos, af, none⟩ L σ (fun δ => δ = ⟨[(k, i, some (some (b, n), .row ty' (els f ((xs.set e a').map E))))], .any, []⟩) :=
  .of (fun δ h => by subst h; exact ⟨fun e he => by simp at he; subst he; exact hL, fun e he => by cases he⟩) rfl fun τ h1 h2 => by
    refine ⟨_, e_store_ef (σ := τ) (by rw [h1 x (by simp [Op.operands])]; exact hx) ((h2 k i hL).trans hk) hE ha (by rw [h1 y (by simp [Op.operands])]; exact hy) hpl hc hj hs hd, fun τ' h => ⟨_, rfl, ?_⟩⟩
    subst hd
    exact h
theorem x_appt {k i e bytes : Nat} {zv : Value} {pl : Pl} {xs ys zs : List α} [ht : TSl P t e] [hz : TSz P e z] [hzv : TZero P e zv] [hby : TBytes P e bytes]
    (hx : σ.ev x = some (.o k i pl z 0 xs.length)) (hk : σ.hp k i = some (pl, .row e (els f (xs.map E)))) (hy : σ.ev y = some (.v f (.l z (ys.map E)))) (hE : ∀ x, (E x).plain = true ∧ (V.cells (E x)).length = z) (he : xs ++ ys = zs) (hz1 : oneAll zv = true) (hzs : zv.cells.size = z)
    (hb : (xs.length + ys.length) * (bytes + 1) ≤ 140737488355328) (hN : N.can dst = true) (hL : L k = true) :
    LocEff P N ops ⟨some dst, .call { callee := .builtin .append, args := #[x, y], argTypes := #[t, t] }, tt, pos, af, none⟩ L σ (fun δ => ∃ pl', δ = ⟨[(k, i, some (pl', .row e (els f (zs.map E))))], .o k i pl' z 0 zs.length, []⟩) :=
  .of (fun δ h => by obtain ⟨_, rfl⟩ := h; exact ⟨fun e he => by simp at he; subst he; exact hL, fun e he => by cases he⟩) rfl fun τ h1 h2 => by
    refine ⟨_, e_appt (σ := τ) (by rw [h1 x (by simp [Op.operands, Call.operands])]; exact hx) ((h2 k i hL).trans hk) (by rw [h1 y (by simp [Op.operands, Call.operands])]; exact hy) hE he hz1 hzs hb hN, fun τ' h => ?_⟩
    obtain ⟨pl', rfl⟩ := h
    exact ⟨_, ⟨pl', rfl⟩, rfl⟩
theorem x_appt_nil {e bytes : Nat} {zv : Value} {ys : List α} {f1 : Bool} (k i : Nat) [ht : TSl P t e] [hz : TSz P e z] [hzv : TZero P e zv] [hby : TBytes P e bytes]
    (hx : σ.ev x = some (.v f1 (.raw (.slice none 0 0)))) (hy : σ.ev y = some (.v f (.l z (ys.map E)))) (hE : ∀ x, (E x).plain = true ∧ (V.cells (E x)).length = z) (hz1 : oneAll zv = true) (hzs : zv.cells.size = z)
    (hb : ys.length * (bytes + 1) ≤ 140737488355328) (hN : N.can dst = true) (hL : L k = true) :
    LocEff P N ops ⟨some dst, .call { callee := .builtin .append, args := #[x, y], argTypes := #[t, t] }, tt, pos, af, none⟩ L σ (fun δ => ∃ pl', δ = ⟨[(k, i, some (pl', .row e (els f (ys.map E))))], .o k i pl' z 0 ys.length, []⟩) :=
  .of (fun δ h => by obtain ⟨_, rfl⟩ := h; exact ⟨fun e he => by simp at he; subst he; exact hL, fun e he => by cases he⟩) rfl fun τ h1 h2 => by
    refine ⟨_, e_appt_nil (σ := τ) k i (by rw [h1 x (by simp [Op.operands, Call.operands])]; exact hx) (by rw [h1 y (by simp [Op.operands, Call.operands])]; exact hy) hE hz1 hzs hb hN, fun τ' h => ?_⟩
    obtain ⟨pl', rfl⟩ := h
    exact ⟨_, ⟨pl', rfl⟩, rfl⟩
theorem x_alloc {zv : Value} [hz : TZero P t zv] (k i : Nat) (h1 : oneAll zv = true) (hN : N.can dst = true) (hL : L k = true) :
    LocEff P N ops ⟨some dst, .alloc t, tt, pos, af, none⟩ L σ (fun δ => ∃ b, δ = ⟨[(k, i, some (some (b, ((zeroV zv).map (D.v true)).length), .row t ((zeroV zv).map (D.v true))))], .p k i b 0, []⟩) :=
  .of (fun δ h => by obtain ⟨_, rfl⟩ := h; exact ⟨fun e he => by simp at he; subst he; exact hL, fun e he => by cases he⟩) rfl fun τ _ _ => by
    refine ⟨_, e_alloc (σ := τ) k i h1 hN, fun τ' h => ?_⟩
    obtain ⟨b, rfl⟩ := h
    exact ⟨_, ⟨b, rfl⟩, rfl⟩
theorem x_box (k i : Nat) (hx : σ.ev x = some d) (hpl : d.plain = true) (hN : N.can dst = true) (hL : L k = true) :
    LocEff P N ops ⟨some dst, .box t x, tt, pos, af, none⟩ L σ (fun δ => ∃ b, δ = ⟨[(k, i, some (some (b, d.cells.length), .row t d.cells))], .p k i b 0, []⟩) :=
  .of (fun δ h => by obtain ⟨_, rfl⟩ := h; exact ⟨fun e he => by simp at he; subst he; exact hL, fun e he => by cases he⟩) rfl fun τ h1 _ => by
    refine ⟨_, e_box (σ := τ) k i (by rw [h1 x (by simp [Op.operands])]; exact hx) hpl hN, fun τ' h => ?_⟩
    obtain ⟨b, rfl⟩ := h
    exact ⟨_, ⟨b, rfl⟩, rfl⟩
theorem x_maket {e bytes n : Nat} {zv : Value} {k1 k2 : IntKind} {x0 : α} {f1 f2 : Bool} (k i : Nat) [ht : TSl P t e] [hz : TSz P e z] [hzv : TZero P e zv] [hby : TBytes P e bytes] (h1 : oneAll zv = true) (hzs : zv.cells.size = z)
    (hx : σ.ev x = some (.v f1 (.i k1 (n : Nat)))) (hy : σ.ev y = some (.v f2 (.i k2 (n : Nat)))) (hb : n * (bytes + 1) ≤ 281474976710656) (hN : N.can dst = true) (h0 : zeroE zv = E x0) (hL : L k = true) :
    LocEff P N ops ⟨some dst, .makeSlice t x y, tt, pos, af, none⟩ L σ (fun δ => ∃ b, δ = ⟨[(k, i, some (some (b, n * z), .row e (els true ((List.replicate n x0).map E))))], .o k i (some (b, n * z)) z 0 (List.replicate n x0).length, []⟩) :=
  .of (fun δ h => by obtain ⟨_, rfl⟩ := h; exact ⟨fun e he => by simp at he; subst he; exact hL, fun e he => by cases he⟩) rfl fun τ g1 _ => by
    refine ⟨_, e_maket (σ := τ) (E := E) k i h1 hzs (by rw [g1 x (by simp [Op.operands])]; exact hx) (by rw [g1 y (by simp [Op.operands])]; exact hy) hb hN h0, fun τ' h => ?_⟩
    obtain ⟨b, rfl⟩ := h
    exact ⟨_, ⟨b, rfl⟩, rfl⟩
end
end Bf
