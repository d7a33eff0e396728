/- The engine, part 27: pointers handed on as plain values; iterators that look at a block which their user turns. No program is named here. -/
import Derived.Test.YtedblpbpoekdlaaF26
import Derived.LoopNIn
namespace Bf
open Go Go.RowKit

theorem Snap.stl {hp : Hp} {fl : Bool} {ds : List D} {ys : List V} (h : Snaps hp fl ds ys) : Snap hp fl (.st ds) (.st ys) := .st ds ys h.len fun _ _ _ h1 h2 => h.get h1 h2

/-- A pointer, as a plain value. -/
abbrev rawp (b o : Nat) : V := .raw (.pointer (some ⟨b, o, none⟩))
theorem Wk.of_rawp {f : Bool} {k i b o : Nat} : Wk (.v f (Bf.rawp b o)) (.p k i b o) := fun w I base u h => by
  rw [h.v_inv.raw_inv.1]; exact .p _ _ _ _

theorem Wk.nilt {f f' : Bool} : Wk (.v f (.raw (.slice none 0 0))) (.v f' (.raw (.slice none 0 0))) := fun w I base u h => by
  rw [h.v_inv.raw_inv.1]; exact .v _ _ _ (.raw _ _root_.rfl)

/-- At a place of the world lies a number. -/
def RdI (b o : Nat) (k : IntKind) (n : Int) : World → Prop := fun w => w.cell? ⟨b, o, none⟩ = some (.int k n)
theorem RdI.lt {b o : Nat} {k : IntKind} {n : Int} {w : World} (h : RdI b o k n w) : b < w.heap.size := by
  unfold RdI World.cell? at h
  rcases Nat.lt_or_ge b w.heap.size with h1 | h1
  · exact h1
  · rw [show w.heap[b]? = none from by simp [h1]] at h; cases h
theorem Holds.rdI {C : Ctx} {σ : St} {I : Nat → Prop} {a : Act} {w : World} (h : Holds C σ I a w) {k i b n ty off : Nat} {cs : List D} {f : Bool} {kk : IntKind} {m : Int} (hk : σ.hp k i = some (some (b, n), .row ty cs)) (hc : cs[off]? = some (.v f (.i kk m))) : RdI b off kk m w := by
  obtain ⟨vs, hr⟩ := h.wok.row hk
  obtain ⟨v, _, g1, g2, _⟩ := hr.get hc
  rw [g2.i_inv] at g1
  exact g1
section
variable {P : Program} {hp : Hp} {ev : Operand → Option D} {dst : Option Nat} {t tt ty : TypeId} {pos : String} {af : Array Edge} {g : Option (Nat × Bool)} {x y c : Operand} {d : D} {f f1 f2 : Bool}
theorem q_fld_raw {s fl off b o : Nat} [hf : TFld P s fl off] (hx : ev x = some (.v f (Bf.rawp b o))) : Quiet P hp ev ⟨dst, .fieldAddr s x fl, tt, pos, af, g⟩ (.v true (Bf.rawp b (o + off))) :=
  Quiet.of ⟨rfl, fun C I w ρ _ hρ => by
    have h2 := (hρ x (by simp [Op.operands]) _ hx).v_inv.raw_inv.1
    simp only [execOp, h2, Sem.run_bind, Sem.run_pure, Result.andThen_ok, run_fieldPlace w hf.h, addr_add]
    exact ⟨rfl, .v _ _ _ (.raw _ rfl)⟩⟩
theorem q_nil_raw {b o : Nat} (hx : ev x = some (.v f (Bf.rawp b o))) : Quiet P hp ev ⟨dst, .nilCheck x, tt, pos, af, g⟩ (.v true (Bf.rawp b o)) :=
  Quiet.of ⟨rfl, fun C I w ρ _ hρ => by
    have h0 := (hρ x (by simp [Op.operands]) _ hx).v_inv.raw_inv.1
    simp only [execOp, h0]
    exact ⟨rfl, .v _ _ _ (.raw _ rfl)⟩⟩
theorem q_load_rd {b o ki ii : Nat} {k : IntKind} {n : Int} {pl : Pl} [ha : TAgg P t false] (hx : ev x = some (.v f (Bf.rawp b o))) (hk : hp ki ii = some (pl, .rd b o k n)) : Quiet P hp ev ⟨dst, .load t x, tt, pos, af, g⟩ (.v true (.i k n)) :=
  Quiet.of ⟨rfl, fun C I w ρ hw hρ => by
    have h1 := (hρ x (by simp [Op.operands]) _ hx).v_inv.raw_inv.1
    have h2 : pl = none ∧ b < C.base ∧ w.cell? ⟨b, o, none⟩ = some (.int k n) := by have := hw.own ki ii _ _ hk; cases pl <;> exact this
    simp only [execOp, h1, Instr.loadAt, Instr.sureAddr, Sem.run_bind, Sem.run_pure, Result.andThen_ok, run_loadVar1 w ha.h ⟨b, o, none⟩ _ h2.2.2]
    exact ⟨rfl, .v _ _ _ (.i k n)⟩⟩
end
section
variable {X : Cx} {σ : St}
/-- What the contexts know of the world, written down. -/
theorem shift_rd {b o ki ii : Nat} {k : IntKind} {n : Int} (hX : RdX X (RdI b o k n)) (hg : σ.gh.2 = false) (hn : σ.hp ki ii = none) : Shift X σ (σ.setH ki ii (some (none, .rd b o k n))) :=
  ⟨rfl, fun C I a w hC h => by
    obtain ⟨hr, hb⟩ := hX C σ I a w hC hg h
    have out : ∀ {j l : Nat} {x : Pl × Blk}, set2 σ.hp ki ii (some (none, .rd b o k n)) j l = some x → x = (none, .rd b o k n) ∨ σ.hp j l = some x := fun hj => by
      rcases set2_some hj with ⟨_, _, e⟩ | ⟨_, e⟩
      · cases e; exact .inl rfl
      · exact .inr e
    have out2 : ∀ {j l b' n' : Nat} {blk : Blk}, set2 σ.hp ki ii (some (none, .rd b o k n)) j l = some (some (b', n'), blk) → σ.hp j l = some (some (b', n'), blk) := fun hj => by
      rcases out hj with e | e
      · cases e
      · exact e
    refine ⟨I, h.df, h.sz, { h.wok with own := fun j l pl blk hj => ?_, inj := fun j l j' l' b n n' blk blk' h1 h2 => h.wok.inj j l j' l' b n n' blk blk' (out2 h1) (out2 h2), owned := fun j l b n blk hj => h.wok.owned j l b n blk (out2 hj), lo := fun j l b n blk hj => h.wok.lo j l b n blk (out2 hj) }, fun s d hs => h.fr s d hs⟩
    rcases out hj with e | e
    · cases e; exact ⟨rfl, hb b (fun _ h => h.lt), hr⟩
    · exact h.wok.own j l pl blk e⟩
end
theorem seq_full {n : Nat} {e : Exit} {σ : St} (he : e = .ret ∨ e = .normal) (hd : σ.df = []) (hg : σ.gh = (n, false)) : SeqQ n e σ := ⟨he, hd, .inl hg⟩
theorem retRm {P : Program} {rs : List ResultVar} {R : D → List Ent → Prop} {σ : St} {hp' : Hp} (ds : List D) (es' : List Ent) (hu : Unmark σ.hp σ.df hp') (h : ResDs P ⟨σ.fr, hp', [], σ.gh⟩ rs ds) (hR : R (resD ds) es') (he : HpOk hp' es') : RetR P rs R .ret σ := ⟨.inl rfl, hp', hu, ds, es', h, hR, he⟩
theorem endRm {P : Program} {rs : List ResultVar} {R : D → List Ent → Prop} {σ : St} {hp' : Hp} (ds : List D) (es' : List Ent) (hu : Unmark σ.hp σ.df hp') (h : ResDs P ⟨σ.fr, hp', [], σ.gh⟩ rs ds) (hR : R (resD ds) es') (he : HpOk hp' es') : RetR P rs R .normal σ := ⟨.inr rfl, hp', hu, ds, es', h, hR, he⟩

/-! #### Loops whose rounds are walked one after the other -/
def RoundsE (X : Cx) (rd : Option Nat) (P : Program) (body : Code) (Q : Exit → St → Prop) : Nat → St → Prop
  | 0, _ => False
  | m + 1, σ => Ev X rd P body σ (thenQ (RoundsE X rd P body Q m) Q)
section
variable {X : Cx} {rd : Option Nat} {P : Program} {σ : St} {Q : Exit → St → Prop} {body : Code}
theorem rounds_step {m : Nat} (h : Ev X rd P body σ (thenQ (RoundsE X rd P body Q m) Q)) : RoundsE X rd P body Q (m + 1) σ := h
theorem ev_rounds (m : Nat) (h : RoundsE X rd P body Q m σ) : Ev X rd P (.loop body) σ Q := by
  intro C I a w hC hh
  refine wpIn_loop_rounds m ?_
  have key : ∀ (m : Nat) (σ : St) (C : Ctx) (I : Nat → Prop) (a : Act) (w : World), RoundsE X rd P body Q m σ → X.is σ.gh C → Holds C σ I a w → Code.roundsIn (fenceOf rd) 0 P body (Lift X Q) m a w := by
    intro m
    induction m with
    | zero => intro σ C I a w h; exact h.elim
    | succ m ih =>
      intro σ C I a w h hC hh
      refine wpIn_mono (h C I a w hC hh) ?_
      rintro e a' w' ⟨C', σ', I', hC', hq, hh'⟩
      cases e with
      | normal => exact ih σ' C' I' a' w' hq hC' hh'
      | _ => exact ⟨C', σ', I', hC', hq, hh'⟩
  exact key m σ C I a w h hC hh
end
end Bf
