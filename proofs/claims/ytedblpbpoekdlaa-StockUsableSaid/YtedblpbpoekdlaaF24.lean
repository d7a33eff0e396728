/- The engine, part 24: more arithmetic. No program is named here. -/
import Derived.Test.YtedblpbpoekdlaaF23
namespace Bf
open Go Go.RowKit

def ishl (k : IntKind) (a b : Int) : Int := k.wrap (a * 2 ^ (min b.toNat k.bits))
def ishr (k : IntKind) (a b : Int) : Int := a.fdiv (2 ^ (min b.toNat k.bits))
def iand (k : IntKind) (a b : Int) : Int := k.wrap (BitVec.ofInt k.bits a &&& BitVec.ofInt k.bits b).toNat
def ior (k : IntKind) (a b : Int) : Int := k.wrap (BitVec.ofInt k.bits a ||| BitVec.ofInt k.bits b).toNat
def ixor (k : IntKind) (a b : Int) : Int := k.wrap (BitVec.ofInt k.bits a ^^^ BitVec.ofInt k.bits b).toNat
section
variable {P : Program} {hp : Hp} {ev : Operand → Option D} {dst : Option Nat} {t tt ty : TypeId} {pos : String} {af : Array Edge} {g : Option (Nat × Bool)} {x y : Operand} {f1 f2 : Bool} {k k' : IntKind} {a b : Int}
theorem q_quo (hx : ev x = some (.v f1 (.i k a))) (hy : ev y = some (.v f2 (.i k b))) (hb : b ≠ 0) : Quiet P hp ev ⟨dst, .binOp .quo t x y ty, tt, pos, af, g⟩ (.v true (.i k (k.wrap (a.tdiv b)))) :=
  Quiet.of ⟨rfl, fun C I w ρ _ hρ => by
    have h1 := (hρ x (by simp [Op.operands]) _ hx).i_inv
    have h2 := (hρ y (by simp [Op.operands]) _ hy).i_inv
    simp only [execOp, h1, h2, eqGuard_quo, binOp_quo, Op.intDiv, if_neg hb, Sem.run_bind, Sem.run_pure, Result.andThen_ok]
    exact ⟨rfl, .v _ _ _ (.i _ _)⟩⟩
theorem q_rem (hx : ev x = some (.v f1 (.i k a))) (hy : ev y = some (.v f2 (.i k b))) (hb : b ≠ 0) : Quiet P hp ev ⟨dst, .binOp .rem t x y ty, tt, pos, af, g⟩ (.v true (.i k (a.tmod b))) :=
  Quiet.of ⟨rfl, fun C I w ρ _ hρ => by
    have h1 := (hρ x (by simp [Op.operands]) _ hx).i_inv
    have h2 := (hρ y (by simp [Op.operands]) _ hy).i_inv
    simp only [execOp, h1, h2, eqGuard_rem, binOp_rem, Op.intDiv, if_neg hb, Sem.run_bind, Sem.run_pure, Result.andThen_ok]
    exact ⟨rfl, .v _ _ _ (.i _ _)⟩⟩
theorem q_shl (hx : ev x = some (.v f1 (.i k a))) (hy : ev y = some (.v f2 (.i k' b))) (hb : 0 ≤ b) : Quiet P hp ev ⟨dst, .binOp .shl t x y ty, tt, pos, af, g⟩ (.v true (.i k (ishl k a b))) :=
  Quiet.of ⟨rfl, fun C I w ρ _ hρ => by
    have h1 := (hρ x (by simp [Op.operands]) _ hx).i_inv
    have h2 := (hρ y (by simp [Op.operands]) _ hy).i_inv
    simp only [execOp, h1, h2, eqGuard_shl, binOp_shl, Op.shift, if_neg (Int.not_lt.2 hb), Sem.run_bind, Sem.run_pure, Result.andThen_ok]
    exact ⟨rfl, .v _ _ _ (.i _ _)⟩⟩
theorem q_shr (hx : ev x = some (.v f1 (.i k a))) (hy : ev y = some (.v f2 (.i k' b))) (hb : 0 ≤ b) : Quiet P hp ev ⟨dst, .binOp .shr t x y ty, tt, pos, af, g⟩ (.v true (.i k (ishr k a b))) :=
  Quiet.of ⟨rfl, fun C I w ρ _ hρ => by
    have h1 := (hρ x (by simp [Op.operands]) _ hx).i_inv
    have h2 := (hρ y (by simp [Op.operands]) _ hy).i_inv
    simp only [execOp, h1, h2, eqGuard_shr, binOp_shr, Op.shift, if_neg (Int.not_lt.2 hb), Sem.run_bind, Sem.run_pure, Result.andThen_ok]
    exact ⟨rfl, .v _ _ _ (.i _ _)⟩⟩
theorem q_and (hx : ev x = some (.v f1 (.i k a))) (hy : ev y = some (.v f2 (.i k b))) : Quiet P hp ev ⟨dst, .binOp .and t x y ty, tt, pos, af, g⟩ (.v true (.i k (iand k a b))) :=
  Quiet.of ⟨rfl, fun C I w ρ _ hρ => by
    have h1 := (hρ x (by simp [Op.operands]) _ hx).i_inv
    have h2 := (hρ y (by simp [Op.operands]) _ hy).i_inv
    simp only [execOp, h1, h2, eqGuard_and, binOp_and, Op.intBits, Sem.run_bind, Sem.run_pure, Result.andThen_ok]
    exact ⟨rfl, .v _ _ _ (.i _ _)⟩⟩
theorem q_or (hx : ev x = some (.v f1 (.i k a))) (hy : ev y = some (.v f2 (.i k b))) : Quiet P hp ev ⟨dst, .binOp .or t x y ty, tt, pos, af, g⟩ (.v true (.i k (ior k a b))) :=
  Quiet.of ⟨rfl, fun C I w ρ _ hρ => by
    have h1 := (hρ x (by simp [Op.operands]) _ hx).i_inv
    have h2 := (hρ y (by simp [Op.operands]) _ hy).i_inv
    simp only [execOp, h1, h2, eqGuard_or, binOp_or, Op.intBits, Sem.run_bind, Sem.run_pure, Result.andThen_ok]
    exact ⟨rfl, .v _ _ _ (.i _ _)⟩⟩
theorem q_xor (hx : ev x = some (.v f1 (.i k a))) (hy : ev y = some (.v f2 (.i k b))) : Quiet P hp ev ⟨dst, .binOp .xor t x y ty, tt, pos, af, g⟩ (.v true (.i k (ixor k a b))) :=
  Quiet.of ⟨rfl, fun C I w ρ _ hρ => by
    have h1 := (hρ x (by simp [Op.operands]) _ hx).i_inv
    have h2 := (hρ y (by simp [Op.operands]) _ hy).i_inv
    simp only [execOp, h1, h2, eqGuard_xor, binOp_xor, Op.intBits, Sem.run_bind, Sem.run_pure, Result.andThen_ok]
    exact ⟨rfl, .v _ _ _ (.i _ _)⟩⟩
end

/-! #### Names of blocks in slots are names alone -/
theorem Wk.olab {k i k' i' z off len : Nat} {pl : Pl} : Wk (.o k i pl z off len) (.o k' i' pl z off len) := fun w I base v h => by
  cases h with
  | o _ _ b n _ _ _ cap h1 h2 h3 => exact .o _ _ _ _ _ _ _ _ h1 h2 h3
  | onil => exact .onil _ _ _
theorem shift_wkd {X : Cx} {σ : St} {s : Nat} {d d' : D} (hs : σ.fr s = some d) (hw : Wk d d') : Shift X σ (σ.put (some s) d') := shift_re hs hw
end Bf
