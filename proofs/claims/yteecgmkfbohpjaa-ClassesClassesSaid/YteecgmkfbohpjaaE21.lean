/- The engine, part 21: more rules of a walk. No program is named here. -/
import Derived.Test.YteecgmkfbohpjaaE20
namespace Bf
open Go Go.RowKit
attribute [local irreducible] Quiet Effect RunS Ev PureC Shift RunQ
section
variable {X : Cx} {rd : Option Nat} {P : Program} {ops : Array Oper} {rest : List Oper} {σ : St} {Q : Exit → St → Prop} {tt t ty : TypeId} {pos : String} {af : Array Edge} {g : Option (Nat × Bool)} {x y : Operand} {f f1 f2 : Bool} {d : D}
theorem wapp {dst k n e z bytes : Nat} {zv : Value} {xs ys : List V} {dd : D} [ht : TSl P t e] [hz : TSz P e z] [hzv : TZero P e zv] [hby : TBytes P e bytes]
    (hx : σ.ev x = some (.o k n) := by exact rfl) (hk : σ.hp k = some (.sl f e z xs) := by exact rfl) (hn : n = xs.length := by exact rfl) (hy : σ.ev y = some dd := by exact rfl) (hs : Src σ.hp z dd f2 ys := by first | (apply Src.o <;> exact rfl) | (apply Src.l; (focus (intro y hy; simp at hy; obtain ⟨_, _, rfl⟩ := hy; rfl)))) (h0 : Nat.blt 0 z = true := by exact rfl) (hzs : zv.cells.size = z := by exact rfl)
    (hN : X.N.can dst = true := by exact rfl) (hg : guardOk X.N.n ops σ g = true := by exact rfl) (hb : (xs.length + ys.length) * (bytes + 1) ≤ 140737488355328) (h : RunS X rd P ops rest (σ.lay k (.sl (f && f2) e z (xs ++ ys)) (some dst) (.o k (n + ys.length))) Q) :
    RunS X rd P ops (⟨some dst, .call { callee := .builtin .append, args := #[x, y], argTypes := #[t, t] }, tt, pos, af, g⟩ :: rest) σ Q := re hg (e_append hx hk hn hy hs h0 hzs hb hN) h
theorem wmks {dst e z bytes n : Nat} {zv : Value} {k1 k2 : IntKind} [ht : TSl P t e] [hz : TSz P e z] [hzv : TZero P e zv] [hby : TBytes P e bytes] (h1 : oneAll zv = true := by exact rfl) (hzs : zv.cells.size = z := by exact rfl)
    (hx : σ.ev x = some (.v f1 (.i k1 (n : Nat))) := by exact rfl) (hy : σ.ev y = some (.v f2 (.i k2 (n : Nat))) := by exact rfl) (hN : X.N.can dst = true := by exact rfl) (hg : guardOk X.N.n ops σ g = true := by exact rfl)
    (hb : n * (bytes + 1) ≤ 281474976710656) (h : RunS X rd P ops rest (σ.lay dst (.sl true e z (List.replicate n (zeroE zv))) (some dst) (.o dst n)) Q) : RunS X rd P ops (⟨some dst, .makeSlice t x y, tt, pos, af, g⟩ :: rest) σ Q := re hg (e_make h1 hzs hx hy hb hN) h
end
end Bf
