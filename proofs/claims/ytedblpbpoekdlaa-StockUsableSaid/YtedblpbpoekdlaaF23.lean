/- The engine, part 23: blocks that are lent. No program is named here. -/
import Derived.Test.YtedblpbpoekdlaaF22
namespace Bf
open Go Go.RowKit

inductive Snaps (hp : Hp) (fl : Bool) : List D → List V → Prop
  | nil : Snaps hp fl [] []
  | cons {d : D} {ds : List D} {y : V} {ys : List V} (h : Snap hp fl d y) (t : Snaps hp fl ds ys) : Snaps hp fl (d :: ds) (y :: ys)
theorem Snaps.len {hp : Hp} {fl : Bool} {ds : List D} {ys : List V} (h : Snaps hp fl ds ys) : ds.length = ys.length := by induction h with | nil => rfl | cons _ _ ih => simp [ih]
theorem Snaps.get {hp : Hp} {fl : Bool} {ds : List D} {ys : List V} (h : Snaps hp fl ds ys) : ∀ {j : Nat} {d : D} {c : V}, ds[j]? = some d → ys[j]? = some c → Snap hp fl d c := by
  induction h with
  | nil => intro j d c h; simp at h
  | cons h _ ih =>
    intro j d c h1 h2
    cases j with
    | zero => simp at h1 h2; subst h1; subst h2; exact h
    | succ j => simp at h1 h2; exact ih h1 h2
theorem Snap.ql {hp : Hp} {fl : Bool} {k i b n off ty : Nat} {xs cs : List D} {ys : List V} (hk : hp k i = some (some (b, n), .row ty xs)) (hd : (xs.drop off).take ys.length = cs) (h : Snaps hp fl cs ys) : Snap hp fl (.p k i b off) (.q ys) :=
  .q k i b n off ty xs cs ys hk hd h.len fun _ _ _ h1 h2 => h.get h1 h2
theorem shift_norow {X : Cx} {σ : St} (k i ty : Nat) : Shift X σ (σ.setH k i (some (none, .row ty []))) :=
  ⟨rfl, fun C I a w _ h => ⟨I, h.set k i none (.row ty []) rfl rfl rfl (Nat.le_refl _) (fun _ _ _ => rfl) (fun b n e => by cases e) rfl⟩⟩
theorem EntOk.nn {h : Hp} {k i ty : Nat} {xs : List D} (e : xs = []) : EntOk h (.e k i none (.row ty xs)) := by subst e; exact .n
end Bf
