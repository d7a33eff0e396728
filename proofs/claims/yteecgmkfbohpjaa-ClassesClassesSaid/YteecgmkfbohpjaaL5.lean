/- The statement ClassesClassesSaid: for all supplies and tables, the law's function returns true. No condition of its own. -/
import Derived.Test.YteecgmkfbohpjaaB3
import Derived.Test.YteecgmkfbohpjaaT27
namespace Bf
open Go Go.RowKit Go.Proofs Go.ChangeShapes Go.WideShapes Go.ChangeAt Go.Proofs.Yteecgmkfbohpjaa

set_option maxRecDepth 100000 in
theorem classesL_lifted (hlaw : ∀ xs : List V, xs.length = ([supS, tabS]).length → (∀ (i : Nat) p x, ([supS, tabS])[i]? = some p → xs[i]? = some x → argOk p x) → PureC Try.prog false 7 xs (.b true)) (os : Os) (started : os.Started) (H : Type) (enc : TypeId × Value → H) :
    ReturnsInHanded {} Try.checked os 7 .any (Rows.classesClassesSpec.pre6 enc Try.prog Try.f7 Rows.classesClassesRow.domain false) (Rows.classesClassesSpec.post enc Try.prog Try.f7 false true false false) := by
  refine returnsInHanded_of_change (C := Try.checked) own_knob started (by kernel_rfl) Try.func7
    (ChangeSpec.witness6 (enc := enc) (C := Try.checked) false ⟨#[], #[.slice none 0 0, .slice none 0 0], []⟩ 8 (by kernel_rfl) (by kernel_rfl) (by kernel_rfl) (by kernel_rfl)) ?_
  intro W base args ds gs before hval0 hW hcnd _
  have hrd : (Try.f7.params.toList.all fun t => Try.prog.readableRec t && Nat.blt t Try.prog.types.size) = true := by kernel_rfl
  have hrd' : ∀ t ∈ Try.f7.params.toList, Try.prog.readableRec t = true ∧ t < Try.prog.types.size := fun t ht => by
    have := List.all_eq_true.1 hrd t ht
    simp only [Bool.and_eq_true] at this
    exact ⟨this.1, by simpa using this.2⟩
  exact law_calls (P := Try.prog) (fn := Try.f7) (shs := [supS, tabS]) (tb := 4) laid_out hrd' (by kernel_rfl) rfl (by kernel_rfl) rfl (by
      obtain ⟨hl, rfl⟩ := whole_len hW
      match ds, hl with
      | [d1, d2], _ => rfl) hval0 hW hlaw
theorem classesL_holds (hlaw : ∀ xs : List V, xs.length = ([supS, tabS]).length → (∀ (i : Nat) p x, ([supS, tabS])[i]? = some p → xs[i]? = some x → argOk p x) → PureC Try.prog false 7 xs (.b true)) : Rows.ClassesClassesSaid :=
  OpenClaim.holds_of_wide 7 Try.f7 rfl rfl rfl rfl rfl rfl rfl ⟨rfl, rfl, rfl, rfl, rfl⟩ rfl rfl rfl rfl rfl (by kernel_rfl) Try.func7 (by kernel_rfl)
    (of_decide_eq_true (by kernel_rfl)) (by unfold Func.isWrapper; rw [if_neg (by decide +kernel)]; exact ⟨rfl, rfl⟩)
    (fun os started H enc _ => classesL_lifted hlaw os started H enc)
end Bf
namespace Go.Proofs.Yteecgmkfbohpjaa
theorem classesClasses_said : Rows.ClassesClassesSaid := Bf.classesL_holds fun xs hl h => by
  obtain ⟨x, y, rfl, hx, hy⟩ := Bf.args2 hl h
  obtain ⟨s, rfl⟩ := Bf.dec_supply hx
  obtain ⟨t, rfl⟩ := Bf.dec_table hy
  exact Bf.classes_c s t
end Go.Proofs.Yteecgmkfbohpjaa
