/- The statement ClassesMergeSpecSaid: for all supplies and tables, the law's function returns true. No condition of its own. -/
import Derived.Test.YteecgmkfbohpjaaRows
import Derived.Test.YteecgmkfbohpjaaB2
namespace Bf
open Go Go.RowKit Go.Proofs Go.ChangeShapes Go.WideShapes Go.ChangeAt Go.Proofs.Yteecgmkfbohpjaa

theorem own_knob : ownKnob Try.prog.godebug = none := by kernel_rfl
theorem laid_out : laidOutB Try.prog = true := by kernel_rfl
set_option maxRecDepth 100000 in
theorem mergeSpec_lifted (hlaw : ∀ xs : List V, xs.length = ([supS, tabS]).length → (∀ (i : Nat) p x, ([supS, tabS])[i]? = some p → xs[i]? = some x → argOk p x) → PureC Try.prog false 4 xs (.b true)) (os : Os) (started : os.Started) (H : Type) (enc : TypeId × Value → H) :
    ReturnsInHanded {} Try.checked os 4 .any (Rows.classesMergeSpecSpec.pre6 enc Try.prog Try.f4 Rows.classesMergeSpecRow.domain false) (Rows.classesMergeSpecSpec.post enc Try.prog Try.f4 false true false false) := by
  refine returnsInHanded_of_change (C := Try.checked) own_knob started (by kernel_rfl) Try.func4
    (ChangeSpec.witness6 (enc := enc) (C := Try.checked) false ⟨#[], #[.slice none 0 0, .slice none 0 0], []⟩ 8 (by kernel_rfl) (by kernel_rfl) (by kernel_rfl) (by kernel_rfl)) ?_
  intro W base args ds gs before hval0 hW hcnd _
  have hrd : (Try.f4.params.toList.all fun t => Try.prog.readableRec t && Nat.blt t Try.prog.types.size) = true := by kernel_rfl
  have hrd' : ∀ t ∈ Try.f4.params.toList, Try.prog.readableRec t = true ∧ t < Try.prog.types.size := fun t ht => by
    have := List.all_eq_true.1 hrd t ht
    simp only [Bool.and_eq_true] at this
    exact ⟨this.1, by simpa using this.2⟩
  exact law_calls (P := Try.prog) (fn := Try.f4) (shs := [supS, tabS]) (tb := 4) laid_out hrd' (by kernel_rfl) rfl (by kernel_rfl) rfl (by
      obtain ⟨hl, rfl⟩ := whole_len hW
      match ds, hl with
      | [d1, d2], _ => rfl) hval0 hW hlaw
theorem mergeSpec_holds (hlaw : ∀ xs : List V, xs.length = ([supS, tabS]).length → (∀ (i : Nat) p x, ([supS, tabS])[i]? = some p → xs[i]? = some x → argOk p x) → PureC Try.prog false 4 xs (.b true)) : Rows.ClassesMergeSpecSaid :=
  OpenClaim.holds_of_wide 4 Try.f4 rfl rfl rfl rfl rfl rfl rfl ⟨rfl, rfl, rfl, rfl, rfl⟩ rfl rfl rfl rfl rfl (by kernel_rfl) Try.func4 (by kernel_rfl)
    (of_decide_eq_true (by kernel_rfl)) (by unfold Func.isWrapper; rw [if_neg (by decide +kernel)]; exact ⟨rfl, rfl⟩)
    (fun os started H enc _ => mergeSpec_lifted hlaw os started H enc)
end Bf
namespace Go.Proofs.Yteecgmkfbohpjaa
theorem classesMergeSpec_said : Rows.ClassesMergeSpecSaid := Bf.mergeSpec_holds fun xs hl h => by
  obtain ⟨x, y, rfl, hx, hy⟩ := Bf.args2 hl h
  obtain ⟨s, rfl⟩ := Bf.dec_supply hx
  obtain ⟨t, rfl⟩ := Bf.dec_table hy
  exact Bf.mergeSpec_c s t
end Go.Proofs.Yteecgmkfbohpjaa
