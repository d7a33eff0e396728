/- The statement ClassesTableSaid: for all worlds, supplies, requests and times, the law's function returns true. No condition of its own. -/
import Derived.Test.YteecgmkfbohpjaaB3
import Derived.Test.YteecgmkfbohpjaaT24
namespace Bf
open Go Go.RowKit Go.Proofs Go.ChangeShapes Go.WideShapes Go.ChangeAt Go.Proofs.Yteecgmkfbohpjaa
set_option maxRecDepth 100000 in
theorem tableL_lifted (hlaw : ∀ xs : List V, xs.length = ([worldS, supS, reqS, intS]).length → (∀ (i : Nat) p x, ([worldS, supS, reqS, intS])[i]? = some p → xs[i]? = some x → argOk p x) → PureC Try.prog false 5 xs (.b true)) (os : Os) (started : os.Started) (H : Type) (enc : TypeId × Value → H) :
    ReturnsInHanded {} Try.checked os 5 .any (Rows.classesTableSpec.pre6 enc Try.prog Try.f5 Rows.classesTableRow.domain false) (Rows.classesTableSpec.post enc Try.prog Try.f5 false true false false) := by
  refine returnsInHanded_of_change (C := Try.checked) own_knob started (by kernel_rfl) Try.func5
    (ChangeSpec.witness6 (enc := enc) (C := Try.checked) false ⟨#[], #[.agg #[.slice none 0 0, .slice none 0 0, .slice none 0 0, .slice none 0 0, .slice none 0 0, .slice none 0 0, .slice none 0 0, .slice none 0 0, .slice none 0 0, .slice none 0 0, .slice none 0 0], .slice none 0 0, .slice none 0 0, .int .i64 0], []⟩ 8 (by kernel_rfl) (by kernel_rfl) (by kernel_rfl) (by kernel_rfl)) ?_
  intro W base args ds gs before hval0 hW hcnd _
  have hrd : (Try.f5.params.toList.all fun t => Try.prog.readableRec t && Nat.blt t Try.prog.types.size) = true := by kernel_rfl
  have hrd' : ∀ t ∈ Try.f5.params.toList, Try.prog.readableRec t = true ∧ t < Try.prog.types.size := fun t ht => by
    have := List.all_eq_true.1 hrd t ht
    simp only [Bool.and_eq_true] at this
    exact ⟨this.1, by simpa using this.2⟩
  exact law_calls (P := Try.prog) (fn := Try.f5) (shs := [worldS, supS, reqS, intS]) (tb := 4) laid_out hrd' (by kernel_rfl) rfl (by kernel_rfl) rfl (by
      obtain ⟨hl, rfl⟩ := whole_len hW
      match ds, hl with
      | [d1, d2, d3, d4], _ => rfl) hval0 hW hlaw
theorem tableL_holds (hlaw : ∀ xs : List V, xs.length = ([worldS, supS, reqS, intS]).length → (∀ (i : Nat) p x, ([worldS, supS, reqS, intS])[i]? = some p → xs[i]? = some x → argOk p x) → PureC Try.prog false 5 xs (.b true)) : Rows.ClassesTableSaid :=
  OpenClaim.holds_of_wide 5 Try.f5 rfl rfl rfl rfl rfl rfl rfl ⟨rfl, rfl, rfl, rfl, rfl⟩ rfl rfl rfl rfl rfl (by kernel_rfl) Try.func5 (by kernel_rfl)
    (of_decide_eq_true (by kernel_rfl)) (by unfold Func.isWrapper; rw [if_neg (by decide +kernel)]; exact ⟨rfl, rfl⟩)
    (fun os started H enc _ => tableL_lifted hlaw os started H enc)
end Bf
namespace Go.Proofs.Yteecgmkfbohpjaa
theorem classesTable_said : Rows.ClassesTableSaid := Bf.tableL_holds fun xs hl h => by
  obtain ⟨x, y, z, u, rfl, hx, hy, hz, hu⟩ := Bf.args4 hl h
  obtain ⟨w, rfl⟩ := Bf.dec_world hx
  obtain ⟨s, rfl⟩ := Bf.dec_supply hy
  obtain ⟨r, rfl⟩ := Bf.dec_request hz
  obtain ⟨n, rfl⟩ := Bf.dec_int hu
  exact Bf.tableL_c w s r n
end Go.Proofs.Yteecgmkfbohpjaa
