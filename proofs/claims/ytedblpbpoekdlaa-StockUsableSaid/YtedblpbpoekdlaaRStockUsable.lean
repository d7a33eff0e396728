/- The row of the law StockUsable. No condition of its own. -/
import Derived.Test.YtedblpbpoekdlaaK3U
namespace Bf
open Go Go.RowKit Go.Proofs Go.ChangeShapes Go.WideShapes Go.ChangeAt Go.Proofs.Ytedblpbpoekdlaa
abbrev stockUsable_shs : List (Bool × List Sh) := [(true, [.sl 8 true [.str, .str, .int .i64, .int .i64, .int .i64, .bool, .str, .str], .sl 6 true [.str, .str, .int .i64, .int .i64, .int .i64, .int .i64], .sl 1 false [.str], .sl 4 true [.str, .str, .int .i64, .int .i64], .sl 2 true [.str, .sl 1 false [.str]], .sl 1 false [.sl 4 true [.str, .str, .int .i64, .int .i64]], .sl 17 true [.str, .str, .int .i64, .int .i64, .sl 4 true [.str, .str, .int .i64, .int .i64], .sl 7 true [.int .i64, .int .i64, .str, .str, .bool, .int .i64, .int .i64], .sl 7 true [.int .i64, .int .i64, .str, .str, .bool, .int .i64, .int .i64], .int .i64, .int .i64, .int .i64, .int .i64, .int .i64, .int .i64, .int .i64, .sl 3 true [.str, .int .i64, .int .i64], .int .i64, .int .i64], .sl 4 true [.str, .str, .int .i64, .int .i64], .sl 1 false [.int .i64], .sl 1 false [.sl 6 true [.int .i64, .int .i64, .int .i64, .bool, .str, .str]], .sl 8 true [.int .i64, .int .i64, .int .i64, .int .i64, .int .i64, .int .i64, .int .i64, .int .i64]]), (true, [.int .i64, .int .i64, .int .i64]), (true, [.int .i64, .int .i64, .int .i64]), (false, [.int .i64]), (false, [.int .i64])]
theorem stockUsable_args {xs : List V} (g0 : ArgsAll stockUsable_shs xs) : ∃ (a0 : GWorld) (a1 : GLine) (a2 : GLine) (a3 : Int) (a4 : Int), xs = [GWorld.e a0, GLine.e a1, GLine.e a2, vi a3, vi a4] ∧ GWorld.wf a0 ∧ GLine.wf a1 ∧ GLine.wf a2 ∧ (fun n => (Lit.int .i64 n).wf = true) a3 ∧ (fun n => (Lit.int .i64 n).wf = true) a4 := by
  obtain ⟨x0, r0, rfl, h0, g1⟩ := g0
  obtain ⟨ys0, rfl, h0⟩ := h0
  obtain ⟨a0, e0, w0⟩ := GWorld_dec h0
  obtain ⟨x1, r1, rfl, h1, g2⟩ := g1
  obtain ⟨ys1, rfl, h1⟩ := h1
  obtain ⟨a1, e1, w1⟩ := GLine_dec h1
  obtain ⟨x2, r2, rfl, h2, g3⟩ := g2
  obtain ⟨ys2, rfl, h2⟩ := h2
  obtain ⟨a2, e2, w2⟩ := GLine_dec h2
  obtain ⟨x3, r3, rfl, h3, g4⟩ := g3
  obtain ⟨a3, rfl, w3⟩ := dec_i (dec_one h3)
  obtain ⟨x4, r4, rfl, h4, g5⟩ := g4
  obtain ⟨a4, rfl, w4⟩ := dec_i (dec_one h4)
  subst g5
  rw [show packV true ys0 = V.st ys0 from rfl, e0]
  rw [show packV true ys1 = V.st ys1 from rfl, e1]
  rw [show packV true ys2 = V.st ys2 from rfl, e2]
  exact ⟨a0, a1, a2, a3, a4, rfl, w0, w1, w2, w3, w4⟩
set_option maxRecDepth 100000 in
theorem stockUsable_lifted (hlaw : ∀ xs : List V, xs.length = (stockUsable_shs).length → (∀ (i : Nat) p x, (stockUsable_shs)[i]? = some p → xs[i]? = some x → argOk p x) → PureC Try.prog false 12 xs (.b true)) (os : Os) (started : os.Started) (H : Type) (enc : TypeId × Value → H) :
    ReturnsInHanded {} Try.checked os 12 .any (Rows.stockUsableSpec.pre6 enc Try.prog Try.f12 Rows.stockUsableRow.domain false) (Rows.stockUsableSpec.post enc Try.prog Try.f12 false true false false) := by
  refine returnsInHanded_of_change (C := Try.checked) own_knob started (by kernel_rfl) Try.func12
    (ChangeSpec.witness6 (enc := enc) (C := Try.checked) false ⟨#[], #[.agg #[.slice none 0 0, .slice none 0 0, .slice none 0 0, .slice none 0 0, .slice none 0 0, .slice none 0 0, .slice none 0 0, .slice none 0 0, .slice none 0 0, .slice none 0 0, .slice none 0 0], .agg #[.int .i64 0, .int .i64 0, .int .i64 0], .agg #[.int .i64 0, .int .i64 0, .int .i64 0], .int .i64 0, .int .i64 0], []⟩ 8 (by kernel_rfl) (by kernel_rfl) (by kernel_rfl) (by kernel_rfl)) ?_
  intro W base args ds gs before hval0 hW hcnd _
  have hrd : (Try.f12.params.toList.all fun t => Try.prog.readableRec t && Nat.blt t Try.prog.types.size) = true := by kernel_rfl
  have hrd' : ∀ t ∈ Try.f12.params.toList, Try.prog.readableRec t = true ∧ t < Try.prog.types.size := fun t ht => by
    have := List.all_eq_true.1 hrd t ht
    simp only [Bool.and_eq_true] at this
    exact ⟨this.1, by simpa using this.2⟩
  exact law_calls (P := Try.prog) (fn := Try.f12) (shs := stockUsable_shs) (tb := 4) laid_out hrd' (by kernel_rfl) rfl (by kernel_rfl) rfl (by
      obtain ⟨hl, rfl⟩ := whole_len hW
      match ds, hl with
      | [d0, d1, d2, d3, d4], _ => rfl) hval0 hW hlaw
theorem stockUsable_holds (hlaw : ∀ xs : List V, xs.length = (stockUsable_shs).length → (∀ (i : Nat) p x, (stockUsable_shs)[i]? = some p → xs[i]? = some x → argOk p x) → PureC Try.prog false 12 xs (.b true)) : Rows.StockUsableSaid :=
  OpenClaim.holds_of_wide 12 Try.f12 rfl rfl rfl rfl rfl rfl rfl ⟨rfl, rfl, rfl, rfl, rfl⟩ rfl rfl rfl rfl rfl (by kernel_rfl) Try.func12 (by kernel_rfl)
    (of_decide_eq_true (by kernel_rfl)) (by unfold Func.isWrapper; rw [if_neg (by decide +kernel)]; exact ⟨rfl, rfl⟩)
    (fun os started H enc _ => stockUsable_lifted hlaw os started H enc)
end Bf
