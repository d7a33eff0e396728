/- The row of the law QualityMore. No condition of its own. -/
import Derived.Test.YtedblpbpoekdlaaK3
namespace Bf
open Go Go.RowKit Go.Proofs Go.ChangeShapes Go.WideShapes Go.ChangeAt Go.Proofs.Ytedblpbpoekdlaa
abbrev qualityMore_shs : List (Bool × List Sh) := [(true, [.sl 8 true [.str, .str, .int .i64, .int .i64, .int .i64, .bool, .str, .str], .sl 6 true [.str, .str, .int .i64, .int .i64, .int .i64, .int .i64], .sl 1 false [.str], .sl 4 true [.str, .str, .int .i64, .int .i64], .sl 2 true [.str, .sl 1 false [.str]], .sl 1 false [.sl 4 true [.str, .str, .int .i64, .int .i64]], .sl 17 true [.str, .str, .int .i64, .int .i64, .sl 4 true [.str, .str, .int .i64, .int .i64], .sl 7 true [.int .i64, .int .i64, .str, .str, .bool, .int .i64, .int .i64], .sl 7 true [.int .i64, .int .i64, .str, .str, .bool, .int .i64, .int .i64], .int .i64, .int .i64, .int .i64, .int .i64, .int .i64, .int .i64, .int .i64, .sl 3 true [.str, .int .i64, .int .i64], .int .i64, .int .i64], .sl 4 true [.str, .str, .int .i64, .int .i64], .sl 1 false [.int .i64], .sl 1 false [.sl 6 true [.int .i64, .int .i64, .int .i64, .bool, .str, .str]], .sl 8 true [.int .i64, .int .i64, .int .i64, .int .i64, .int .i64, .int .i64, .int .i64, .int .i64]]), (false, [.int .i64]), (false, [.int .i64]), (false, [.int .i64]), (false, [.sl 3 true [.int .i64, .int .i64, .int .i64]]), (false, [.sl 1 false [.int .i64]]), (false, [.int .u8]), (false, [.int .i64])]
theorem qualityMore_args {xs : List V} (g0 : ArgsAll qualityMore_shs xs) : ∃ (a0 : GWorld) (a1 : Int) (a2 : Int) (a3 : Int) (a4 : List GSpec) (a5 : List Int) (a6 : Int) (a7 : Int), xs = [GWorld.e a0, vi a1, vi a2, vi a3, V.l 3 (List.map GSpec.e a4), V.l 1 (List.map vi a5), (V.i .u8) a6, vi a7] ∧ GWorld.wf a0 ∧ (fun n => (Lit.int .i64 n).wf = true) a1 ∧ (fun n => (Lit.int .i64 n).wf = true) a2 ∧ (fun n => (Lit.int .i64 n).wf = true) a3 ∧ (fun l => ∀ a ∈ l, GSpec.wf a) a4 ∧ (fun l => ∀ a ∈ l, (fun n => (Lit.int .i64 n).wf = true) a) a5 ∧ (fun n => (Lit.int .u8 n).wf = true) a6 ∧ (fun n => (Lit.int .i64 n).wf = true) a7 := by
  obtain ⟨x0, r0, rfl, h0, g1⟩ := g0
  obtain ⟨ys0, rfl, h0⟩ := h0
  obtain ⟨a0, e0, w0⟩ := GWorld_dec h0
  obtain ⟨x1, r1, rfl, h1, g2⟩ := g1
  obtain ⟨a1, rfl, w1⟩ := dec_i (dec_one h1)
  obtain ⟨x2, r2, rfl, h2, g3⟩ := g2
  obtain ⟨a2, rfl, w2⟩ := dec_i (dec_one h2)
  obtain ⟨x3, r3, rfl, h3, g4⟩ := g3
  obtain ⟨a3, rfl, w3⟩ := dec_i (dec_one h3)
  obtain ⟨x4, r4, rfl, h4, g5⟩ := g4
  obtain ⟨a4, rfl, w4⟩ := dec_sl (agg := true) (enc := GSpec.e) (W := GSpec.wf) (fun ys h => GSpec_dec h) (dec_one h4)
  obtain ⟨x5, r5, rfl, h5, g6⟩ := g5
  obtain ⟨a5, rfl, w5⟩ := dec_sl (agg := false) (enc := vi) (W := (fun n => (Lit.int .i64 n).wf = true)) (fun ys h => by obtain ⟨y, r, rfl, h1, h2⟩ := okVs_cons h; rw [okVs_nil h2]; obtain ⟨a, rfl, w⟩ := dec_i h1; exact ⟨a, rfl, w⟩) (dec_one h5)
  obtain ⟨x6, r6, rfl, h6, g7⟩ := g6
  obtain ⟨a6, rfl, w6⟩ := dec_i (dec_one h6)
  obtain ⟨x7, r7, rfl, h7, g8⟩ := g7
  obtain ⟨a7, rfl, w7⟩ := dec_i (dec_one h7)
  subst g8
  rw [show packV true ys0 = V.st ys0 from rfl, e0]
  exact ⟨a0, a1, a2, a3, a4, a5, a6, a7, rfl, w0, w1, w2, w3, w4, w5, w6, w7⟩
set_option maxRecDepth 100000 in
theorem qualityMore_lifted (hlaw : ∀ xs : List V, xs.length = (qualityMore_shs).length → (∀ (i : Nat) p x, (qualityMore_shs)[i]? = some p → xs[i]? = some x → argOk p x) → PureC Try.prog false 6 xs (.b true)) (os : Os) (started : os.Started) (H : Type) (enc : TypeId × Value → H) :
    ReturnsInHanded {} Try.checked os 6 .any (Rows.qualityMoreSpec.pre6 enc Try.prog Try.f6 Rows.qualityMoreRow.domain false) (Rows.qualityMoreSpec.post enc Try.prog Try.f6 false true false false) := by
  refine returnsInHanded_of_change (C := Try.checked) own_knob started (by kernel_rfl) Try.func6
    (ChangeSpec.witness6 (enc := enc) (C := Try.checked) false ⟨#[], #[.agg #[.slice none 0 0, .slice none 0 0, .slice none 0 0, .slice none 0 0, .slice none 0 0, .slice none 0 0, .slice none 0 0, .slice none 0 0, .slice none 0 0, .slice none 0 0, .slice none 0 0], .int .i64 0, .int .i64 0, .int .i64 0, .slice none 0 0, .slice none 0 0, .int .u8 0, .int .i64 0], []⟩ 8 (by kernel_rfl) (by kernel_rfl) (by kernel_rfl) (by kernel_rfl)) ?_
  intro W base args ds gs before hval0 hW hcnd _
  have hrd : (Try.f6.params.toList.all fun t => Try.prog.readableRec t && Nat.blt t Try.prog.types.size) = true := by kernel_rfl
  have hrd' : ∀ t ∈ Try.f6.params.toList, Try.prog.readableRec t = true ∧ t < Try.prog.types.size := fun t ht => by
    have := List.all_eq_true.1 hrd t ht
    simp only [Bool.and_eq_true] at this
    exact ⟨this.1, by simpa using this.2⟩
  exact law_calls (P := Try.prog) (fn := Try.f6) (shs := qualityMore_shs) (tb := 4) laid_out hrd' (by kernel_rfl) rfl (by kernel_rfl) rfl (by
      obtain ⟨hl, rfl⟩ := whole_len hW
      match ds, hl with
      | [d0, d1, d2, d3, d4, d5, d6, d7], _ => rfl) hval0 hW hlaw
theorem qualityMore_holds (hlaw : ∀ xs : List V, xs.length = (qualityMore_shs).length → (∀ (i : Nat) p x, (qualityMore_shs)[i]? = some p → xs[i]? = some x → argOk p x) → PureC Try.prog false 6 xs (.b true)) : Rows.QualityMoreSaid :=
  OpenClaim.holds_of_wide 6 Try.f6 rfl rfl rfl rfl rfl rfl rfl ⟨rfl, rfl, rfl, rfl, rfl⟩ rfl rfl rfl rfl rfl (by kernel_rfl) Try.func6 (by kernel_rfl)
    (of_decide_eq_true (by kernel_rfl)) (by unfold Func.isWrapper; rw [if_neg (by decide +kernel)]; exact ⟨rfl, rfl⟩)
    (fun os started H enc _ => qualityMore_lifted hlaw os started H enc)
end Bf
