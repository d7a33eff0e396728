/- What the given form reads as arguments, as data of the types; printed by a program (wip/tools/dec.py). -/
import Derived.Test.YtedblpbpoekdlaaK1
import Derived.Test.YtedblpbpoekdlaaU4
namespace Bf
open Go Go.RowKit Go.Proofs
set_option linter.unusedVariables false
def GRatio.wf (x : GRatio) : Prop := (fun _ => True) x.neg ∧ (fun _ => True) x.n ∧ (fun _ => True) x.d
theorem GRatio_dec {ys : List V} (g0 : Sh.okVs [.bool, .str, .str] ys) : ∃ a : GRatio, V.st ys = GRatio.e a ∧ GRatio.wf a := by
  obtain ⟨y1, r1, rfl, h1, g1⟩ := okVs_cons g0
  obtain ⟨a1, rfl⟩ := dec_b h1
  obtain ⟨y2, r2, rfl, h2, g2⟩ := okVs_cons g1
  obtain ⟨a2, rfl⟩ := dec_s h2
  obtain ⟨y3, r3, rfl, h3, g3⟩ := okVs_cons g2
  obtain ⟨a3, rfl⟩ := dec_s h3
  rw [okVs_nil g3]
  exact ⟨(⟨a1, a2, a3⟩ : GRatio), rfl, ⟨trivial, trivial, trivial⟩⟩
def GUnit.wf (x : GUnit) : Prop := (fun _ => True) x.name ∧ (fun _ => True) x.of ∧ (fun n => (Lit.int .i64 n).wf = true) x.n ∧ (fun n => (Lit.int .i64 n).wf = true) x.d ∧ (fun n => (Lit.int .i64 n).wf = true) x.base ∧ GRatio.wf x.scale
theorem GUnit_dec {ys : List V} (g0 : Sh.okVs [.str, .str, .int .i64, .int .i64, .int .i64, .bool, .str, .str] ys) : ∃ a : GUnit, V.st ys = GUnit.e a ∧ GUnit.wf a := by
  obtain ⟨y1, r1, rfl, h1, g1⟩ := okVs_cons g0
  obtain ⟨a1, rfl⟩ := dec_s h1
  obtain ⟨y2, r2, rfl, h2, g2⟩ := okVs_cons g1
  obtain ⟨a2, rfl⟩ := dec_s h2
  obtain ⟨y3, r3, rfl, h3, g3⟩ := okVs_cons g2
  obtain ⟨a3, rfl, w3⟩ := dec_i h3
  obtain ⟨y4, r4, rfl, h4, g4⟩ := okVs_cons g3
  obtain ⟨a4, rfl, w4⟩ := dec_i h4
  obtain ⟨y5, r5, rfl, h5, g5⟩ := okVs_cons g4
  obtain ⟨a5, rfl, w5⟩ := dec_i h5
  obtain ⟨y6, r6, rfl, h6, g6⟩ := okVs_cons g5
  obtain ⟨a6, rfl⟩ := dec_b h6
  obtain ⟨y7, r7, rfl, h7, g7⟩ := okVs_cons g6
  obtain ⟨a7, rfl⟩ := dec_s h7
  obtain ⟨y8, r8, rfl, h8, g8⟩ := okVs_cons g7
  obtain ⟨a8, rfl⟩ := dec_s h8
  rw [okVs_nil g8]
  exact ⟨(⟨a1, a2, a3, a4, a5, ⟨a6, a7, a8⟩⟩ : GUnit), rfl, ⟨trivial, trivial, w3, w4, w5, ⟨trivial, trivial, trivial⟩⟩⟩
def GItem.wf (x : GItem) : Prop := (fun _ => True) x.name ∧ (fun _ => True) x.unit ∧ (fun n => (Lit.int .i64 n).wf = true) x.massN ∧ (fun n => (Lit.int .i64 n).wf = true) x.massD ∧ (fun n => (Lit.int .i64 n).wf = true) x.shelf ∧ (fun n => (Lit.int .i64 n).wf = true) x.unitNo
theorem GItem_dec {ys : List V} (g0 : Sh.okVs [.str, .str, .int .i64, .int .i64, .int .i64, .int .i64] ys) : ∃ a : GItem, V.st ys = GItem.e a ∧ GItem.wf a := by
  obtain ⟨y1, r1, rfl, h1, g1⟩ := okVs_cons g0
  obtain ⟨a1, rfl⟩ := dec_s h1
  obtain ⟨y2, r2, rfl, h2, g2⟩ := okVs_cons g1
  obtain ⟨a2, rfl⟩ := dec_s h2
  obtain ⟨y3, r3, rfl, h3, g3⟩ := okVs_cons g2
  obtain ⟨a3, rfl, w3⟩ := dec_i h3
  obtain ⟨y4, r4, rfl, h4, g4⟩ := okVs_cons g3
  obtain ⟨a4, rfl, w4⟩ := dec_i h4
  obtain ⟨y5, r5, rfl, h5, g5⟩ := okVs_cons g4
  obtain ⟨a5, rfl, w5⟩ := dec_i h5
  obtain ⟨y6, r6, rfl, h6, g6⟩ := okVs_cons g5
  obtain ⟨a6, rfl, w6⟩ := dec_i h6
  rw [okVs_nil g6]
  exact ⟨(⟨a1, a2, a3, a4, a5, a6⟩ : GItem), rfl, ⟨trivial, trivial, w3, w4, w5, w6⟩⟩
def GMachine.wf (x : GMachine) : Prop := (fun _ => True) x.name ∧ (fun _ => True) x.plant ∧ (fun n => (Lit.int .i64 n).wf = true) x.clean ∧ (fun n => (Lit.int .i64 n).wf = true) x.plantNo
theorem GMachine_dec {ys : List V} (g0 : Sh.okVs [.str, .str, .int .i64, .int .i64] ys) : ∃ a : GMachine, V.st ys = GMachine.e a ∧ GMachine.wf a := by
  obtain ⟨y1, r1, rfl, h1, g1⟩ := okVs_cons g0
  obtain ⟨a1, rfl⟩ := dec_s h1
  obtain ⟨y2, r2, rfl, h2, g2⟩ := okVs_cons g1
  obtain ⟨a2, rfl⟩ := dec_s h2
  obtain ⟨y3, r3, rfl, h3, g3⟩ := okVs_cons g2
  obtain ⟨a3, rfl, w3⟩ := dec_i h3
  obtain ⟨y4, r4, rfl, h4, g4⟩ := okVs_cons g3
  obtain ⟨a4, rfl, w4⟩ := dec_i h4
  rw [okVs_nil g4]
  exact ⟨(⟨a1, a2, a3, a4⟩ : GMachine), rfl, ⟨trivial, trivial, w3, w4⟩⟩
def GOption.wf (x : GOption) : Prop := (fun _ => True) x.name ∧ (fun l => l.length ≤ 9223372036854775807 ∧ ∀ a ∈ l, (fun _ => True) a) x.choices
theorem GOption_dec {ys : List V} (g0 : Sh.okVs [.str, .sl 1 false [.str]] ys) : ∃ a : GOption, V.st ys = GOption.e a ∧ GOption.wf a := by
  obtain ⟨y1, r1, rfl, h1, g1⟩ := okVs_cons g0
  obtain ⟨a1, rfl⟩ := dec_s h1
  obtain ⟨y2, r2, rfl, h2, g2⟩ := okVs_cons g1
  obtain ⟨a2, rfl, w2⟩ := dec_sl (agg := false) (enc := V.s) (W := (fun _ => True)) (fun ys h => by obtain ⟨y, r, rfl, h1, h2⟩ := okVs_cons h; rw [okVs_nil h2]; obtain ⟨a, rfl⟩ := dec_s h1; exact ⟨a, rfl, trivial⟩) h2
  rw [okVs_nil g2]
  exact ⟨(⟨a1, a2⟩ : GOption), rfl, ⟨trivial, w2⟩⟩
def GCond.wf (x : GCond) : Prop := (fun _ => True) x.option ∧ (fun _ => True) x.choice ∧ (fun n => (Lit.int .i64 n).wf = true) x.optionNo ∧ (fun n => (Lit.int .i64 n).wf = true) x.choiceNo
theorem GCond_dec {ys : List V} (g0 : Sh.okVs [.str, .str, .int .i64, .int .i64] ys) : ∃ a : GCond, V.st ys = GCond.e a ∧ GCond.wf a := by
  obtain ⟨y1, r1, rfl, h1, g1⟩ := okVs_cons g0
  obtain ⟨a1, rfl⟩ := dec_s h1
  obtain ⟨y2, r2, rfl, h2, g2⟩ := okVs_cons g1
  obtain ⟨a2, rfl⟩ := dec_s h2
  obtain ⟨y3, r3, rfl, h3, g3⟩ := okVs_cons g2
  obtain ⟨a3, rfl, w3⟩ := dec_i h3
  obtain ⟨y4, r4, rfl, h4, g4⟩ := okVs_cons g3
  obtain ⟨a4, rfl, w4⟩ := dec_i h4
  rw [okVs_nil g4]
  exact ⟨(⟨a1, a2, a3, a4⟩ : GCond), rfl, ⟨trivial, trivial, w3, w4⟩⟩
def GAmount.wf (x : GAmount) : Prop := (fun n => (Lit.int .i64 n).wf = true) x.n ∧ (fun n => (Lit.int .i64 n).wf = true) x.d ∧ (fun _ => True) x.unit ∧ (fun _ => True) x.item ∧ (fun _ => True) x.back ∧ (fun n => (Lit.int .i64 n).wf = true) x.unitNo ∧ (fun n => (Lit.int .i64 n).wf = true) x.itemNo
theorem GAmount_dec {ys : List V} (g0 : Sh.okVs [.int .i64, .int .i64, .str, .str, .bool, .int .i64, .int .i64] ys) : ∃ a : GAmount, V.st ys = GAmount.e a ∧ GAmount.wf a := by
  obtain ⟨y1, r1, rfl, h1, g1⟩ := okVs_cons g0
  obtain ⟨a1, rfl, w1⟩ := dec_i h1
  obtain ⟨y2, r2, rfl, h2, g2⟩ := okVs_cons g1
  obtain ⟨a2, rfl, w2⟩ := dec_i h2
  obtain ⟨y3, r3, rfl, h3, g3⟩ := okVs_cons g2
  obtain ⟨a3, rfl⟩ := dec_s h3
  obtain ⟨y4, r4, rfl, h4, g4⟩ := okVs_cons g3
  obtain ⟨a4, rfl⟩ := dec_s h4
  obtain ⟨y5, r5, rfl, h5, g5⟩ := okVs_cons g4
  obtain ⟨a5, rfl⟩ := dec_b h5
  obtain ⟨y6, r6, rfl, h6, g6⟩ := okVs_cons g5
  obtain ⟨a6, rfl, w6⟩ := dec_i h6
  obtain ⟨y7, r7, rfl, h7, g7⟩ := okVs_cons g6
  obtain ⟨a7, rfl, w7⟩ := dec_i h7
  rw [okVs_nil g7]
  exact ⟨(⟨a1, a2, a3, a4, a5, a6, a7⟩ : GAmount), rfl, ⟨w1, w2, trivial, trivial, trivial, w6, w7⟩⟩
def GRun.wf (x : GRun) : Prop := (fun _ => True) x.machine ∧ (fun n => (Lit.int .i64 n).wf = true) x.slots ∧ (fun n => (Lit.int .i64 n).wf = true) x.machineNo
theorem GRun_dec {ys : List V} (g0 : Sh.okVs [.str, .int .i64, .int .i64] ys) : ∃ a : GRun, V.st ys = GRun.e a ∧ GRun.wf a := by
  obtain ⟨y1, r1, rfl, h1, g1⟩ := okVs_cons g0
  obtain ⟨a1, rfl⟩ := dec_s h1
  obtain ⟨y2, r2, rfl, h2, g2⟩ := okVs_cons g1
  obtain ⟨a2, rfl, w2⟩ := dec_i h2
  obtain ⟨y3, r3, rfl, h3, g3⟩ := okVs_cons g2
  obtain ⟨a3, rfl, w3⟩ := dec_i h3
  rw [okVs_nil g3]
  exact ⟨(⟨a1, a2, a3⟩ : GRun), rfl, ⟨trivial, w2, w3⟩⟩
def GRecipe.wf (x : GRecipe) : Prop := (fun _ => True) x.item ∧ (fun _ => True) x.plant ∧ (fun n => (Lit.int .i64 n).wf = true) x.from_ ∧ (fun n => (Lit.int .i64 n).wf = true) x.to_ ∧ (fun l => l.length ≤ 9223372036854775807 ∧ ∀ a ∈ l, GCond.wf a) x.if_ ∧ (fun l => l.length ≤ 9223372036854775807 ∧ ∀ a ∈ l, GAmount.wf a) x.in_ ∧ (fun l => l.length ≤ 9223372036854775807 ∧ ∀ a ∈ l, GAmount.wf a) x.out ∧ (fun n => (Lit.int .i64 n).wf = true) x.reworkN ∧ (fun n => (Lit.int .i64 n).wf = true) x.reworkD ∧ (fun n => (Lit.int .i64 n).wf = true) x.yieldN ∧ (fun n => (Lit.int .i64 n).wf = true) x.yieldD ∧ (fun n => (Lit.int .i64 n).wf = true) x.tolN ∧ (fun n => (Lit.int .i64 n).wf = true) x.tolD ∧ (fun n => (Lit.int .i64 n).wf = true) x.lead ∧ (fun l => l.length ≤ 9223372036854775807 ∧ ∀ a ∈ l, GRun.wf a) x.runs ∧ (fun n => (Lit.int .i64 n).wf = true) x.itemNo ∧ (fun n => (Lit.int .i64 n).wf = true) x.plantNo
theorem GRecipe_dec {ys : List V} (g0 : Sh.okVs [.str, .str, .int .i64, .int .i64, .sl 4 true [.str, .str, .int .i64, .int .i64], .sl 7 true [.int .i64, .int .i64, .str, .str, .bool, .int .i64, .int .i64], .sl 7 true [.int .i64, .int .i64, .str, .str, .bool, .int .i64, .int .i64], .int .i64, .int .i64, .int .i64, .int .i64, .int .i64, .int .i64, .int .i64, .sl 3 true [.str, .int .i64, .int .i64], .int .i64, .int .i64] ys) : ∃ a : GRecipe, V.st ys = GRecipe.e a ∧ GRecipe.wf a := by
  obtain ⟨y1, r1, rfl, h1, g1⟩ := okVs_cons g0
  obtain ⟨a1, rfl⟩ := dec_s h1
  obtain ⟨y2, r2, rfl, h2, g2⟩ := okVs_cons g1
  obtain ⟨a2, rfl⟩ := dec_s h2
  obtain ⟨y3, r3, rfl, h3, g3⟩ := okVs_cons g2
  obtain ⟨a3, rfl, w3⟩ := dec_i h3
  obtain ⟨y4, r4, rfl, h4, g4⟩ := okVs_cons g3
  obtain ⟨a4, rfl, w4⟩ := dec_i h4
  obtain ⟨y5, r5, rfl, h5, g5⟩ := okVs_cons g4
  obtain ⟨a5, rfl, w5⟩ := dec_sl (agg := true) (enc := GCond.e) (W := GCond.wf) (fun ys h => GCond_dec h) h5
  obtain ⟨y6, r6, rfl, h6, g6⟩ := okVs_cons g5
  obtain ⟨a6, rfl, w6⟩ := dec_sl (agg := true) (enc := GAmount.e) (W := GAmount.wf) (fun ys h => GAmount_dec h) h6
  obtain ⟨y7, r7, rfl, h7, g7⟩ := okVs_cons g6
  obtain ⟨a7, rfl, w7⟩ := dec_sl (agg := true) (enc := GAmount.e) (W := GAmount.wf) (fun ys h => GAmount_dec h) h7
  obtain ⟨y8, r8, rfl, h8, g8⟩ := okVs_cons g7
  obtain ⟨a8, rfl, w8⟩ := dec_i h8
  obtain ⟨y9, r9, rfl, h9, g9⟩ := okVs_cons g8
  obtain ⟨a9, rfl, w9⟩ := dec_i h9
  obtain ⟨y10, r10, rfl, h10, g10⟩ := okVs_cons g9
  obtain ⟨a10, rfl, w10⟩ := dec_i h10
  obtain ⟨y11, r11, rfl, h11, g11⟩ := okVs_cons g10
  obtain ⟨a11, rfl, w11⟩ := dec_i h11
  obtain ⟨y12, r12, rfl, h12, g12⟩ := okVs_cons g11
  obtain ⟨a12, rfl, w12⟩ := dec_i h12
  obtain ⟨y13, r13, rfl, h13, g13⟩ := okVs_cons g12
  obtain ⟨a13, rfl, w13⟩ := dec_i h13
  obtain ⟨y14, r14, rfl, h14, g14⟩ := okVs_cons g13
  obtain ⟨a14, rfl, w14⟩ := dec_i h14
  obtain ⟨y15, r15, rfl, h15, g15⟩ := okVs_cons g14
  obtain ⟨a15, rfl, w15⟩ := dec_sl (agg := true) (enc := GRun.e) (W := GRun.wf) (fun ys h => GRun_dec h) h15
  obtain ⟨y16, r16, rfl, h16, g16⟩ := okVs_cons g15
  obtain ⟨a16, rfl, w16⟩ := dec_i h16
  obtain ⟨y17, r17, rfl, h17, g17⟩ := okVs_cons g16
  obtain ⟨a17, rfl, w17⟩ := dec_i h17
  rw [okVs_nil g17]
  exact ⟨(⟨a1, a2, a3, a4, a5, a6, a7, a8, a9, a10, a11, a12, a13, a14, a15, a16, a17⟩ : GRecipe), rfl, ⟨trivial, trivial, w3, w4, w5, w6, w7, w8, w9, w10, w11, w12, w13, w14, w15, w16, w17⟩⟩
def GSwap.wf (x : GSwap) : Prop := (fun _ => True) x.a ∧ (fun _ => True) x.b ∧ (fun n => (Lit.int .i64 n).wf = true) x.aNo ∧ (fun n => (Lit.int .i64 n).wf = true) x.bNo
theorem GSwap_dec {ys : List V} (g0 : Sh.okVs [.str, .str, .int .i64, .int .i64] ys) : ∃ a : GSwap, V.st ys = GSwap.e a ∧ GSwap.wf a := by
  obtain ⟨y1, r1, rfl, h1, g1⟩ := okVs_cons g0
  obtain ⟨a1, rfl⟩ := dec_s h1
  obtain ⟨y2, r2, rfl, h2, g2⟩ := okVs_cons g1
  obtain ⟨a2, rfl⟩ := dec_s h2
  obtain ⟨y3, r3, rfl, h3, g3⟩ := okVs_cons g2
  obtain ⟨a3, rfl, w3⟩ := dec_i h3
  obtain ⟨y4, r4, rfl, h4, g4⟩ := okVs_cons g3
  obtain ⟨a4, rfl, w4⟩ := dec_i h4
  rw [okVs_nil g4]
  exact ⟨(⟨a1, a2, a3, a4⟩ : GSwap), rfl, ⟨trivial, trivial, w3, w4⟩⟩
def GSource.wf (x : GSource) : Prop := (fun l => l.length ≤ 9223372036854775807 ∧ ∀ a ∈ l, GUnit.wf a) x.units ∧ (fun l => l.length ≤ 9223372036854775807 ∧ ∀ a ∈ l, GItem.wf a) x.items ∧ (fun l => l.length ≤ 9223372036854775807 ∧ ∀ a ∈ l, (fun _ => True) a) x.plants ∧ (fun l => l.length ≤ 9223372036854775807 ∧ ∀ a ∈ l, GMachine.wf a) x.machines ∧ (fun l => l.length ≤ 9223372036854775807 ∧ ∀ a ∈ l, GOption.wf a) x.options ∧ (fun l => l.length ≤ 9223372036854775807 ∧ ∀ a ∈ l, (fun l => l.length ≤ 9223372036854775807 ∧ ∀ a ∈ l, GCond.wf a) a) x.forbids ∧ (fun l => l.length ≤ 9223372036854775807 ∧ ∀ a ∈ l, GRecipe.wf a) x.recipes ∧ (fun l => l.length ≤ 9223372036854775807 ∧ ∀ a ∈ l, GSwap.wf a) x.swaps
theorem GSource_dec {ys : List V} (g0 : Sh.okVs [.sl 8 true [.str, .str, .int .i64, .int .i64, .int .i64, .bool, .str, .str], .sl 6 true [.str, .str, .int .i64, .int .i64, .int .i64, .int .i64], .sl 1 false [.str], .sl 4 true [.str, .str, .int .i64, .int .i64], .sl 2 true [.str, .sl 1 false [.str]], .sl 1 false [.sl 4 true [.str, .str, .int .i64, .int .i64]], .sl 17 true [.str, .str, .int .i64, .int .i64, .sl 4 true [.str, .str, .int .i64, .int .i64], .sl 7 true [.int .i64, .int .i64, .str, .str, .bool, .int .i64, .int .i64], .sl 7 true [.int .i64, .int .i64, .str, .str, .bool, .int .i64, .int .i64], .int .i64, .int .i64, .int .i64, .int .i64, .int .i64, .int .i64, .int .i64, .sl 3 true [.str, .int .i64, .int .i64], .int .i64, .int .i64], .sl 4 true [.str, .str, .int .i64, .int .i64]] ys) : ∃ a : GSource, V.st ys = GSource.e a ∧ GSource.wf a := by
  obtain ⟨y1, r1, rfl, h1, g1⟩ := okVs_cons g0
  obtain ⟨a1, rfl, w1⟩ := dec_sl (agg := true) (enc := GUnit.e) (W := GUnit.wf) (fun ys h => GUnit_dec h) h1
  obtain ⟨y2, r2, rfl, h2, g2⟩ := okVs_cons g1
  obtain ⟨a2, rfl, w2⟩ := dec_sl (agg := true) (enc := GItem.e) (W := GItem.wf) (fun ys h => GItem_dec h) h2
  obtain ⟨y3, r3, rfl, h3, g3⟩ := okVs_cons g2
  obtain ⟨a3, rfl, w3⟩ := dec_sl (agg := false) (enc := V.s) (W := (fun _ => True)) (fun ys h => by obtain ⟨y, r, rfl, h1, h2⟩ := okVs_cons h; rw [okVs_nil h2]; obtain ⟨a, rfl⟩ := dec_s h1; exact ⟨a, rfl, trivial⟩) h3
  obtain ⟨y4, r4, rfl, h4, g4⟩ := okVs_cons g3
  obtain ⟨a4, rfl, w4⟩ := dec_sl (agg := true) (enc := GMachine.e) (W := GMachine.wf) (fun ys h => GMachine_dec h) h4
  obtain ⟨y5, r5, rfl, h5, g5⟩ := okVs_cons g4
  obtain ⟨a5, rfl, w5⟩ := dec_sl (agg := true) (enc := GOption.e) (W := GOption.wf) (fun ys h => GOption_dec h) h5
  obtain ⟨y6, r6, rfl, h6, g6⟩ := okVs_cons g5
  obtain ⟨a6, rfl, w6⟩ := dec_sl (agg := false) (enc := (fun l => V.l 4 (List.map GCond.e l))) (W := (fun l => l.length ≤ 9223372036854775807 ∧ ∀ a ∈ l, GCond.wf a)) (fun ys h => by obtain ⟨y, r, rfl, h1, h2⟩ := okVs_cons h; rw [okVs_nil h2]; obtain ⟨a, rfl, w⟩ := dec_sl (agg := true) (enc := GCond.e) (W := GCond.wf) (fun ys h => GCond_dec h) h1; exact ⟨a, rfl, w⟩) h6
  obtain ⟨y7, r7, rfl, h7, g7⟩ := okVs_cons g6
  obtain ⟨a7, rfl, w7⟩ := dec_sl (agg := true) (enc := GRecipe.e) (W := GRecipe.wf) (fun ys h => GRecipe_dec h) h7
  obtain ⟨y8, r8, rfl, h8, g8⟩ := okVs_cons g7
  obtain ⟨a8, rfl, w8⟩ := dec_sl (agg := true) (enc := GSwap.e) (W := GSwap.wf) (fun ys h => GSwap_dec h) h8
  rw [okVs_nil g8]
  exact ⟨(⟨a1, a2, a3, a4, a5, a6, a7, a8⟩ : GSource), rfl, ⟨w1, w2, w3, w4, w5, w6, w7, w8⟩⟩
def GInst.wf (x : GInst) : Prop := (fun n => (Lit.int .i64 n).wf = true) x.op ∧ (fun n => (Lit.int .i64 n).wf = true) x.a ∧ (fun n => (Lit.int .i64 n).wf = true) x.b ∧ GRatio.wf x.r
theorem GInst_dec {ys : List V} (g0 : Sh.okVs [.int .i64, .int .i64, .int .i64, .bool, .str, .str] ys) : ∃ a : GInst, V.st ys = GInst.e a ∧ GInst.wf a := by
  obtain ⟨y1, r1, rfl, h1, g1⟩ := okVs_cons g0
  obtain ⟨a1, rfl, w1⟩ := dec_i h1
  obtain ⟨y2, r2, rfl, h2, g2⟩ := okVs_cons g1
  obtain ⟨a2, rfl, w2⟩ := dec_i h2
  obtain ⟨y3, r3, rfl, h3, g3⟩ := okVs_cons g2
  obtain ⟨a3, rfl, w3⟩ := dec_i h3
  obtain ⟨y4, r4, rfl, h4, g4⟩ := okVs_cons g3
  obtain ⟨a4, rfl⟩ := dec_b h4
  obtain ⟨y5, r5, rfl, h5, g5⟩ := okVs_cons g4
  obtain ⟨a5, rfl⟩ := dec_s h5
  obtain ⟨y6, r6, rfl, h6, g6⟩ := okVs_cons g5
  obtain ⟨a6, rfl⟩ := dec_s h6
  rw [okVs_nil g6]
  exact ⟨(⟨a1, a2, a3, ⟨a4, a5, a6⟩⟩ : GInst), rfl, ⟨w1, w2, w3, ⟨trivial, trivial, trivial⟩⟩⟩
def GTables.wf (x : GTables) : Prop := GSource.wf x.source ∧ (fun l => l.length ≤ 9223372036854775807 ∧ ∀ a ∈ l, (fun n => (Lit.int .i64 n).wf = true) a) x.levels ∧ (fun l => l.length ≤ 9223372036854775807 ∧ ∀ a ∈ l, (fun l => l.length ≤ 9223372036854775807 ∧ ∀ a ∈ l, GInst.wf a) a) x.codes
theorem GTables_dec {ys : List V} (g0 : Sh.okVs [.sl 8 true [.str, .str, .int .i64, .int .i64, .int .i64, .bool, .str, .str], .sl 6 true [.str, .str, .int .i64, .int .i64, .int .i64, .int .i64], .sl 1 false [.str], .sl 4 true [.str, .str, .int .i64, .int .i64], .sl 2 true [.str, .sl 1 false [.str]], .sl 1 false [.sl 4 true [.str, .str, .int .i64, .int .i64]], .sl 17 true [.str, .str, .int .i64, .int .i64, .sl 4 true [.str, .str, .int .i64, .int .i64], .sl 7 true [.int .i64, .int .i64, .str, .str, .bool, .int .i64, .int .i64], .sl 7 true [.int .i64, .int .i64, .str, .str, .bool, .int .i64, .int .i64], .int .i64, .int .i64, .int .i64, .int .i64, .int .i64, .int .i64, .int .i64, .sl 3 true [.str, .int .i64, .int .i64], .int .i64, .int .i64], .sl 4 true [.str, .str, .int .i64, .int .i64], .sl 1 false [.int .i64], .sl 1 false [.sl 6 true [.int .i64, .int .i64, .int .i64, .bool, .str, .str]]] ys) : ∃ a : GTables, V.st ys = GTables.e a ∧ GTables.wf a := by
  obtain ⟨y1, r1, rfl, h1, g1⟩ := okVs_cons g0
  obtain ⟨a1, rfl, w1⟩ := dec_sl (agg := true) (enc := GUnit.e) (W := GUnit.wf) (fun ys h => GUnit_dec h) h1
  obtain ⟨y2, r2, rfl, h2, g2⟩ := okVs_cons g1
  obtain ⟨a2, rfl, w2⟩ := dec_sl (agg := true) (enc := GItem.e) (W := GItem.wf) (fun ys h => GItem_dec h) h2
  obtain ⟨y3, r3, rfl, h3, g3⟩ := okVs_cons g2
  obtain ⟨a3, rfl, w3⟩ := dec_sl (agg := false) (enc := V.s) (W := (fun _ => True)) (fun ys h => by obtain ⟨y, r, rfl, h1, h2⟩ := okVs_cons h; rw [okVs_nil h2]; obtain ⟨a, rfl⟩ := dec_s h1; exact ⟨a, rfl, trivial⟩) h3
  obtain ⟨y4, r4, rfl, h4, g4⟩ := okVs_cons g3
  obtain ⟨a4, rfl, w4⟩ := dec_sl (agg := true) (enc := GMachine.e) (W := GMachine.wf) (fun ys h => GMachine_dec h) h4
  obtain ⟨y5, r5, rfl, h5, g5⟩ := okVs_cons g4
  obtain ⟨a5, rfl, w5⟩ := dec_sl (agg := true) (enc := GOption.e) (W := GOption.wf) (fun ys h => GOption_dec h) h5
  obtain ⟨y6, r6, rfl, h6, g6⟩ := okVs_cons g5
  obtain ⟨a6, rfl, w6⟩ := dec_sl (agg := false) (enc := (fun l => V.l 4 (List.map GCond.e l))) (W := (fun l => l.length ≤ 9223372036854775807 ∧ ∀ a ∈ l, GCond.wf a)) (fun ys h => by obtain ⟨y, r, rfl, h1, h2⟩ := okVs_cons h; rw [okVs_nil h2]; obtain ⟨a, rfl, w⟩ := dec_sl (agg := true) (enc := GCond.e) (W := GCond.wf) (fun ys h => GCond_dec h) h1; exact ⟨a, rfl, w⟩) h6
  obtain ⟨y7, r7, rfl, h7, g7⟩ := okVs_cons g6
  obtain ⟨a7, rfl, w7⟩ := dec_sl (agg := true) (enc := GRecipe.e) (W := GRecipe.wf) (fun ys h => GRecipe_dec h) h7
  obtain ⟨y8, r8, rfl, h8, g8⟩ := okVs_cons g7
  obtain ⟨a8, rfl, w8⟩ := dec_sl (agg := true) (enc := GSwap.e) (W := GSwap.wf) (fun ys h => GSwap_dec h) h8
  obtain ⟨y9, r9, rfl, h9, g9⟩ := okVs_cons g8
  obtain ⟨a9, rfl, w9⟩ := dec_sl (agg := false) (enc := vi) (W := (fun n => (Lit.int .i64 n).wf = true)) (fun ys h => by obtain ⟨y, r, rfl, h1, h2⟩ := okVs_cons h; rw [okVs_nil h2]; obtain ⟨a, rfl, w⟩ := dec_i h1; exact ⟨a, rfl, w⟩) h9
  obtain ⟨y10, r10, rfl, h10, g10⟩ := okVs_cons g9
  obtain ⟨a10, rfl, w10⟩ := dec_sl (agg := false) (enc := (fun l => V.l 6 (List.map GInst.e l))) (W := (fun l => l.length ≤ 9223372036854775807 ∧ ∀ a ∈ l, GInst.wf a)) (fun ys h => by obtain ⟨y, r, rfl, h1, h2⟩ := okVs_cons h; rw [okVs_nil h2]; obtain ⟨a, rfl, w⟩ := dec_sl (agg := true) (enc := GInst.e) (W := GInst.wf) (fun ys h => GInst_dec h) h1; exact ⟨a, rfl, w⟩) h10
  rw [okVs_nil g10]
  exact ⟨(⟨⟨a1, a2, a3, a4, a5, a6, a7, a8⟩, a9, a10⟩ : GTables), rfl, ⟨⟨w1, w2, w3, w4, w5, w6, w7, w8⟩, w9, w10⟩⟩
def GKey.wf (x : GKey) : Prop := (fun n => (Lit.int .i64 n).wf = true) x.kind ∧ (fun n => (Lit.int .i64 n).wf = true) x.subject ∧ (fun n => (Lit.int .i64 n).wf = true) x.object
theorem GKey_dec {ys : List V} (g0 : Sh.okVs [.int .i64, .int .i64, .int .i64] ys) : ∃ a : GKey, V.st ys = GKey.e a ∧ GKey.wf a := by
  obtain ⟨y1, r1, rfl, h1, g1⟩ := okVs_cons g0
  obtain ⟨a1, rfl, w1⟩ := dec_i h1
  obtain ⟨y2, r2, rfl, h2, g2⟩ := okVs_cons g1
  obtain ⟨a2, rfl, w2⟩ := dec_i h2
  obtain ⟨y3, r3, rfl, h3, g3⟩ := okVs_cons g2
  obtain ⟨a3, rfl, w3⟩ := dec_i h3
  rw [okVs_nil g3]
  exact ⟨(⟨a1, a2, a3⟩ : GKey), rfl, ⟨w1, w2, w3⟩⟩
def GSpan.wf (x : GSpan) : Prop := (fun n => (Lit.int .i64 n).wf = true) x.from_ ∧ (fun n => (Lit.int .i64 n).wf = true) x.to_
theorem GSpan_dec {ys : List V} (g0 : Sh.okVs [.int .i64, .int .i64] ys) : ∃ a : GSpan, V.st ys = GSpan.e a ∧ GSpan.wf a := by
  obtain ⟨y1, r1, rfl, h1, g1⟩ := okVs_cons g0
  obtain ⟨a1, rfl, w1⟩ := dec_i h1
  obtain ⟨y2, r2, rfl, h2, g2⟩ := okVs_cons g1
  obtain ⟨a2, rfl, w2⟩ := dec_i h2
  rw [okVs_nil g2]
  exact ⟨(⟨a1, a2⟩ : GSpan), rfl, ⟨w1, w2⟩⟩
def GFact.wf (x : GFact) : Prop := GKey.wf x.key ∧ (fun n => (Lit.int .i64 n).wf = true) x.value ∧ GSpan.wf x.valid ∧ (fun n => (Lit.int .i64 n).wf = true) x.known ∧ (fun n => (Lit.int .i64 n).wf = true) x.no_
theorem GFact_dec {ys : List V} (g0 : Sh.okVs [.int .i64, .int .i64, .int .i64, .int .i64, .int .i64, .int .i64, .int .i64, .int .i64] ys) : ∃ a : GFact, V.st ys = GFact.e a ∧ GFact.wf a := by
  obtain ⟨y1, r1, rfl, h1, g1⟩ := okVs_cons g0
  obtain ⟨a1, rfl, w1⟩ := dec_i h1
  obtain ⟨y2, r2, rfl, h2, g2⟩ := okVs_cons g1
  obtain ⟨a2, rfl, w2⟩ := dec_i h2
  obtain ⟨y3, r3, rfl, h3, g3⟩ := okVs_cons g2
  obtain ⟨a3, rfl, w3⟩ := dec_i h3
  obtain ⟨y4, r4, rfl, h4, g4⟩ := okVs_cons g3
  obtain ⟨a4, rfl, w4⟩ := dec_i h4
  obtain ⟨y5, r5, rfl, h5, g5⟩ := okVs_cons g4
  obtain ⟨a5, rfl, w5⟩ := dec_i h5
  obtain ⟨y6, r6, rfl, h6, g6⟩ := okVs_cons g5
  obtain ⟨a6, rfl, w6⟩ := dec_i h6
  obtain ⟨y7, r7, rfl, h7, g7⟩ := okVs_cons g6
  obtain ⟨a7, rfl, w7⟩ := dec_i h7
  obtain ⟨y8, r8, rfl, h8, g8⟩ := okVs_cons g7
  obtain ⟨a8, rfl, w8⟩ := dec_i h8
  rw [okVs_nil g8]
  exact ⟨(⟨⟨a1, a2, a3⟩, a4, ⟨a5, a6⟩, a7, a8⟩ : GFact), rfl, ⟨⟨w1, w2, w3⟩, w4, ⟨w5, w6⟩, w7, w8⟩⟩
def GWorld.wf (x : GWorld) : Prop := GTables.wf x.tables ∧ (fun l => l.length ≤ 9223372036854775807 ∧ ∀ a ∈ l, GFact.wf a) x.facts
theorem GWorld_dec {ys : List V} (g0 : Sh.okVs [.sl 8 true [.str, .str, .int .i64, .int .i64, .int .i64, .bool, .str, .str], .sl 6 true [.str, .str, .int .i64, .int .i64, .int .i64, .int .i64], .sl 1 false [.str], .sl 4 true [.str, .str, .int .i64, .int .i64], .sl 2 true [.str, .sl 1 false [.str]], .sl 1 false [.sl 4 true [.str, .str, .int .i64, .int .i64]], .sl 17 true [.str, .str, .int .i64, .int .i64, .sl 4 true [.str, .str, .int .i64, .int .i64], .sl 7 true [.int .i64, .int .i64, .str, .str, .bool, .int .i64, .int .i64], .sl 7 true [.int .i64, .int .i64, .str, .str, .bool, .int .i64, .int .i64], .int .i64, .int .i64, .int .i64, .int .i64, .int .i64, .int .i64, .int .i64, .sl 3 true [.str, .int .i64, .int .i64], .int .i64, .int .i64], .sl 4 true [.str, .str, .int .i64, .int .i64], .sl 1 false [.int .i64], .sl 1 false [.sl 6 true [.int .i64, .int .i64, .int .i64, .bool, .str, .str]], .sl 8 true [.int .i64, .int .i64, .int .i64, .int .i64, .int .i64, .int .i64, .int .i64, .int .i64]] ys) : ∃ a : GWorld, V.st ys = GWorld.e a ∧ GWorld.wf a := by
  obtain ⟨y1, r1, rfl, h1, g1⟩ := okVs_cons g0
  obtain ⟨a1, rfl, w1⟩ := dec_sl (agg := true) (enc := GUnit.e) (W := GUnit.wf) (fun ys h => GUnit_dec h) h1
  obtain ⟨y2, r2, rfl, h2, g2⟩ := okVs_cons g1
  obtain ⟨a2, rfl, w2⟩ := dec_sl (agg := true) (enc := GItem.e) (W := GItem.wf) (fun ys h => GItem_dec h) h2
  obtain ⟨y3, r3, rfl, h3, g3⟩ := okVs_cons g2
  obtain ⟨a3, rfl, w3⟩ := dec_sl (agg := false) (enc := V.s) (W := (fun _ => True)) (fun ys h => by obtain ⟨y, r, rfl, h1, h2⟩ := okVs_cons h; rw [okVs_nil h2]; obtain ⟨a, rfl⟩ := dec_s h1; exact ⟨a, rfl, trivial⟩) h3
  obtain ⟨y4, r4, rfl, h4, g4⟩ := okVs_cons g3
  obtain ⟨a4, rfl, w4⟩ := dec_sl (agg := true) (enc := GMachine.e) (W := GMachine.wf) (fun ys h => GMachine_dec h) h4
  obtain ⟨y5, r5, rfl, h5, g5⟩ := okVs_cons g4
  obtain ⟨a5, rfl, w5⟩ := dec_sl (agg := true) (enc := GOption.e) (W := GOption.wf) (fun ys h => GOption_dec h) h5
  obtain ⟨y6, r6, rfl, h6, g6⟩ := okVs_cons g5
  obtain ⟨a6, rfl, w6⟩ := dec_sl (agg := false) (enc := (fun l => V.l 4 (List.map GCond.e l))) (W := (fun l => l.length ≤ 9223372036854775807 ∧ ∀ a ∈ l, GCond.wf a)) (fun ys h => by obtain ⟨y, r, rfl, h1, h2⟩ := okVs_cons h; rw [okVs_nil h2]; obtain ⟨a, rfl, w⟩ := dec_sl (agg := true) (enc := GCond.e) (W := GCond.wf) (fun ys h => GCond_dec h) h1; exact ⟨a, rfl, w⟩) h6
  obtain ⟨y7, r7, rfl, h7, g7⟩ := okVs_cons g6
  obtain ⟨a7, rfl, w7⟩ := dec_sl (agg := true) (enc := GRecipe.e) (W := GRecipe.wf) (fun ys h => GRecipe_dec h) h7
  obtain ⟨y8, r8, rfl, h8, g8⟩ := okVs_cons g7
  obtain ⟨a8, rfl, w8⟩ := dec_sl (agg := true) (enc := GSwap.e) (W := GSwap.wf) (fun ys h => GSwap_dec h) h8
  obtain ⟨y9, r9, rfl, h9, g9⟩ := okVs_cons g8
  obtain ⟨a9, rfl, w9⟩ := dec_sl (agg := false) (enc := vi) (W := (fun n => (Lit.int .i64 n).wf = true)) (fun ys h => by obtain ⟨y, r, rfl, h1, h2⟩ := okVs_cons h; rw [okVs_nil h2]; obtain ⟨a, rfl, w⟩ := dec_i h1; exact ⟨a, rfl, w⟩) h9
  obtain ⟨y10, r10, rfl, h10, g10⟩ := okVs_cons g9
  obtain ⟨a10, rfl, w10⟩ := dec_sl (agg := false) (enc := (fun l => V.l 6 (List.map GInst.e l))) (W := (fun l => l.length ≤ 9223372036854775807 ∧ ∀ a ∈ l, GInst.wf a)) (fun ys h => by obtain ⟨y, r, rfl, h1, h2⟩ := okVs_cons h; rw [okVs_nil h2]; obtain ⟨a, rfl, w⟩ := dec_sl (agg := true) (enc := GInst.e) (W := GInst.wf) (fun ys h => GInst_dec h) h1; exact ⟨a, rfl, w⟩) h10
  obtain ⟨y11, r11, rfl, h11, g11⟩ := okVs_cons g10
  obtain ⟨a11, rfl, w11⟩ := dec_sl (agg := true) (enc := GFact.e) (W := GFact.wf) (fun ys h => GFact_dec h) h11
  rw [okVs_nil g11]
  exact ⟨(⟨⟨⟨a1, a2, a3, a4, a5, a6, a7, a8⟩, a9, a10⟩, a11⟩ : GWorld), rfl, ⟨⟨⟨w1, w2, w3, w4, w5, w6, w7, w8⟩, w9, w10⟩, w11⟩⟩
def GLine.wf (x : GLine) : Prop := (fun n => (Lit.int .i64 n).wf = true) x.item ∧ (fun n => (Lit.int .i64 n).wf = true) x.plant ∧ (fun n => (Lit.int .i64 n).wf = true) x.config
theorem GLine_dec {ys : List V} (g0 : Sh.okVs [.int .i64, .int .i64, .int .i64] ys) : ∃ a : GLine, V.st ys = GLine.e a ∧ GLine.wf a := by
  obtain ⟨y1, r1, rfl, h1, g1⟩ := okVs_cons g0
  obtain ⟨a1, rfl, w1⟩ := dec_i h1
  obtain ⟨y2, r2, rfl, h2, g2⟩ := okVs_cons g1
  obtain ⟨a2, rfl, w2⟩ := dec_i h2
  obtain ⟨y3, r3, rfl, h3, g3⟩ := okVs_cons g2
  obtain ⟨a3, rfl, w3⟩ := dec_i h3
  rw [okVs_nil g3]
  exact ⟨(⟨a1, a2, a3⟩ : GLine), rfl, ⟨w1, w2, w3⟩⟩
end Bf
