import Derived.Test.YtedblpbpoekdlaaFacts
import Derived.Test.YtedblpbpoekdlaaF28
namespace Bf
open Go Go.RowKit Go.Proofs
attribute [local irreducible] Quiet Eff RunS Ev PureC Shift RunQ RetQ RetR SeqQ
set_option linter.unusedVariables false
set_option maxRecDepth 4000
structure GKey where
  kind : Int
  subject : Int
  object : Int
  deriving Inhabited, DecidableEq
def GKey.e (x : GKey) : V := .st [vi x.kind, vi x.subject, vi x.object]
structure GRatio where
  neg : Bool
  n : ByteArray
  d : ByteArray
  deriving Inhabited
def GRatio.e (x : GRatio) : V := .st [vb x.neg, V.s x.n, V.s x.d]
structure GUnit where
  name : ByteArray
  of : ByteArray
  n : Int
  d : Int
  base : Int
  scale : GRatio
  deriving Inhabited
def GUnit.e (x : GUnit) : V := .st [V.s x.name, V.s x.of, vi x.n, vi x.d, vi x.base, vb x.scale.neg, V.s x.scale.n, V.s x.scale.d]
structure GItem where
  name : ByteArray
  unit : ByteArray
  massN : Int
  massD : Int
  shelf : Int
  unitNo : Int
  deriving Inhabited
def GItem.e (x : GItem) : V := .st [V.s x.name, V.s x.unit, vi x.massN, vi x.massD, vi x.shelf, vi x.unitNo]
structure GMachine where
  name : ByteArray
  plant : ByteArray
  clean : Int
  plantNo : Int
  deriving Inhabited
def GMachine.e (x : GMachine) : V := .st [V.s x.name, V.s x.plant, vi x.clean, vi x.plantNo]
structure GOption where
  name : ByteArray
  choices : List ByteArray
  deriving Inhabited
def GOption.e (x : GOption) : V := .st [V.s x.name, V.l 1 (List.map V.s x.choices)]
structure GCond where
  option : ByteArray
  choice : ByteArray
  optionNo : Int
  choiceNo : Int
  deriving Inhabited
def GCond.e (x : GCond) : V := .st [V.s x.option, V.s x.choice, vi x.optionNo, vi x.choiceNo]
structure GAmount where
  n : Int
  d : Int
  unit : ByteArray
  item : ByteArray
  back : Bool
  unitNo : Int
  itemNo : Int
  deriving Inhabited
def GAmount.e (x : GAmount) : V := .st [vi x.n, vi x.d, V.s x.unit, V.s x.item, vb x.back, vi x.unitNo, vi x.itemNo]
structure GRun where
  machine : ByteArray
  slots : Int
  machineNo : Int
  deriving Inhabited
def GRun.e (x : GRun) : V := .st [V.s x.machine, vi x.slots, vi x.machineNo]
structure GRecipe where
  item : ByteArray
  plant : ByteArray
  from_ : Int
  to_ : Int
  if_ : List GCond
  in_ : List GAmount
  out : List GAmount
  reworkN : Int
  reworkD : Int
  yieldN : Int
  yieldD : Int
  tolN : Int
  tolD : Int
  lead : Int
  runs : List GRun
  itemNo : Int
  plantNo : Int
  deriving Inhabited
def GRecipe.e (x : GRecipe) : V := .st [V.s x.item, V.s x.plant, vi x.from_, vi x.to_, V.l 4 (List.map GCond.e x.if_), V.l 7 (List.map GAmount.e x.in_), V.l 7 (List.map GAmount.e x.out), vi x.reworkN, vi x.reworkD, vi x.yieldN, vi x.yieldD, vi x.tolN, vi x.tolD, vi x.lead, V.l 3 (List.map GRun.e x.runs), vi x.itemNo, vi x.plantNo]
structure GSwap where
  a : ByteArray
  b : ByteArray
  aNo : Int
  bNo : Int
  deriving Inhabited
def GSwap.e (x : GSwap) : V := .st [V.s x.a, V.s x.b, vi x.aNo, vi x.bNo]
structure GSource where
  units : List GUnit
  items : List GItem
  plants : List ByteArray
  machines : List GMachine
  options : List GOption
  forbids : List (List GCond)
  recipes : List GRecipe
  swaps : List GSwap
  deriving Inhabited
def GSource.e (x : GSource) : V := .st [V.l 8 (List.map GUnit.e x.units), V.l 6 (List.map GItem.e x.items), V.l 1 (List.map V.s x.plants), V.l 4 (List.map GMachine.e x.machines), V.l 2 (List.map GOption.e x.options), V.l 1 (List.map (fun l => V.l 4 (List.map GCond.e l)) x.forbids), V.l 17 (List.map GRecipe.e x.recipes), V.l 4 (List.map GSwap.e x.swaps)]
structure GInst where
  op : Int
  a : Int
  b : Int
  r : GRatio
  deriving Inhabited
def GInst.e (x : GInst) : V := .st [vi x.op, vi x.a, vi x.b, vb x.r.neg, V.s x.r.n, V.s x.r.d]
structure GTables where
  source : GSource
  levels : List Int
  codes : List (List GInst)
  deriving Inhabited
def GTables.e (x : GTables) : V := .st [V.l 8 (List.map GUnit.e x.source.units), V.l 6 (List.map GItem.e x.source.items), V.l 1 (List.map V.s x.source.plants), V.l 4 (List.map GMachine.e x.source.machines), V.l 2 (List.map GOption.e x.source.options), V.l 1 (List.map (fun l => V.l 4 (List.map GCond.e l)) x.source.forbids), V.l 17 (List.map GRecipe.e x.source.recipes), V.l 4 (List.map GSwap.e x.source.swaps), V.l 1 (List.map vi x.levels), V.l 1 (List.map (fun l => V.l 6 (List.map GInst.e l)) x.codes)]
structure GSpan where
  from_ : Int
  to_ : Int
  deriving Inhabited, DecidableEq
def GSpan.e (x : GSpan) : V := .st [vi x.from_, vi x.to_]
structure GFact where
  key : GKey
  value : Int
  valid : GSpan
  known : Int
  no_ : Int
  deriving Inhabited, DecidableEq
def GFact.e (x : GFact) : V := .st [vi x.key.kind, vi x.key.subject, vi x.key.object, vi x.value, vi x.valid.from_, vi x.valid.to_, vi x.known, vi x.no_]
structure GWorld where
  tables : GTables
  facts : List GFact
  deriving Inhabited
def GWorld.e (x : GWorld) : V := .st [V.l 8 (List.map GUnit.e x.tables.source.units), V.l 6 (List.map GItem.e x.tables.source.items), V.l 1 (List.map V.s x.tables.source.plants), V.l 4 (List.map GMachine.e x.tables.source.machines), V.l 2 (List.map GOption.e x.tables.source.options), V.l 1 (List.map (fun l => V.l 4 (List.map GCond.e l)) x.tables.source.forbids), V.l 17 (List.map GRecipe.e x.tables.source.recipes), V.l 4 (List.map GSwap.e x.tables.source.swaps), V.l 1 (List.map vi x.tables.levels), V.l 1 (List.map (fun l => V.l 6 (List.map GInst.e l)) x.tables.codes), V.l 8 (List.map GFact.e x.facts)]
def GKey.eqb (x y : GKey) : Bool := (x.kind == y.kind && (x.subject == y.subject && (x.object == y.object && true)))
structure GRead where
  key : GKey
  from_ : Int
  to_ : Int
  deriving Inhabited, DecidableEq
def GRead.e (x : GRead) : V := .st [vi x.key.kind, vi x.key.subject, vi x.key.object, vi x.from_, vi x.to_]
structure GSpec where
  test : Int
  lo : Int
  hi : Int
  deriving Inhabited, DecidableEq
def GSpec.e (x : GSpec) : V := .st [vi x.test, vi x.lo, vi x.hi]
def backflushlaw40_example_1_m (a0 : GKey) (a1 : Int) (a2 : GWorld) : Option GWorld := gd (decide ((a2.facts.length + ([(⟨a0, a1, (⟨0, 1024⟩ : GSpan), 1, ((a2.facts.length : Nat) : Int)⟩ : GFact)] : List GFact).length) * 65 ≤ 140737488355328)) <| some (⟨a2.tables, a2.facts ++ ([(⟨a0, a1, (⟨0, 1024⟩ : GSpan), 1, ((a2.facts.length : Nat) : Int)⟩ : GFact)] : List GFact)⟩ : GWorld)
theorem backflushlaw40_example_1_c {a0 : GKey} {a1 : Int} {a2 : GWorld} {b_a2 : Nat} {q0_a2 : Pl} {f_a0 : Bool} {f_a1 : Bool} {r : GWorld} (H : backflushlaw40_example_1_m a0 a1 a2 = some r) : FnR Try.prog 79 [.v f_a0 (GKey.e a0), .v f_a1 (vi a1), .p 100040 0 b_a2 0] [.e 100040 0 (some (b_a2, 11)) (.row 38 [.v false (V.l 8 (List.map GUnit.e a2.tables.source.units)), .v false (V.l 6 (List.map GItem.e a2.tables.source.items)), .v false (V.l 1 (List.map V.s a2.tables.source.plants)), .v false (V.l 4 (List.map GMachine.e a2.tables.source.machines)), .v false (V.l 2 (List.map GOption.e a2.tables.source.options)), .v false (V.l 1 (List.map (fun l => V.l 4 (List.map GCond.e l)) a2.tables.source.forbids)), .v false (V.l 17 (List.map GRecipe.e a2.tables.source.recipes)), .v false (V.l 4 (List.map GSwap.e a2.tables.source.swaps)), .v false (V.l 1 (List.map vi a2.tables.levels)), .v false (V.l 1 (List.map (fun l => V.l 6 (List.map GInst.e l)) a2.tables.codes)), .o 100042 0 q0_a2 8 0 a2.facts.length]), .e 100042 0 q0_a2 (.row 120 (els true (List.map GFact.e a2.facts)))] (fun d es' => ∃ (q0_a2' : Pl), d = .t [] ∧ es' = [.e 100040 0 (some (b_a2, 11)) (.row 38 [.v false (V.l 8 (List.map GUnit.e r.tables.source.units)), .v false (V.l 6 (List.map GItem.e r.tables.source.items)), .v false (V.l 1 (List.map V.s r.tables.source.plants)), .v false (V.l 4 (List.map GMachine.e r.tables.source.machines)), .v false (V.l 2 (List.map GOption.e r.tables.source.options)), .v false (V.l 1 (List.map (fun l => V.l 4 (List.map GCond.e l)) r.tables.source.forbids)), .v false (V.l 17 (List.map GRecipe.e r.tables.source.recipes)), .v false (V.l 4 (List.map GSwap.e r.tables.source.swaps)), .v false (V.l 1 (List.map vi r.tables.levels)), .v false (V.l 1 (List.map (fun l => V.l 6 (List.map GInst.e l)) r.tables.codes)), .o 100042 0 q0_a2' 8 0 r.facts.length]), .e 100042 0 q0_a2' (.row 120 (els true (List.map GFact.e r.facts)))]) := by
  unfold backflushlaw40_example_1_m at H
  refine fnr_intro (N := 17) Try.func79 rfl rfl rfl rfl fun C => ?_
  refine ev_shift (shift_mk (fs := [(0, .v true (GKey.e a0)), (1, .v true (vi a1)), (2, .p 100040 0 b_a2 0)]) (es := [.e 100040 0 (some (b_a2, 11)) (.row 38 [.v false (V.l 8 (List.map GUnit.e a2.tables.source.units)), .v false (V.l 6 (List.map GItem.e a2.tables.source.items)), .v false (V.l 1 (List.map V.s a2.tables.source.plants)), .v false (V.l 4 (List.map GMachine.e a2.tables.source.machines)), .v false (V.l 2 (List.map GOption.e a2.tables.source.options)), .v false (V.l 1 (List.map (fun l => V.l 4 (List.map GCond.e l)) a2.tables.source.forbids)), .v false (V.l 17 (List.map GRecipe.e a2.tables.source.recipes)), .v false (V.l 4 (List.map GSwap.e a2.tables.source.swaps)), .v false (V.l 1 (List.map vi a2.tables.levels)), .v false (V.l 1 (List.map (fun l => V.l 6 (List.map GInst.e l)) a2.tables.codes)), .o 100042 0 q0_a2 8 0 a2.facts.length]), .e 100042 0 q0_a2 (.row 120 (els true (List.map GFact.e a2.facts)))]) ⟨⟨_, rfl, (.flat rfl)⟩, ⟨⟨_, rfl, (.flat rfl)⟩, ⟨⟨_, rfl, .rfl⟩, trivial⟩⟩⟩ ⟨(.e rfl), ⟨(.e rfl), trivial⟩⟩ rfl rfl) ?_
  refine ev_seq ?_
  refine ev_region ?_
  refine re rfl (e_box 3 0 rfl rfl rfl) ?_; rintro _ ⟨b1, rfl⟩
  refine run_nil ?_
  refine ev_region ?_
  refine rq rfl rfl (q_fld_p rfl) ?_
  refine rq rfl rfl (q_load1 rfl rfl rfl) ?_
  refine rq rfl rfl (q_loadN rfl rfl rfl rfl) ?_
  refine rq rfl rfl (q_move rfl) ?_
  refine rq rfl rfl (q_build rfl (.v rfl rfl rfl rfl rfl .nil)) ?_
  refine rq rfl rfl (q_fld_p rfl) ?_
  refine rq rfl rfl (q_load1 rfl rfl rfl) ?_
  refine rq rfl rfl (q_len_o rfl) ?_
  refine rq rfl rfl (q_build rfl (.v rfl rfl rfl rfl rfl (.v rfl rfl rfl rfl rfl (.v rfl rfl rfl rfl rfl (.v rfl rfl rfl rfl rfl (.v rfl rfl rfl rfl rfl .nil)))))) ?_
  refine rq rfl rfl (q_buildSlice (z := 8) (xs := List.map GFact.e ([(⟨a0, a1, (⟨0, 1024⟩ : GSpan), 1, ((a2.facts.length : Nat) : Int)⟩ : GFact)] : List GFact)) (fl := true) rfl rfl rfl rfl (by simp [V.plain, V.cells, GFact.e, vi, vb]) rfl) ?_
  obtain ⟨w2, H⟩ := gdd_inv H
  refine re rfl (e_appt rfl rfl rfl (fun _ => ⟨rfl, rfl⟩) rfl rfl rfl w2 rfl) ?_; rintro _ ⟨q3, rfl⟩
  refine rq rfl rfl (q_fld_p rfl) ?_
  refine re rfl (e_store1 rfl rfl rfl rfl rfl (Nat.le_of_ble_eq_true rfl) rfl) ?_; rintro _ rfl
  refine run_nil ?_
  have hr := Option.some.inj H
  exact endR [] [.e 100040 0 (some (b_a2, 11)) (.row 38 [.v false (V.l 8 (List.map GUnit.e ((⟨a2.tables, a2.facts ++ ([(⟨a0, a1, (⟨0, 1024⟩ : GSpan), 1, ((a2.facts.length : Nat) : Int)⟩ : GFact)] : List GFact)⟩ : GWorld).tables.source.units))), .v false (V.l 6 (List.map GItem.e ((⟨a2.tables, a2.facts ++ ([(⟨a0, a1, (⟨0, 1024⟩ : GSpan), 1, ((a2.facts.length : Nat) : Int)⟩ : GFact)] : List GFact)⟩ : GWorld).tables.source.items))), .v false (V.l 1 (List.map V.s ((⟨a2.tables, a2.facts ++ ([(⟨a0, a1, (⟨0, 1024⟩ : GSpan), 1, ((a2.facts.length : Nat) : Int)⟩ : GFact)] : List GFact)⟩ : GWorld).tables.source.plants))), .v false (V.l 4 (List.map GMachine.e ((⟨a2.tables, a2.facts ++ ([(⟨a0, a1, (⟨0, 1024⟩ : GSpan), 1, ((a2.facts.length : Nat) : Int)⟩ : GFact)] : List GFact)⟩ : GWorld).tables.source.machines))), .v false (V.l 2 (List.map GOption.e ((⟨a2.tables, a2.facts ++ ([(⟨a0, a1, (⟨0, 1024⟩ : GSpan), 1, ((a2.facts.length : Nat) : Int)⟩ : GFact)] : List GFact)⟩ : GWorld).tables.source.options))), .v false (V.l 1 (List.map (fun l => V.l 4 (List.map GCond.e l)) ((⟨a2.tables, a2.facts ++ ([(⟨a0, a1, (⟨0, 1024⟩ : GSpan), 1, ((a2.facts.length : Nat) : Int)⟩ : GFact)] : List GFact)⟩ : GWorld).tables.source.forbids))), .v false (V.l 17 (List.map GRecipe.e ((⟨a2.tables, a2.facts ++ ([(⟨a0, a1, (⟨0, 1024⟩ : GSpan), 1, ((a2.facts.length : Nat) : Int)⟩ : GFact)] : List GFact)⟩ : GWorld).tables.source.recipes))), .v false (V.l 4 (List.map GSwap.e ((⟨a2.tables, a2.facts ++ ([(⟨a0, a1, (⟨0, 1024⟩ : GSpan), 1, ((a2.facts.length : Nat) : Int)⟩ : GFact)] : List GFact)⟩ : GWorld).tables.source.swaps))), .v false (V.l 1 (List.map vi ((⟨a2.tables, a2.facts ++ ([(⟨a0, a1, (⟨0, 1024⟩ : GSpan), 1, ((a2.facts.length : Nat) : Int)⟩ : GFact)] : List GFact)⟩ : GWorld).tables.levels))), .v false (V.l 1 (List.map (fun l => V.l 6 (List.map GInst.e l)) ((⟨a2.tables, a2.facts ++ ([(⟨a0, a1, (⟨0, 1024⟩ : GSpan), 1, ((a2.facts.length : Nat) : Int)⟩ : GFact)] : List GFact)⟩ : GWorld).tables.codes))), .o 100042 0 q3 8 0 (((⟨a2.tables, a2.facts ++ ([(⟨a0, a1, (⟨0, 1024⟩ : GSpan), 1, ((a2.facts.length : Nat) : Int)⟩ : GFact)] : List GFact)⟩ : GWorld).facts).length)]), .e 100042 0 q3 (.row 120 (els true (List.map GFact.e ((⟨a2.tables, a2.facts ++ ([(⟨a0, a1, (⟨0, 1024⟩ : GSpan), 1, ((a2.facts.length : Nat) : Int)⟩ : GFact)] : List GFact)⟩ : GWorld).facts))))] rfl .nil ⟨q3, by cases hr; rfl, by cases hr; rfl⟩ ⟨(.w rfl (.cons .old (.cons .old (.cons .old (.cons .old (.cons .old (.cons .old (.cons .old (.cons .old (.cons .old (.cons .old (.cons .rfl .nil)))))))))))), ⟨(.e rfl), trivial⟩⟩
def backflushlaw40_example_m  : Option GWorld := bd (backflushlaw40_example_1_m (⟨0, 0, 0⟩ : GKey) 1 (⟨(⟨(⟨[], [], [], [], [], [], [], []⟩ : GSource), [], []⟩ : GTables), ([] : List GFact)⟩ : GWorld)) fun x3 => forN 0 ((([0, 0, 5, 9, 0] : List Int).length : Nat) : Int) (fun (k7 : Int) (s5 : (List GUnit) × (List GItem) × (List ByteArray) × (List GMachine) × (List GOption) × (List (List GCond)) × (List GRecipe) × (List GSwap) × (List Int) × (List (List GInst)) × (List GFact)) loop6 => bd (idx ([0, 0, 5, 9, 0] : List Int) k7) fun x28 => bd (backflushlaw40_example_1_m (⟨1, 0, k7⟩ : GKey) x28 (⟨(⟨(⟨s5.1, s5.2.1, s5.2.2.1, s5.2.2.2.1, s5.2.2.2.2.1, s5.2.2.2.2.2.1, s5.2.2.2.2.2.2.1, s5.2.2.2.2.2.2.2.1⟩ : GSource), s5.2.2.2.2.2.2.2.2.1, s5.2.2.2.2.2.2.2.2.2.1⟩ : GTables), s5.2.2.2.2.2.2.2.2.2.2⟩ : GWorld)) fun x29 => loop6 (x29.tables.source.units, x29.tables.source.items, x29.tables.source.plants, x29.tables.source.machines, x29.tables.source.options, x29.tables.source.forbids, x29.tables.source.recipes, x29.tables.source.swaps, x29.tables.levels, x29.tables.codes, x29.facts)) (fun (s5 : (List GUnit) × (List GItem) × (List ByteArray) × (List GMachine) × (List GOption) × (List (List GCond)) × (List GRecipe) × (List GSwap) × (List Int) × (List (List GInst)) × (List GFact)) => bd (backflushlaw40_example_1_m (⟨8, 0, 2⟩ : GKey) 7 (⟨(⟨(⟨s5.1, s5.2.1, s5.2.2.1, s5.2.2.2.1, s5.2.2.2.2.1, s5.2.2.2.2.2.1, s5.2.2.2.2.2.2.1, s5.2.2.2.2.2.2.2.1⟩ : GSource), s5.2.2.2.2.2.2.2.2.1, s5.2.2.2.2.2.2.2.2.2.1⟩ : GTables), s5.2.2.2.2.2.2.2.2.2.2⟩ : GWorld)) fun x31 => some x31) (x3.tables.source.units, x3.tables.source.items, x3.tables.source.plants, x3.tables.source.machines, x3.tables.source.options, x3.tables.source.forbids, x3.tables.source.recipes, x3.tables.source.swaps, x3.tables.levels, x3.tables.codes, x3.facts)
theorem backflushlaw40_example_c  {r : GWorld} (H : backflushlaw40_example_m  = some r) : PureC Try.prog false 42 [] (GWorld.e r) := by
  unfold backflushlaw40_example_m at H
  refine pure_intro (N := 26) Try.func42 rfl rfl rfl rfl fun C hO => ?_
  refine ev_seq ?_
  refine ev_region ?_
  refine re rfl (e_alloc 0 0 rfl rfl) ?_; rintro _ ⟨b1, rfl⟩
  refine run_nil ?_
  refine ev_seq ?_
  refine ev_region ?_
  refine re rfl (e_alloc 100040 0 rfl rfl) ?_; rintro _ ⟨b2, rfl⟩
  refine run_shift (shift_norow 100042 0 120) ?_
  refine run_shift (shift_wk (k := 100040) (i := 0) (ys := [.v true (.raw (.slice none 0 0)), .v true (.raw (.slice none 0 0)), .v true (.raw (.slice none 0 0)), .v true (.raw (.slice none 0 0)), .v true (.raw (.slice none 0 0)), .v true (.raw (.slice none 0 0)), .v true (.raw (.slice none 0 0)), .v true (.raw (.slice none 0 0)), .v true (.raw (.slice none 0 0)), .v true (.raw (.slice none 0 0)), .o 100042 0 none 8 0 (([] : List GFact).length)]) rfl (.cons .rfl (.cons .rfl (.cons .rfl (.cons .rfl (.cons .rfl (.cons .rfl (.cons .rfl (.cons .rfl (.cons .rfl (.cons .rfl (.cons .nilo .nil)))))))))))) ?_
  refine run_nil ?_
  refine ev_seq ?_
  refine ev_region ?_
  refine rq rfl rfl (q_funcD rfl) ?_
  refine rq rfl rfl (q_assign rfl) ?_
  refine run_nil ?_
  refine ev_seq ?_
  refine ev_region ?_
  refine rq rfl rfl (q_move rfl) ?_
  refine rq rfl rfl (q_build rfl (.v rfl rfl rfl rfl rfl .nil)) ?_
  obtain ⟨x3, x3_h, H⟩ := bd_inv H
  refine re rfl (e_callR [100040, 100042] rfl (.c _ _) rfl inferInstance (backflushlaw40_example_1_c  x3_h) ⟨(.w rfl (.cons .nill (.cons .nill (.cons .nill (.cons .nill (.cons .nill (.cons .nill (.cons .nill (.cons .nill (.cons .nill (.cons .nill (.cons .rfl .nil)))))))))))), ⟨(.e rfl), trivial⟩⟩ rfl rfl) ?_; rintro _ ⟨_, _, ⟨q4, rfl, rfl⟩, rfl⟩
  refine run_nil ?_
  refine ev_seq ?_
  refine ev_seq ?_
  refine ev_region ?_
  refine rq rfl rfl (q_buildSlice (z := 1) (xs := List.map vi ([0, 0, 5, 9, 0] : List Int)) (fl := true) rfl rfl rfl rfl (by simp [V.plain, V.cells, vi, vb]) rfl) ?_
  refine rq rfl rfl (q_len_t rfl) ?_
  refine rq rfl rfl (q_move rfl) ?_
  refine run_nil ?_
  refine ev_block ?_
  refine ev_forN H (fun k7 s5 σ' => ∃ (q20 : Pl), σ' = mkS [(0, .p 0 0 b1 0), (1, .p 100040 0 b2 0), (2, .c 79 [.p 100040 0 b2 0]), (9, .v true (V.l 1 (List.map vi ([0, 0, 5, 9, 0] : List Int)))), (10, .v true (vi ((([0, 0, 5, 9, 0] : List Int).length : Nat) : Int))), (11, .v true (vi k7))] [.e 0 0 (some (b1, 11)) (.row 38 [.v true (.raw (.slice none 0 0)), .v true (.raw (.slice none 0 0)), .v true (.raw (.slice none 0 0)), .v true (.raw (.slice none 0 0)), .v true (.raw (.slice none 0 0)), .v true (.raw (.slice none 0 0)), .v true (.raw (.slice none 0 0)), .v true (.raw (.slice none 0 0)), .v true (.raw (.slice none 0 0)), .v true (.raw (.slice none 0 0)), .v true (.raw (.slice none 0 0))]), .e 100040 0 (some (b2, 11)) (.row 38 [.v false (V.l 8 (List.map GUnit.e s5.1)), .v false (V.l 6 (List.map GItem.e s5.2.1)), .v false (V.l 1 (List.map V.s s5.2.2.1)), .v false (V.l 4 (List.map GMachine.e s5.2.2.2.1)), .v false (V.l 2 (List.map GOption.e s5.2.2.2.2.1)), .v false (V.l 1 (List.map (fun l => V.l 4 (List.map GCond.e l)) s5.2.2.2.2.2.1)), .v false (V.l 17 (List.map GRecipe.e s5.2.2.2.2.2.2.1)), .v false (V.l 4 (List.map GSwap.e s5.2.2.2.2.2.2.2.1)), .v false (V.l 1 (List.map vi s5.2.2.2.2.2.2.2.2.1)), .v false (V.l 1 (List.map (fun l => V.l 6 (List.map GInst.e l)) s5.2.2.2.2.2.2.2.2.2.1)), .o 100042 0 q20 8 0 s5.2.2.2.2.2.2.2.2.2.2.length]), .e 100042 0 q20 (.row 120 (els true (List.map GFact.e s5.2.2.2.2.2.2.2.2.2.2)))] [] (0, false)) ⟨_, ⟨q4, rfl⟩, shift_mk ⟨⟨_, rfl, .rfl⟩, ⟨⟨_, rfl, .rfl⟩, ⟨⟨_, rfl, .rfl⟩, ⟨⟨_, rfl, .rfl⟩, ⟨⟨_, rfl, (.flat rfl)⟩, ⟨⟨_, rfl, .rfl⟩, trivial⟩⟩⟩⟩⟩⟩ ⟨(.e rfl), ⟨(.e rfl), ⟨(.e rfl), trivial⟩⟩⟩ rfl rfl⟩ ?_
  rintro n21 k7 s5 _ ⟨q20, rfl⟩ w22 w23 w24 w25 H
  refine ev_seq ?_
  refine ev_region ?_
  refine rq rfl rfl (q_lss rfl rfl) ?_
  refine run_nil ?_
  refine ev_seq ?_
  refine ev_cond rfl (fun hc => ?_) (fun hc => ?_)
  · obtain ⟨n27, n27_e, w26, H⟩ := forN_in hc w22 H
    refine ev_skip ?_
    refine ev_seq ?_
    refine ev_block ?_
    refine ev_seq ?_
    refine ev_region ?_
    refine rq rfl rfl (q_move rfl) ?_
    obtain ⟨x28, x28_h, H⟩ := bd_inv H
    refine rq rfl rfl (q_idx_l rfl rfl (idx_inv x28_h).1 (map_get (idx_inv x28_h).2.1) rfl) ?_
    refine rq rfl rfl (q_load1_q rfl) ?_
    refine rq rfl rfl (q_assign rfl) ?_
    refine rq rfl rfl (q_assign rfl) ?_
    refine run_nil ?_
    refine ev_region ?_
    refine rq rfl rfl (q_move rfl) ?_
    refine rq rfl rfl (q_move rfl) ?_
    refine rq rfl rfl (q_build rfl (.v rfl rfl rfl rfl rfl (.v rfl rfl rfl rfl rfl .nil))) ?_
    refine rq rfl rfl (q_move rfl) ?_
    obtain ⟨x29, x29_h, H⟩ := bd_inv H
    refine re rfl (e_callR [100040, 100042] rfl (.c _ _) rfl inferInstance (backflushlaw40_example_1_c  x29_h) ⟨(.w rfl (.cons .old (.cons .old (.cons .old (.cons .old (.cons .old (.cons .old (.cons .old (.cons .old (.cons .old (.cons .old (.cons .rfl .nil)))))))))))), ⟨(.e rfl), trivial⟩⟩ rfl rfl) ?_; rintro _ ⟨_, _, ⟨q30, rfl, rfl⟩, rfl⟩
    refine run_nil ?_
    refine ev_region ?_
    refine rq rfl rfl (q_add rfl rfl) ?_
    refine rq rfl rfl (q_move rfl) ?_
    refine run_nil ?_
    exact ⟨_, _, _, n27_e, H, ⟨q30, rfl⟩, shift_mk ⟨⟨_, rfl, .rfl⟩, ⟨⟨_, rfl, .rfl⟩, ⟨⟨_, rfl, .rfl⟩, ⟨⟨_, rfl, .rfl⟩, ⟨⟨_, rfl, (.flat rfl)⟩, ⟨⟨_, rfl, (.eq (congrArg (fun n => D.v true (vi n)) (wrap_succ' (by omega) w26 w25)))⟩, trivial⟩⟩⟩⟩⟩⟩ ⟨(.e rfl), ⟨(.e rfl), ⟨(.e rfl), trivial⟩⟩⟩ rfl rfl⟩
  · replace H := forN_out hc w22 H
    refine ev_exit ?_
    refine ev_seq ?_
    refine ev_region ?_
    refine rq rfl rfl (q_move rfl) ?_
    refine rq rfl rfl (q_build rfl (.v rfl rfl rfl rfl rfl (.v rfl rfl rfl rfl rfl .nil))) ?_
    obtain ⟨x31, x31_h, H⟩ := bd_inv H
    refine re rfl (e_callR [100040, 100042] rfl (.c _ _) rfl inferInstance (backflushlaw40_example_1_c  x31_h) ⟨(.w rfl (.cons .old (.cons .old (.cons .old (.cons .old (.cons .old (.cons .old (.cons .old (.cons .old (.cons .old (.cons .old (.cons .rfl .nil)))))))))))), ⟨(.e rfl), trivial⟩⟩ rfl rfl) ?_; rintro _ ⟨_, _, ⟨q32, rfl, rfl⟩, rfl⟩
    refine run_nil ?_
    refine ev_seq ?_
    refine ev_region ?_
    refine rq rfl rfl (q_loadN rfl rfl rfl rfl) ?_
    refine re rfl (e_store rfl rfl rfl rfl rfl (Nat.le_of_ble_eq_true rfl) rfl) ?_; rintro _ rfl
    refine run_nil ?_
    refine ev_ret ?_
    exact ret_ok [GWorld.e x31] (congrArg (fun r : GWorld => GWorld.e r) (Option.some.inj H)) rfl (.cons (.cellN (z := 11) rfl rfl rfl rfl rfl rfl (.stl (.cons (.v _ _ (fun e => nomatch e)) (.cons (.v _ _ (fun e => nomatch e)) (.cons (.v _ _ (fun e => nomatch e)) (.cons (.v _ _ (fun e => nomatch e)) (.cons (.v _ _ (fun e => nomatch e)) (.cons (.v _ _ (fun e => nomatch e)) (.cons (.v _ _ (fun e => nomatch e)) (.cons (.v _ _ (fun e => nomatch e)) (.cons (.v _ _ (fun e => nomatch e)) (.cons (.v _ _ (fun e => nomatch e)) (.cons (.all rfl (List.length_map _) (els_plain fun _ => ⟨rfl, rfl⟩) (fun e => nomatch e)) .nil))))))))))))) .nil)
def facts_of_1_m (a1 : List GFact) (a2 : GKey) (a3 : Int) : Option (List GFact) := forL a1 (fun (k3 : Nat) (x8 : GFact) (s1 : Unit) loop2 => jn (fun (_ : Unit) => loop2 ()) fun j12 => bif bif GKey.eqb x8.key a2 then decide (x8.known ≤ a3) else false then (yl x8 (j12 ())) else (j12 ())) (fun (s1 : Unit) => some []) ()
theorem facts_of_1_c {a1 : List GFact} {a2 : GKey} {a3 : Int} {R : List GFact} (H : facts_of_1_m a1 a2 a3 = some R) : SeqC Try.prog 89 [.q (V.cells (V.l 8 (List.map GFact.e a1))), .q (V.cells (GKey.e a2)), .q (V.cells (vi a3))] (R.map (fun y => [GFact.e y])) := by
  unfold facts_of_1_m at H
  refine seq_intro (N := 30) Try.func89 rfl rfl rfl rfl fun l is hNN hO hY => ?_
  obtain ⟨r0, h0, H⟩ : ∃ r0, Rem R 0 r0 ∧ _ = some r0 := ⟨R, .start R, H⟩
  refine ev_seq ?_
  refine ev_region ?_
  refine rq rfl rfl (q_load1_q rfl) ?_
  refine rq rfl rfl (q_len_t rfl) ?_
  refine rq rfl rfl (q_move rfl) ?_
  refine run_nil ?_
  refine ev_block ?_
  refine ev_len_l (s := 7) rfl fun w10 => ?_
  rw [List.length_map] at w10
  refine ev_forLy H (fun k3 s1 r5 σ' => ∃ (m4 : Nat), Rem R m4 r5 ∧ σ' = mkS [(0, .v false (.raw (.func (.yield l) #[] #[]))), (2, .v false (.q (V.cells (GKey.e a2)))), (3, .v false (.q (V.cells (vi a3)))), (7, .v false (V.l 8 (List.map GFact.e a1))), (8, .v true (vi ((a1.length : Nat) : Int))), (9, .v true (vi ((k3 : Nat) : Int)))] [] [] (m4, false)) ⟨_, ⟨0, h0, rfl⟩, shift_mk ⟨⟨_, rfl, .rfl⟩, ⟨⟨_, rfl, .rfl⟩, ⟨⟨_, rfl, .rfl⟩, ⟨⟨_, rfl, .rfl⟩, ⟨⟨_, rfl, (.flat rfl)⟩, ⟨⟨_, rfl, .rfl⟩, trivial⟩⟩⟩⟩⟩⟩ trivial rfl rfl⟩ ?_
  rintro k3 s1 r5 _ ⟨m4, h6, rfl⟩ _ H
  refine ev_seq ?_
  refine ev_region ?_
  refine rq rfl rfl (q_lss rfl rfl) ?_
  refine run_nil ?_
  refine ev_seq ?_
  refine ev_cond rfl (fun hc => ?_) (fun hc => ?_)
  · obtain ⟨x8, w9, x8_g, H⟩ := forL_in hc H
    have x8_h : idx a1 ((k3 : Nat) : Int) = some x8 := by rw [idx_nat]; exact x8_g
    refine ev_skip ?_
    refine ev_seq ?_
    refine ev_block ?_
    refine ev_seq ?_
    refine ev_region ?_
    refine rq rfl rfl (q_idx_l rfl rfl (idx_inv x8_h).1 (map_get (idx_inv x8_h).2.1) rfl) ?_
    refine rq rfl rfl (q_load_e rfl rfl rfl) ?_
    refine re rfl (e_alloc 6 0 rfl rfl) ?_; rintro _ ⟨b11, rfl⟩
    refine re rfl (e_store rfl rfl rfl rfl rfl (Nat.le_of_ble_eq_true rfl) rfl) ?_; rintro _ rfl
    refine run_nil ?_
    obtain ⟨j12, j12_e, H⟩ := jn_inv H
    refine ev_join (fun σ' => (∃ (m13 : Nat) (r14 : List _), Rem R m13 r14 ∧ j12 () = some r14 ∧ σ' = mkS [(0, .v false (.raw (.func (.yield l) #[] #[]))), (2, .v false (.q (V.cells (GKey.e a2)))), (3, .v false (.q (V.cells (vi a3)))), (7, .v false (V.l 8 (List.map GFact.e a1))), (8, .v true (vi ((a1.length : Nat) : Int))), (9, .v true (vi ((k3 : Nat) : Int))), (28, .v true (vb false))] [] [] (m13, false)) ∨ (∃ (m16 : Nat), σ' = mkS [(0, .v false (.raw (.func (.yield l) #[] #[]))), (2, .v false (.q (V.cells (GKey.e a2)))), (3, .v false (.q (V.cells (vi a3)))), (7, .v false (V.l 8 (List.map GFact.e a1))), (8, .v true (vi ((a1.length : Nat) : Int))), (9, .v true (vi ((k3 : Nat) : Int))), (28, .v true (vb true))] [] [] (m16, true))) ?_ ?_
    · rintro _ (⟨m13, r14, h15, H, rfl⟩ | ⟨m16, rfl⟩)
      · subst j12_e
        refine ev_condf rfl ?_
        refine ev_skip ?_
        refine ev_region ?_
        refine rq rfl rfl (q_add rfl rfl) ?_
        refine rq rfl rfl (q_move rfl) ?_
        refine run_nil ?_
        exact ⟨_, _, _, w9, H, ⟨m13, h15, rfl⟩, shift_mk ⟨⟨_, rfl, .rfl⟩, ⟨⟨_, rfl, .rfl⟩, ⟨⟨_, rfl, .rfl⟩, ⟨⟨_, rfl, .rfl⟩, ⟨⟨_, rfl, (.flat rfl)⟩, ⟨⟨_, rfl, (.eq (congrArg (fun n => D.v true (vi n)) (wrap_succ w9 w10)))⟩, trivial⟩⟩⟩⟩⟩⟩ trivial rfl rfl⟩
      · refine ev_condt rfl ?_
        refine ev_ret ?_
        exact seq_stop (.inl rfl) rfl rfl
    · clear j12_e
      refine ev_region ?_
      refine rq rfl rfl (q_fld_p rfl) ?_
      refine rq rfl rfl (q_loadN rfl rfl rfl rfl) ?_
      refine rq rfl rfl (q_load_e rfl rfl rfl) ?_
      refine rq rfl rfl (q_eqs rfl rfl rfl) ?_
      refine rq rfl rfl (q_move rfl) ?_
      refine rqc (l := []) ⟨⟨_, _, _, rfl, rfl, rfl, rfl⟩, rfl, fun hc => q_fld_p rfl, trivial⟩ rfl ?_
      refine rqc (l := [18]) ⟨⟨_, _, _, rfl, rfl, rfl, rfl⟩, rfl, fun hc => q_load1 rfl rfl rfl, ⟨fun h => h, trivial⟩⟩ rfl ?_
      refine rqc (l := []) ⟨⟨_, _, _, rfl, rfl, rfl, rfl⟩, rfl, fun hc => q_load1_q rfl, trivial⟩ rfl ?_
      refine rqc (l := [19, 20]) ⟨⟨_, _, _, rfl, rfl, rfl, rfl⟩, rfl, fun hc => q_leq rfl rfl, ⟨fun h => h, ⟨fun h => h, trivial⟩⟩⟩ rfl ?_
      refine rq rfl rfl (q_pickb rfl rfl rfl (PB.c (fun hp => hp)) PB.v) ?_
      refine rq rfl rfl (q_move rfl) ?_
      refine rg (s := 23) rfl rfl (fun hc => ?_) (fun hc => ?_)
      · replace H := ct hc H
        refine rq rfl rfl (q_move rfl) ?_
        refine rq rfl rfl (q_loadN rfl rfl rfl rfl) ?_
        obtain ⟨r17, r17_e, r17_H⟩ := yl_inv H; clear H; subst r17_e; have H := r17_H; clear r17_H
        refine run_yields hY rfl rfl rfl (.v rfl CapsOk.nil) rfl (yield_at h6) ?_ ?_
        · have h18 := h6.next.2
          refine rq rfl rfl (q_not rfl) ?_
          refine rq rfl rfl (q_pickt rfl rfl) ?_
          refine run_nil ?_
          exact ⟨_, .inl ⟨(m4 + 1), r17, h18, H, rfl⟩, shift_mk ⟨⟨_, rfl, .rfl⟩, ⟨⟨_, rfl, .rfl⟩, ⟨⟨_, rfl, .rfl⟩, ⟨⟨_, rfl, .rfl⟩, ⟨⟨_, rfl, (.flat rfl)⟩, ⟨⟨_, rfl, (.flat rfl)⟩, ⟨⟨_, rfl, (.flat rfl)⟩, trivial⟩⟩⟩⟩⟩⟩⟩ trivial rfl rfl⟩
        · refine rq rfl rfl (q_not rfl) ?_
          refine rq rfl rfl (q_pickt rfl rfl) ?_
          refine run_nil ?_
          exact ⟨_, .inr ⟨(m4 + 1), rfl⟩, shift_mk ⟨⟨_, rfl, .rfl⟩, ⟨⟨_, rfl, .rfl⟩, ⟨⟨_, rfl, .rfl⟩, ⟨⟨_, rfl, .rfl⟩, ⟨⟨_, rfl, (.flat rfl)⟩, ⟨⟨_, rfl, (.flat rfl)⟩, ⟨⟨_, rfl, (.flat rfl)⟩, trivial⟩⟩⟩⟩⟩⟩⟩ trivial rfl rfl⟩
      · replace H := cf hc H
        refine rs rfl rfl ?_
        refine rs rfl rfl ?_
        refine rs rfl rfl ?_
        refine rs rfl rfl ?_
        refine rq rfl rfl (q_pickf rfl rfl) ?_
        refine run_nil ?_
        exact ⟨_, .inl ⟨m4, r5, h6, H, rfl⟩, shift_mk ⟨⟨_, rfl, .rfl⟩, ⟨⟨_, rfl, .rfl⟩, ⟨⟨_, rfl, .rfl⟩, ⟨⟨_, rfl, .rfl⟩, ⟨⟨_, rfl, (.flat rfl)⟩, ⟨⟨_, rfl, (.flat rfl)⟩, ⟨⟨_, rfl, (.flat rfl)⟩, trivial⟩⟩⟩⟩⟩⟩⟩ trivial rfl rfl⟩
  · replace H := forL_out hc H
    refine ev_exit ?_
    cases H
    exact seq_end (.inr rfl) rfl rfl h6
def facts_of_m (a0 : List GFact) (a1 : GKey) (a2 : Int) : Option ((List GFact) × GKey × Int) := some (a0, a1, a2)
theorem facts_of_c {a0 : List GFact} {a1 : GKey} {a2 : Int} {r : ((List GFact) × GKey × Int)} (H : facts_of_m a0 a1 a2 = some r) : PureC Try.prog false 57 [V.l 8 (List.map GFact.e a0), GKey.e a1, vi a2] (V.c 89 [V.q (V.cells (V.l 8 (List.map GFact.e r.1))), V.q (V.cells (GKey.e r.2.1)), V.q (V.cells (vi r.2.2))]) := by
  unfold facts_of_m at H
  refine pure_intro (N := 8) Try.func57 rfl rfl rfl rfl fun C hO => ?_
  refine ev_shift (shift_mk (fs := [(0, .v false (V.l 8 (List.map GFact.e a0))), (1, .v true (GKey.e a1)), (2, .v true (vi a2))]) (es := []) ⟨⟨_, rfl, .rfl⟩, ⟨⟨_, rfl, (.flat rfl)⟩, ⟨⟨_, rfl, (.flat rfl)⟩, trivial⟩⟩⟩ trivial rfl rfl) ?_
  refine ev_seq ?_
  refine ev_region ?_
  refine re rfl (e_box 3 0 rfl rfl rfl) ?_; rintro _ ⟨b1, rfl⟩
  refine re rfl (e_box 4 0 rfl rfl rfl) ?_; rintro _ ⟨b2, rfl⟩
  refine re rfl (e_box 5 0 rfl rfl rfl) ?_; rintro _ ⟨b3, rfl⟩
  refine rq rfl rfl (q_assign rfl) ?_
  refine run_nil ?_
  refine ev_seq ?_
  refine ev_shift (shift_frzb (f := false) 3 (V.cells (V.l 8 (List.map GFact.e a0))) rfl rfl (.cons .rfl .nil)) ?_
  refine ev_shift (shift_frzb (f := true) 4 (V.cells (GKey.e a1)) rfl rfl (.cons (.flat rfl) (.cons (.flat rfl) (.cons (.flat rfl) .nil)))) ?_
  refine ev_shift (shift_frzb (f := true) 5 (V.cells (vi a2)) rfl rfl (.cons (.flat rfl) .nil)) ?_
  refine ev_region ?_
  refine rq rfl rfl (q_func (.v rfl (.v rfl (.v rfl CapsOk.nil)))) ?_
  refine rq rfl rfl (q_assign rfl) ?_
  refine run_nil ?_
  refine ev_ret ?_
  exact ret_ok [V.c 89 [V.q (V.cells (V.l 8 (List.map GFact.e ((a0, a1, a2).1)))), V.q (V.cells (GKey.e ((a0, a1, a2).2.1))), V.q (V.cells (vi ((a0, a1, a2).2.2)))]] (congrArg (fun r : ((List GFact) × GKey × Int) => V.c 89 [V.q (V.cells (V.l 8 (List.map GFact.e r.1))), V.q (V.cells (GKey.e r.2.1)), V.q (V.cells (vi r.2.2))]) (Option.some.inj H)) rfl (.cons (.tmp rfl (.v _ _ (fun e => nomatch e))) .nil)
def cmp_isNaN_int_m (a0 : Int) : Option Bool := some (a0 != a0)
theorem cmp_isNaN_int_c {a0 : Int} {r : Bool} (H : cmp_isNaN_int_m a0 = some r) : PureC Try.prog true 93 [vi a0] (vb r) := by
  unfold cmp_isNaN_int_m at H
  refine pure_intro (N := 6) Try.func93 rfl rfl rfl rfl fun C hO => ?_
  refine ev_shift (shift_mk (fs := [(0, .v true (vi a0))]) (es := []) ⟨⟨_, rfl, (.flat rfl)⟩, trivial⟩ trivial rfl rfl) ?_
  refine ev_seq ?_
  refine ev_region ?_
  refine rq rfl rfl (q_assign rfl) ?_
  refine run_nil ?_
  refine ev_seq ?_
  refine ev_region ?_
  refine rq rfl rfl (q_move rfl) ?_
  refine rq rfl rfl (q_move rfl) ?_
  refine rq rfl rfl (q_nei rfl rfl) ?_
  refine rq rfl rfl (q_assign rfl) ?_
  refine run_nil ?_
  refine ev_ret ?_
  exact ret_ok [vb (a0 != a0)] (congrArg (fun r : Bool => vb r) (Option.some.inj H)) rfl (.cons (.tmp rfl (.v _ _ (fun _ => rfl))) .nil)
def cmp_Compare_int_m (a0 : Int) (a1 : Int) : Option Int := bd (cmp_isNaN_int_m a0) fun x1 => bd (cmp_isNaN_int_m a1) fun x2 => bif x1 then (bif x2 then (some 0) else (some (-1))) else (bif x2 then (some 1) else (bif decide (a0 < a1) then (some (-1)) else (bif decide (a1 < a0) then (some 1) else (some 0))))
theorem cmp_Compare_int_c {a0 : Int} {a1 : Int} {r : Int} (H : cmp_Compare_int_m a0 a1 = some r) : PureC Try.prog true 67 [vi a0, vi a1] (vi r) := by
  unfold cmp_Compare_int_m at H
  refine pure_intro (N := 20) Try.func67 rfl rfl rfl rfl fun C hO => ?_
  refine ev_shift (shift_mk (fs := [(0, .v true (vi a0)), (1, .v true (vi a1))]) (es := []) ⟨⟨_, rfl, (.flat rfl)⟩, ⟨⟨_, rfl, (.flat rfl)⟩, trivial⟩⟩ trivial rfl rfl) ?_
  refine ev_seq ?_
  refine ev_region ?_
  refine rq rfl rfl (q_assign rfl) ?_
  refine run_nil ?_
  refine ev_seq ?_
  refine ev_region ?_
  refine rq rfl rfl (q_move rfl) ?_
  obtain ⟨x1, x1_h, H⟩ := bd_inv H
  refine rq rfl rfl (q_call rfl (.v _ _ (fun e => nomatch e)) (.v rfl ArgsOk.nil) inferInstance (cmp_isNaN_int_c  x1_h)) ?_
  refine rq rfl rfl (q_assign rfl) ?_
  refine run_nil ?_
  refine ev_seq ?_
  refine ev_region ?_
  refine rq rfl rfl (q_move rfl) ?_
  obtain ⟨x2, x2_h, H⟩ := bd_inv H
  refine rq rfl rfl (q_call rfl (.v _ _ (fun e => nomatch e)) (.v rfl ArgsOk.nil) inferInstance (cmp_isNaN_int_c  x2_h)) ?_
  refine rq rfl rfl (q_assign rfl) ?_
  refine run_nil ?_
  refine ev_seq ?_
  refine ev_seq ?_
  refine ev_region ?_
  refine rq rfl rfl (q_move rfl) ?_
  refine run_nil ?_
  refine ev_cond rfl (fun hc => ?_) (fun hc => ?_)
  · replace H := ct hc H
    refine ev_seq ?_
    refine ev_seq ?_
    refine ev_region ?_
    refine rq rfl rfl (q_move rfl) ?_
    refine run_nil ?_
    refine ev_cond rfl (fun hc => ?_) (fun hc => ?_)
    · replace H := ct hc H
      refine ev_seq ?_
      refine ev_region ?_
      refine rq rfl rfl (q_assign rfl) ?_
      refine run_nil ?_
      refine ev_ret ?_
      exact ret_ok [vi 0] (congrArg (fun r : Int => vi r) (Option.some.inj H)) rfl (.cons (.tmp rfl (.v _ _ (fun _ => rfl))) .nil)
    · replace H := cf hc H
      refine ev_skip ?_
      refine ev_seq ?_
      refine ev_region ?_
      refine rq rfl rfl (q_assign rfl) ?_
      refine run_nil ?_
      refine ev_ret ?_
      exact ret_ok [vi (-1)] (congrArg (fun r : Int => vi r) (Option.some.inj H)) rfl (.cons (.tmp rfl (.v _ _ (fun _ => rfl))) .nil)
  · replace H := cf hc H
    refine ev_skip ?_
    refine ev_seq ?_
    refine ev_seq ?_
    refine ev_region ?_
    refine rq rfl rfl (q_move rfl) ?_
    refine run_nil ?_
    refine ev_cond rfl (fun hc => ?_) (fun hc => ?_)
    · replace H := ct hc H
      refine ev_seq ?_
      refine ev_region ?_
      refine rq rfl rfl (q_assign rfl) ?_
      refine run_nil ?_
      refine ev_ret ?_
      exact ret_ok [vi 1] (congrArg (fun r : Int => vi r) (Option.some.inj H)) rfl (.cons (.tmp rfl (.v _ _ (fun _ => rfl))) .nil)
    · replace H := cf hc H
      refine ev_skip ?_
      refine ev_seq ?_
      refine ev_seq ?_
      refine ev_region ?_
      refine rq rfl rfl (q_move rfl) ?_
      refine rq rfl rfl (q_move rfl) ?_
      refine rq rfl rfl (q_lss rfl rfl) ?_
      refine run_nil ?_
      refine ev_cond rfl (fun hc => ?_) (fun hc => ?_)
      · replace H := ct hc H
        refine ev_seq ?_
        refine ev_region ?_
        refine rq rfl rfl (q_assign rfl) ?_
        refine run_nil ?_
        refine ev_ret ?_
        exact ret_ok [vi (-1)] (congrArg (fun r : Int => vi r) (Option.some.inj H)) rfl (.cons (.tmp rfl (.v _ _ (fun _ => rfl))) .nil)
      · replace H := cf hc H
        refine ev_skip ?_
        refine ev_seq ?_
        refine ev_seq ?_
        refine ev_region ?_
        refine rq rfl rfl (q_move rfl) ?_
        refine rq rfl rfl (q_move rfl) ?_
        refine rq rfl rfl (q_gtr rfl rfl) ?_
        refine run_nil ?_
        refine ev_cond rfl (fun hc => ?_) (fun hc => ?_)
        · replace H := ct hc H
          refine ev_seq ?_
          refine ev_region ?_
          refine rq rfl rfl (q_assign rfl) ?_
          refine run_nil ?_
          refine ev_ret ?_
          exact ret_ok [vi 1] (congrArg (fun r : Int => vi r) (Option.some.inj H)) rfl (.cons (.tmp rfl (.v _ _ (fun _ => rfl))) .nil)
        · replace H := cf hc H
          refine ev_skip ?_
          refine ev_seq ?_
          refine ev_region ?_
          refine rq rfl rfl (q_assign rfl) ?_
          refine run_nil ?_
          refine ev_ret ?_
          exact ret_ok [vi 0] (congrArg (fun r : Int => vi r) (Option.some.inj H)) rfl (.cons (.tmp rfl (.v _ _ (fun _ => rfl))) .nil)
def cmp_Or_int_m (a0 : List Int) : Option Int := forL a0 (fun (k3 : Nat) (x5 : Int) (s1 : Unit) loop2 => bif x5 != 0 then (some x5) else (loop2 ())) (fun (s1 : Unit) => some 0) ()
theorem cmp_Or_int_c {a0 : List Int} {r : Int} (H : cmp_Or_int_m a0 = some r) : PureC Try.prog true 90 [V.l 1 (List.map vi a0)] (vi r) := by
  unfold cmp_Or_int_m at H
  refine pure_intro (N := 18) Try.func90 rfl rfl rfl rfl fun C hO => ?_
  refine ev_seq ?_
  refine ev_region ?_
  refine rq rfl rfl (q_assign rfl) ?_
  refine run_nil ?_
  refine ev_seq ?_
  refine ev_region ?_
  refine rq rfl rfl (q_assign rfl) ?_
  refine run_nil ?_
  refine ev_seq ?_
  refine ev_seq ?_
  refine ev_region ?_
  refine rq rfl rfl (q_move rfl) ?_
  refine rq rfl rfl (q_len_t rfl) ?_
  refine rq rfl rfl (q_move rfl) ?_
  refine run_nil ?_
  refine ev_block ?_
  refine ev_len_l (s := 6) rfl fun w7 => ?_
  rw [List.length_map] at w7
  refine ev_forL H (fun k3 s1 σ' => σ' = mkS [(2, .v true (vi 0)), (3, .v true (vi 0)), (6, .v false (V.l 1 (List.map vi a0))), (7, .v true (vi ((a0.length : Nat) : Int))), (8, .v true (vi ((k3 : Nat) : Int)))] [] [] (0, false)) ⟨_, rfl, shift_mk ⟨⟨_, rfl, (.flat rfl)⟩, ⟨⟨_, rfl, (.flat rfl)⟩, ⟨⟨_, rfl, .rfl⟩, ⟨⟨_, rfl, (.flat rfl)⟩, ⟨⟨_, rfl, .rfl⟩, trivial⟩⟩⟩⟩⟩ trivial rfl rfl⟩ ?_
  rintro k3 s1 _ rfl _ H
  refine ev_seq ?_
  refine ev_region ?_
  refine rq rfl rfl (q_lss rfl rfl) ?_
  refine run_nil ?_
  refine ev_seq ?_
  refine ev_cond rfl (fun hc => ?_) (fun hc => ?_)
  · obtain ⟨x5, w6, x5_g, H⟩ := forL_in hc H
    have x5_h : idx a0 ((k3 : Nat) : Int) = some x5 := by rw [idx_nat]; exact x5_g
    refine ev_skip ?_
    refine ev_seq ?_
    refine ev_block ?_
    refine ev_seq ?_
    refine ev_region ?_
    refine rq rfl rfl (q_idx_l rfl rfl (idx_inv x5_h).1 (map_get (idx_inv x5_h).2.1) rfl) ?_
    refine rq rfl rfl (q_load1_q rfl) ?_
    refine rq rfl rfl (q_assign rfl) ?_
    refine run_nil ?_
    refine ev_seq ?_
    refine ev_region ?_
    refine rq rfl rfl (q_move rfl) ?_
    refine rq rfl rfl (q_move rfl) ?_
    refine rq rfl rfl (q_nei rfl rfl) ?_
    refine run_nil ?_
    refine ev_cond rfl (fun hc => ?_) (fun hc => ?_)
    · replace H := ct hc H
      refine ev_seq ?_
      refine ev_region ?_
      refine rq rfl rfl (q_move rfl) ?_
      refine rq rfl rfl (q_assign rfl) ?_
      refine run_nil ?_
      refine ev_ret ?_
      exact ret_ok [vi x5] (congrArg (fun r : Int => vi r) (Option.some.inj H)) rfl (.cons (.tmp rfl (.v _ _ (fun _ => rfl))) .nil)
    · replace H := cf hc H
      refine ev_skip ?_
      refine ev_region ?_
      refine rq rfl rfl (q_add rfl rfl) ?_
      refine rq rfl rfl (q_move rfl) ?_
      refine run_nil ?_
      exact ⟨_, _, w6, H, rfl, shift_mk ⟨⟨_, rfl, (.flat rfl)⟩, ⟨⟨_, rfl, (.flat rfl)⟩, ⟨⟨_, rfl, .rfl⟩, ⟨⟨_, rfl, (.flat rfl)⟩, ⟨⟨_, rfl, (.eq (congrArg (fun n => D.v true (vi n)) (wrap_succ w6 w7)))⟩, trivial⟩⟩⟩⟩⟩ trivial rfl rfl⟩
  · replace H := forL_out hc H
    refine ev_exit ?_
    refine ev_seq ?_
    refine ev_region ?_
    refine rq rfl rfl (q_move rfl) ?_
    refine rq rfl rfl (q_assign rfl) ?_
    refine run_nil ?_
    refine ev_ret ?_
    exact ret_ok [vi 0] (congrArg (fun r : Int => vi r) (Option.some.inj H)) rfl (.cons (.tmp rfl (.v _ _ (fun _ => rfl))) .nil)
def facts_compare_m (a0 : GFact) (a1 : GFact) : Option Int := bd (cmp_Compare_int_m a0.known a1.known) fun x3 => bd (cmp_Compare_int_m a0.no_ a1.no_) fun x4 => bd (cmp_Or_int_m ([x3, x4] : List Int)) fun x5 => some x5
theorem facts_compare_c {a0 : GFact} {a1 : GFact} {r : Int} (H : facts_compare_m a0 a1 = some r) : PureC Try.prog true 58 [GFact.e a0, GFact.e a1] (vi r) := by
  unfold facts_compare_m at H
  refine pure_intro (N := 17) Try.func58 rfl rfl rfl rfl fun C hO => ?_
  refine ev_shift (shift_mk (fs := [(0, .v true (GFact.e a0)), (1, .v true (GFact.e a1))]) (es := []) ⟨⟨_, rfl, (.flat rfl)⟩, ⟨⟨_, rfl, (.flat rfl)⟩, trivial⟩⟩ trivial rfl rfl) ?_
  refine ev_seq ?_
  refine ev_region ?_
  refine re rfl (e_box 2 0 rfl rfl rfl) ?_; rintro _ ⟨b1, rfl⟩
  refine re rfl (e_box 3 0 rfl rfl rfl) ?_; rintro _ ⟨b2, rfl⟩
  refine rq rfl rfl (q_assign rfl) ?_
  refine run_nil ?_
  refine ev_seq ?_
  obtain ⟨x3, x3_h, H⟩ := bd_inv H
  obtain ⟨x4, x4_h, H⟩ := bd_inv H
  obtain ⟨x5, x5_h, H⟩ := bd_inv H
  refine ev_draw rfl (by kernel_rfl) ?_
  refine qq rfl rfl (q_fld_p rfl) ?_
  refine qq rfl rfl (q_load1 rfl rfl rfl) ?_
  refine qq rfl rfl (q_fld_p rfl) ?_
  refine qq rfl rfl (q_load1 rfl rfl rfl) ?_
  refine qq rfl rfl (q_call rfl (.v _ _ (fun e => nomatch e)) (.v rfl (.v rfl ArgsOk.nil)) inferInstance (cmp_Compare_int_c  x3_h)) ?_
  refine qq rfl rfl (q_fld_p rfl) ?_
  refine qq rfl rfl (q_load1 rfl rfl rfl) ?_
  refine qq rfl rfl (q_fld_p rfl) ?_
  refine qq rfl rfl (q_load1 rfl rfl rfl) ?_
  refine qq rfl rfl (q_call rfl (.v _ _ (fun e => nomatch e)) (.v rfl (.v rfl ArgsOk.nil)) inferInstance (cmp_Compare_int_c  x4_h)) ?_
  refine qq rfl rfl (q_buildSlice (z := 1) (xs := List.map vi ([x3, x4] : List Int)) (fl := true) rfl rfl rfl rfl (by simp [V.plain, V.cells, vi, vb]) rfl) ?_
  refine qq rfl rfl (q_call rfl (.v _ _ (fun e => nomatch e)) (.v rfl ArgsOk.nil) inferInstance (cmp_Or_int_c  x5_h)) ?_
  refine qq rfl rfl (q_assign rfl) ?_
  refine qn ?_
  refine ev_ret ?_
  exact ret_ok [vi x5] (congrArg (fun r : Int => vi r) (Option.some.inj H)) rfl (.cons (.tmp rfl (.v _ _ (fun _ => rfl))) .nil)
def facts_At_m (a0 : List GFact) (a1 : GKey) (a2 : Int) (a3 : Int) : Option (Int × Bool) := bd (facts_of_m a0 a1 a3) fun x5 => bd (facts_of_1_m x5.1 x5.2.1 x5.2.2) fun ys6 => forL ys6 (fun (k9 : Nat) (x10 : GFact) (s7 : Int × Int × Int × Int × Int × Int × Int × Int × Bool) loop8 => bdc ((bif decide (x10.valid.from_ ≤ a2) then decide (a2 < x10.valid.to_) else false) && (!(!s7.2.2.2.2.2.2.2.2))) (facts_compare_m x10 (⟨(⟨s7.1, s7.2.1, s7.2.2.1⟩ : GKey), s7.2.2.2.1, (⟨s7.2.2.2.2.1, s7.2.2.2.2.2.1⟩ : GSpan), s7.2.2.2.2.2.2.1, s7.2.2.2.2.2.2.2.1⟩ : GFact)) fun x25 => bif bif bif decide (x10.valid.from_ ≤ a2) then decide (a2 < x10.valid.to_) else false then bif !s7.2.2.2.2.2.2.2.2 then true else decide (0 ≤ x25) else false then (loop8 (x10.key.kind, x10.key.subject, x10.key.object, x10.value, x10.valid.from_, x10.valid.to_, x10.known, x10.no_, true)) else (loop8 (s7.1, s7.2.1, s7.2.2.1, s7.2.2.2.1, s7.2.2.2.2.1, s7.2.2.2.2.2.1, s7.2.2.2.2.2.2.1, s7.2.2.2.2.2.2.2.1, s7.2.2.2.2.2.2.2.2))) (fun (s7 : Int × Int × Int × Int × Int × Int × Int × Int × Bool) => bif bif !s7.2.2.2.2.2.2.2.2 then true else decide (s7.2.2.2.1 < 0) then (some (0, false)) else (some (s7.2.2.2.1, true))) (0, 0, 0, 0, 0, 0, 0, 0, false)
theorem facts_At_c {a0 : List GFact} {a1 : GKey} {a2 : Int} {a3 : Int} {r : Int × Bool} (H : facts_At_m a0 a1 a2 a3 = some r) : PureC Try.prog true 28 [V.l 8 (List.map GFact.e a0), GKey.e a1, vi a2, vi a3] (V.t [vi r.1, vb r.2]) := by
  unfold facts_At_m at H
  refine pure_intro (N := 50) Try.func28 rfl rfl rfl rfl fun C hO => ?_
  refine ev_shift (shift_mk (fs := [(0, .v false (V.l 8 (List.map GFact.e a0))), (1, .v true (GKey.e a1)), (2, .v true (vi a2)), (3, .v true (vi a3))]) (es := []) ⟨⟨_, rfl, .rfl⟩, ⟨⟨_, rfl, (.flat rfl)⟩, ⟨⟨_, rfl, (.flat rfl)⟩, ⟨⟨_, rfl, (.flat rfl)⟩, trivial⟩⟩⟩⟩ trivial rfl rfl) ?_
  refine ev_seq ?_
  refine ev_region ?_
  refine re rfl (e_box 5 0 rfl rfl rfl) ?_; rintro _ ⟨b1, rfl⟩
  refine re rfl (e_box 6 0 rfl rfl rfl) ?_; rintro _ ⟨b2, rfl⟩
  refine rq rfl rfl (q_assign rfl) ?_
  refine rq rfl rfl (q_assign rfl) ?_
  refine run_nil ?_
  refine ev_seq ?_
  refine ev_region ?_
  refine re rfl (e_alloc 10 0 rfl rfl) ?_; rintro _ ⟨b3, rfl⟩
  refine run_nil ?_
  refine ev_seq ?_
  refine ev_region ?_
  refine re rfl (e_alloc 11 0 rfl rfl) ?_; rintro _ ⟨b4, rfl⟩
  refine re rfl (e_store1 rfl rfl rfl rfl rfl (Nat.le_of_ble_eq_true rfl) rfl) ?_; rintro _ rfl
  refine run_nil ?_
  refine ev_seq ?_
  refine ev_seq ?_
  refine ev_region ?_
  refine rq rfl rfl (q_move rfl) ?_
  refine rq rfl rfl (q_loadN rfl rfl rfl rfl) ?_
  refine rq rfl rfl (q_move rfl) ?_
  obtain ⟨x5, x5_h, H⟩ := bd_inv H
  refine rq rfl rfl (q_calla rfl (.v rfl (.v rfl (.v rfl CapsOk.nil))) inferInstance (facts_of_c  x5_h)) ?_
  refine run_nil ?_
  refine ev_block ?_
  obtain ⟨ys6, ys6_h, H⟩ := bd_inv H
  obtain ⟨B11, K12, h13, h14, H⟩ := forL_gen H
  refine ev_shift (σ' := mkS [(6, .p 6 0 b2 0), (8, .v true (vi 0)), (9, .v true (vb false)), (10, .p 10 0 b3 0), (11, .p 11 0 b4 0), (16, .v false (.c 89 [.q (V.cells (V.l 8 (List.map GFact.e x5.1))), .q (V.cells (GKey.e x5.2.1)), .q (V.cells (vi x5.2.2))]))] [.e 6 0 (some (b2, 1)) (.row 3 [.v true (vi a2)]), .e 10 0 (some (b3, 8)) (.row 120 [.v true (vi 0), .v true (vi 0), .v true (vi 0), .v true (vi 0), .v true (vi 0), .v true (vi 0), .v true (vi 0), .v true (vi 0)]), .e 11 0 (some (b4, 1)) (.row 4 [.v true (vb false)])] [] (0, false)) (shift_mk ⟨⟨_, rfl, .rfl⟩, ⟨⟨_, rfl, (.flat rfl)⟩, ⟨⟨_, rfl, (.flat rfl)⟩, ⟨⟨_, rfl, .rfl⟩, ⟨⟨_, rfl, .rfl⟩, ⟨⟨_, rfl, .rfl⟩, trivial⟩⟩⟩⟩⟩⟩ ⟨(.w rfl (.cons (.flat rfl) .nil)), ⟨(.w rfl (.cons (.flat rfl) (.cons (.flat rfl) (.cons (.flat rfl) (.cons (.flat rfl) (.cons (.flat rfl) (.cons (.flat rfl) (.cons (.flat rfl) (.cons (.flat rfl) .nil))))))))), ⟨(.w rfl (.cons (.flat rfl) .nil)), trivial⟩⟩⟩ rfl rfl) ?_
  refine ev_range (els := ys6.map (fun y => [GFact.e y])) rfl inferInstance (facts_of_1_c ys6_h) 9004 9005 [6, 8, 9, 10, 11, 16] rfl (by decide) (fun n args h => by obtain ⟨x, _, rfl⟩ := range_at h; rfl) (fun D2 l2 L2 => ⟨fun n σ' => ∃ (s7 : Int × Int × Int × Int × Int × Int × Int × Int × Bool), forLg B11 K12 n (ys6.drop n) s7 = some r ∧ σ' = mkS [(6, .p 6 0 b2 0), (8, .v true (vi 0)), (9, .v true (vb false)), (10, .p 10 0 b3 0), (11, .p 11 0 b4 0), (16, .v false (.c 89 [.q (V.cells (V.l 8 (List.map GFact.e x5.1))), .q (V.cells (GKey.e x5.2.1)), .q (V.cells (vi x5.2.2))]))] [.e 6 0 (some (b2, 1)) (.row 3 [.v true (vi a2)]), .e 10 0 (some (b3, 8)) (.row 120 [.v true (vi s7.1), .v true (vi s7.2.1), .v true (vi s7.2.2.1), .v true (vi s7.2.2.2.1), .v true (vi s7.2.2.2.2.1), .v true (vi s7.2.2.2.2.2.1), .v true (vi s7.2.2.2.2.2.2.1), .v true (vi s7.2.2.2.2.2.2.2.1)]), .e 11 0 (some (b4, 1)) (.row 4 [.v true (vb s7.2.2.2.2.2.2.2.2)]), .e 9005 0 (some (l2, 0)) (.obj (L2 .ready none)), .e 9004 0 (some (D2, 0)) (.obj (.deferred (some [])))] ({ target := .collected D2, args := #[] } :: []) (0, false), ?_, ?_, ?_, ?_⟩)
  · exact ⟨_, ⟨(0, 0, 0, 0, 0, 0, 0, 0, false), H, rfl⟩, le_mk ⟨rfl, ⟨rfl, ⟨rfl, ⟨rfl, ⟨rfl, ⟨rfl, trivial⟩⟩⟩⟩⟩⟩ ⟨rfl, ⟨rfl, ⟨rfl, ⟨rfl, ⟨rfl, trivial⟩⟩⟩⟩⟩ rfl rfl⟩
  · rintro n _ ⟨s7, _, rfl⟩
    exact ⟨rfl, rfl, rfl⟩
  · rintro k9 args _ val is hN he ⟨s7, H, rfl⟩ hcl
    obtain ⟨x10, x10_g, rfl⟩ := range_at he
    subst h13; subst h14
    replace H := forL_at x10_g H
    refine ev_region ?_
    refine re rfl (e_alloc 12 0 rfl rfl) ?_; rintro _ ⟨b24, rfl⟩
    refine re rfl (e_store rfl rfl rfl rfl rfl (Nat.le_of_ble_eq_true rfl) rfl) ?_; rintro _ rfl
    refine run_nil ?_
    refine ⟨rfl, ?_⟩
    refine ev_block ?_
    refine ev_seq ?_
    refine ev_region ?_
    refine rq rfl rfl (q_fld_p rfl) ?_
    refine rq rfl rfl (q_fld_p rfl) ?_
    refine rq rfl rfl (q_load1 rfl rfl rfl) ?_
    refine rq rfl rfl (q_load1 rfl rfl rfl) ?_
    refine rq rfl rfl (q_leq rfl rfl) ?_
    refine rq rfl rfl (q_move rfl) ?_
    refine rqc (l := []) ⟨⟨_, _, _, rfl, rfl, rfl, rfl⟩, rfl, fun hc => q_load1 rfl rfl rfl, trivial⟩ rfl ?_
    refine rqc (l := []) ⟨⟨_, _, _, rfl, rfl, rfl, rfl⟩, rfl, fun hc => q_fld_p rfl, trivial⟩ rfl ?_
    refine rqc (l := [25]) ⟨⟨_, _, _, rfl, rfl, rfl, rfl⟩, rfl, fun hc => q_fld_p rfl, ⟨fun h => h, trivial⟩⟩ rfl ?_
    refine rqc (l := [26]) ⟨⟨_, _, _, rfl, rfl, rfl, rfl⟩, rfl, fun hc => q_load1 rfl rfl rfl, ⟨fun h => h, trivial⟩⟩ rfl ?_
    refine rqc (l := [24, 27]) ⟨⟨_, _, _, rfl, rfl, rfl, rfl⟩, rfl, fun hc => q_lss rfl rfl, ⟨fun h => h, ⟨fun h => h, trivial⟩⟩⟩ rfl ?_
    refine rq rfl rfl (q_pickb rfl rfl rfl (PB.c (fun hp => hp)) PB.v) ?_
    refine rq rfl rfl (q_move rfl) ?_
    refine rqc (l := []) ⟨⟨_, _, _, rfl, rfl, rfl, rfl⟩, rfl, fun hc => q_load1 rfl rfl rfl, trivial⟩ rfl ?_
    refine rqc (l := [31]) ⟨⟨_, _, _, rfl, rfl, rfl, rfl⟩, rfl, fun hc => q_not rfl, ⟨fun h => h, trivial⟩⟩ rfl ?_
    refine rqc (l := [32]) ⟨⟨_, _, _, rfl, rfl, rfl, rfl⟩, rfl, fun hc => q_move rfl, ⟨fun h => h, trivial⟩⟩ rfl ?_
    refine rqc (l := []) ⟨⟨_, _, _, rfl, rfl, rfl, rfl⟩, rfl, fun hc => q_loadN rfl rfl rfl rfl, trivial⟩ rfl ?_
    refine rqc (l := []) ⟨⟨_, _, _, rfl, rfl, rfl, rfl⟩, rfl, fun hc => q_loadN rfl rfl rfl rfl, trivial⟩ rfl ?_
    obtain ⟨x25, x25_h, _, H⟩ := bdc_inv H
    refine rqc (l := [34, 35]) ⟨⟨_, _, _, rfl, rfl, rfl, rfl⟩, rfl, fun hc => q_call rfl (.v _ _ (fun e => nomatch e)) (.v rfl (.v rfl ArgsOk.nil)) inferInstance (facts_compare_c  (x25_h hc)), ⟨fun h => h, ⟨fun h => h, trivial⟩⟩⟩ rfl ?_
    refine rqc (l := [36]) ⟨⟨_, _, _, rfl, rfl, rfl, rfl⟩, rfl, fun hc => q_geq rfl rfl, ⟨fun h => h, trivial⟩⟩ rfl ?_
    refine rqc (l := [33]) ⟨⟨_, _, _, rfl, rfl, rfl, rfl⟩, rfl, fun hc => q_pickb rfl rfl rfl PB.v (PB.c (fun hp => by simp_all)), ⟨fun h => h, trivial⟩⟩ rfl ?_
    refine rq rfl rfl (q_pickb rfl rfl rfl (PB.c (fun hp => hp)) PB.v) ?_
    refine run_nil ?_
    refine ev_cond rfl (fun hc => ?_) (fun hc => ?_)
    · replace H := ct hc H
      refine ev_region ?_
      refine rq rfl rfl (q_loadN rfl rfl rfl rfl) ?_
      refine re rfl (e_store rfl rfl rfl rfl rfl (Nat.le_of_ble_eq_true rfl) rfl) ?_; rintro _ rfl
      refine re rfl (e_store1 rfl rfl rfl rfl rfl (Nat.le_of_ble_eq_true rfl) rfl) ?_; rintro _ rfl
      refine run_nil ?_
      exact ⟨rfl, _, ⟨(x10.key.kind, x10.key.subject, x10.key.object, x10.value, x10.valid.from_, x10.valid.to_, x10.known, x10.no_, true), H, rfl⟩, cov_mk rfl ⟨rfl, ⟨rfl, ⟨rfl, ⟨rfl, ⟨rfl, ⟨rfl, trivial⟩⟩⟩⟩⟩⟩ ⟨rfl, ⟨rfl, ⟨rfl, ⟨rfl, ⟨rfl, trivial⟩⟩⟩⟩⟩ rfl⟩
    · replace H := cf hc H
      refine ev_skip ?_
      exact ⟨rfl, _, ⟨(s7.1, s7.2.1, s7.2.2.1, s7.2.2.2.1, s7.2.2.2.2.1, s7.2.2.2.2.2.1, s7.2.2.2.2.2.2.1, s7.2.2.2.2.2.2.2.1, s7.2.2.2.2.2.2.2.2), H, rfl⟩, cov_mk rfl ⟨rfl, ⟨rfl, ⟨rfl, ⟨rfl, ⟨rfl, ⟨rfl, trivial⟩⟩⟩⟩⟩⟩ ⟨rfl, ⟨rfl, ⟨rfl, ⟨rfl, ⟨rfl, trivial⟩⟩⟩⟩⟩ rfl⟩
  · rintro _ ⟨s7, H, rfl⟩
    rw [List.length_map] at H
    subst h13; subst h14
    replace H := forL_end H
    refine ev_seq ?_
    refine ev_seq ?_
    refine ev_region ?_
    refine rq rfl rfl (q_load1 rfl rfl rfl) ?_
    refine rq rfl rfl (q_not rfl) ?_
    refine rq rfl rfl (q_move rfl) ?_
    refine rqc (l := []) ⟨⟨_, _, _, rfl, rfl, rfl, rfl⟩, rfl, fun hc => q_fld_p rfl, trivial⟩ rfl ?_
    refine rqc (l := [44]) ⟨⟨_, _, _, rfl, rfl, rfl, rfl⟩, rfl, fun hc => q_load1 rfl rfl rfl, ⟨fun h => h, trivial⟩⟩ rfl ?_
    refine rqc (l := [45]) ⟨⟨_, _, _, rfl, rfl, rfl, rfl⟩, rfl, fun hc => q_lss rfl rfl, ⟨fun h => h, trivial⟩⟩ rfl ?_
    refine rq rfl rfl (q_pickb rfl rfl rfl PB.v (PB.c (fun hp => by rw [hp]; rfl))) ?_
    refine run_nil ?_
    refine ev_cond rfl (fun hc => ?_) (fun hc => ?_)
    · replace H := ct hc H
      refine ev_seq ?_
      refine ev_region ?_
      refine rq rfl rfl (q_assign rfl) ?_
      refine rq rfl rfl (q_assign rfl) ?_
      refine run_nil ?_
      refine ev_ret ?_
      exact ret_okm [vi 0, vb false] (congrArg (fun r : Int × Bool => V.t [vi r.1, vb r.2]) (Option.some.inj H)) (.cons 9004 0 D2 0 rfl (.nil _)) (.cons (.tmp rfl (.v _ _ (fun _ => rfl))) (.cons (.tmp rfl (.v _ _ (fun _ => rfl))) .nil))
    · replace H := cf hc H
      refine ev_skip ?_
      refine ev_seq ?_
      refine ev_region ?_
      refine rq rfl rfl (q_fld_p rfl) ?_
      refine rq rfl rfl (q_load1 rfl rfl rfl) ?_
      refine rq rfl rfl (q_assign rfl) ?_
      refine rq rfl rfl (q_assign rfl) ?_
      refine run_nil ?_
      refine ev_ret ?_
      exact ret_okm [vi s7.2.2.2.1, vb true] (congrArg (fun r : Int × Bool => V.t [vi r.1, vb r.2]) (Option.some.inj H)) (.cons 9004 0 D2 0 rfl (.nil _)) (.cons (.tmp rfl (.v _ _ (fun _ => rfl))) (.cons (.tmp rfl (.v _ _ (fun _ => rfl))) .nil))
def quality_Result_m (a0 : GWorld) (a1 : Int) (a2 : Int) (a3 : Int) (a4 : Int) : Option (Int × (List GRead) × Bool) := bif bif decide (a3 < 0) then true else decide (1024 ≤ a3) then (some (0, [], false)) else (bd (facts_At_m a0.facts (⟨8, a1, a2⟩ : GKey) a3 a4) fun x3 => bif bif !x3.2 then true else decide (x3.1 < 0) then (some (0, ([(⟨(⟨8, a1, a2⟩ : GKey), a3, wr (a3 + 1)⟩ : GRead)] : List GRead), false)) else (some (x3.1, ([(⟨(⟨8, a1, a2⟩ : GKey), a3, wr (a3 + 1)⟩ : GRead)] : List GRead), true)))
theorem quality_Result_c {a0 : GWorld} {a1 : Int} {a2 : Int} {a3 : Int} {a4 : Int} {r : Int × (List GRead) × Bool} (H : quality_Result_m a0 a1 a2 a3 a4 = some r) : PureC Try.prog true 17 [GWorld.e a0, vi a1, vi a2, vi a3, vi a4] (V.t [vi r.1, V.l 5 (List.map GRead.e r.2.1), vb r.2.2]) := by
  unfold quality_Result_m at H
  refine pure_intro (N := 47) Try.func17 rfl rfl rfl rfl fun C hO => ?_
  refine ev_shift (shift_mk (fs := [(0, .v false (GWorld.e a0)), (1, .v true (vi a1)), (2, .v true (vi a2)), (3, .v true (vi a3)), (4, .v true (vi a4))]) (es := []) ⟨⟨_, rfl, .rfl⟩, ⟨⟨_, rfl, (.flat rfl)⟩, ⟨⟨_, rfl, (.flat rfl)⟩, ⟨⟨_, rfl, (.flat rfl)⟩, ⟨⟨_, rfl, (.flat rfl)⟩, trivial⟩⟩⟩⟩⟩ trivial rfl rfl) ?_
  refine ev_seq ?_
  refine ev_region ?_
  refine re rfl (e_box 5 0 rfl rfl rfl) ?_; rintro _ ⟨b1, rfl⟩
  refine rq rfl rfl (q_assign rfl) ?_
  refine rq rfl rfl (q_assign rfl) ?_
  refine rq rfl rfl (q_assign rfl) ?_
  refine run_nil ?_
  refine ev_seq ?_
  refine ev_seq ?_
  refine ev_region ?_
  refine rq rfl rfl (q_move rfl) ?_
  refine rq rfl rfl (q_lss rfl rfl) ?_
  refine rq rfl rfl (q_move rfl) ?_
  refine rqc (l := []) ⟨⟨_, _, _, rfl, rfl, rfl, rfl⟩, rfl, fun hc => q_move rfl, trivial⟩ rfl ?_
  refine rqc (l := [17]) ⟨⟨_, _, _, rfl, rfl, rfl, rfl⟩, rfl, fun hc => q_geq rfl rfl, ⟨fun h => h, trivial⟩⟩ rfl ?_
  refine rq rfl rfl (q_pickb rfl rfl rfl PB.v (PB.c (fun hp => by rw [hp]; rfl))) ?_
  refine run_nil ?_
  refine ev_cond rfl (fun hc => ?_) (fun hc => ?_)
  · replace H := ct hc H
    refine ev_seq ?_
    refine ev_region ?_
    refine rq rfl rfl (q_assign rfl) ?_
    refine rq rfl rfl (q_assign rfl) ?_
    refine rq rfl rfl (q_assign rfl) ?_
    refine run_nil ?_
    refine ev_ret ?_
    exact ret_ok [vi 0, V.l 5 (List.map GRead.e []), vb false] (congrArg (fun r : Int × (List GRead) × Bool => V.t [vi r.1, V.l 5 (List.map GRead.e r.2.1), vb r.2.2]) (Option.some.inj H)) rfl (.cons (.tmp rfl (.v _ _ (fun _ => rfl))) (.cons (.tmp rfl (.nil _ _)) (.cons (.tmp rfl (.v _ _ (fun _ => rfl))) .nil)))
  · replace H := cf hc H
    refine ev_skip ?_
    refine ev_seq ?_
    refine ev_region ?_
    refine rq rfl rfl (q_move rfl) ?_
    refine rq rfl rfl (q_move rfl) ?_
    refine rq rfl rfl (q_build rfl (.v rfl rfl rfl rfl rfl (.v rfl rfl rfl rfl rfl (.v rfl rfl rfl rfl rfl .nil)))) ?_
    refine re rfl (e_alloc 13 0 rfl rfl) ?_; rintro _ ⟨b2, rfl⟩
    refine re rfl (e_store rfl rfl rfl rfl rfl (Nat.le_of_ble_eq_true rfl) rfl) ?_; rintro _ rfl
    refine run_nil ?_
    refine ev_seq ?_
    refine ev_region ?_
    refine rq rfl rfl (q_loadN rfl rfl rfl rfl) ?_
    refine rq rfl rfl (q_move rfl) ?_
    refine rq rfl rfl (q_move rfl) ?_
    refine rq rfl rfl (q_add rfl rfl) ?_
    refine rq rfl rfl (q_build rfl (.v rfl rfl rfl rfl rfl (.v rfl rfl rfl rfl rfl (.v rfl rfl rfl rfl rfl .nil)))) ?_
    refine rq rfl rfl (q_buildSlice (z := 5) (xs := List.map GRead.e ([(⟨(⟨8, a1, a2⟩ : GKey), a3, wr (a3 + 1)⟩ : GRead)] : List GRead)) (fl := true) rfl rfl rfl rfl (by simp [V.plain, V.cells, GRead.e, vi, vb]) rfl) ?_
    refine rq rfl rfl (q_assign rfl) ?_
    refine run_nil ?_
    refine ev_seq ?_
    refine ev_region ?_
    refine rq rfl rfl (q_fld_p rfl) ?_
    refine rq rfl rfl (q_load1 rfl rfl rfl) ?_
    refine rq rfl rfl (q_loadN rfl rfl rfl rfl) ?_
    refine rq rfl rfl (q_move rfl) ?_
    refine rq rfl rfl (q_move rfl) ?_
    obtain ⟨x3, x3_h, H⟩ := bd_inv H
    refine rq rfl rfl (q_call rfl (.v _ _ (fun e => nomatch e)) (.v rfl (.v rfl (.v rfl (.v rfl ArgsOk.nil)))) inferInstance (facts_At_c  x3_h)) ?_
    refine rq rfl rfl (q_move rfl) ?_
    refine rq rfl rfl (q_extract rfl rfl) ?_
    refine rq rfl rfl (q_extract rfl rfl) ?_
    refine rq rfl rfl (q_assign rfl) ?_
    refine rq rfl rfl (q_assign rfl) ?_
    refine run_nil ?_
    refine ev_seq ?_
    refine ev_seq ?_
    refine ev_region ?_
    refine rq rfl rfl (q_move rfl) ?_
    refine rq rfl rfl (q_not rfl) ?_
    refine rq rfl rfl (q_move rfl) ?_
    refine rqc (l := []) ⟨⟨_, _, _, rfl, rfl, rfl, rfl⟩, rfl, fun hc => q_move rfl, trivial⟩ rfl ?_
    refine rqc (l := [41]) ⟨⟨_, _, _, rfl, rfl, rfl, rfl⟩, rfl, fun hc => q_lss rfl rfl, ⟨fun h => h, trivial⟩⟩ rfl ?_
    refine rq rfl rfl (q_pickb rfl rfl rfl PB.v (PB.c (fun hp => by rw [hp]; rfl))) ?_
    refine run_nil ?_
    refine ev_cond rfl (fun hc => ?_) (fun hc => ?_)
    · replace H := ct hc H
      refine ev_seq ?_
      refine ev_region ?_
      refine rq rfl rfl (q_move rfl) ?_
      refine rq rfl rfl (q_assign rfl) ?_
      refine rq rfl rfl (q_assign rfl) ?_
      refine rq rfl rfl (q_assign rfl) ?_
      refine run_nil ?_
      refine ev_ret ?_
      exact ret_ok [vi 0, V.l 5 (List.map GRead.e ([(⟨(⟨8, a1, a2⟩ : GKey), a3, wr (a3 + 1)⟩ : GRead)] : List GRead)), vb false] (congrArg (fun r : Int × (List GRead) × Bool => V.t [vi r.1, V.l 5 (List.map GRead.e r.2.1), vb r.2.2]) (Option.some.inj H)) rfl (.cons (.tmp rfl (.v _ _ (fun _ => rfl))) (.cons (.tmp rfl (.v _ _ (fun _ => rfl))) (.cons (.tmp rfl (.v _ _ (fun _ => rfl))) .nil)))
    · replace H := cf hc H
      refine ev_skip ?_
      refine ev_seq ?_
      refine ev_region ?_
      refine rq rfl rfl (q_move rfl) ?_
      refine rq rfl rfl (q_move rfl) ?_
      refine rq rfl rfl (q_assign rfl) ?_
      refine rq rfl rfl (q_assign rfl) ?_
      refine rq rfl rfl (q_assign rfl) ?_
      refine run_nil ?_
      refine ev_ret ?_
      exact ret_ok [vi x3.1, V.l 5 (List.map GRead.e ([(⟨(⟨8, a1, a2⟩ : GKey), a3, wr (a3 + 1)⟩ : GRead)] : List GRead)), vb true] (congrArg (fun r : Int × (List GRead) × Bool => V.t [vi r.1, V.l 5 (List.map GRead.e r.2.1), vb r.2.2]) (Option.some.inj H)) rfl (.cons (.tmp rfl (.v _ _ (fun _ => rfl))) (.cons (.tmp rfl (.v _ _ (fun _ => rfl))) (.cons (.tmp rfl (.v _ _ (fun _ => rfl))) .nil)))
def slices_IndexFunc_Spec_m (a0 : List GSpec) (a1 : GSpec → Option Bool) : Option Int := forL a0 (fun (k3 : Nat) (x5 : GSpec) (s1 : Unit) loop2 => bd (a1 x5) fun x8 => bif x8 then (some ((k3 : Nat) : Int)) else (loop2 ())) (fun (s1 : Unit) => some (-1)) ()
theorem slices_IndexFunc_Spec_c {a0 : List GSpec} {a1_g : Nat} {a1_k : List V} {a1 : GSpec → Option Bool} [TFn Try.prog a1_g] (a1_h : ∀ y0 r, a1 y0 = some r → PureC Try.prog true a1_g ([GSpec.e y0] ++ a1_k) (vb r)) {r : Int} (H : slices_IndexFunc_Spec_m a0 a1 = some r) : PureC Try.prog true 100 [V.l 3 (List.map GSpec.e a0), .c a1_g a1_k] (vi r) := by
  unfold slices_IndexFunc_Spec_m at H
  refine pure_intro (N := 19) Try.func100 rfl rfl rfl rfl fun C hO => ?_
  refine ev_seq ?_
  refine ev_region ?_
  refine rq rfl rfl (q_assign rfl) ?_
  refine run_nil ?_
  refine ev_seq ?_
  refine ev_seq ?_
  refine ev_region ?_
  refine rq rfl rfl (q_move rfl) ?_
  refine rq rfl rfl (q_len_t rfl) ?_
  refine rq rfl rfl (q_move rfl) ?_
  refine run_nil ?_
  refine ev_block ?_
  refine ev_len_l (s := 0) rfl fun w7 => ?_
  rw [List.length_map] at w7
  refine ev_forL H (fun k3 s1 σ' => σ' = mkS [(0, .v false (V.l 3 (List.map GSpec.e a0))), (1, .v false (.c a1_g a1_k)), (4, .v true (vi 0)), (7, .v true (vi ((a0.length : Nat) : Int))), (8, .v true (vi ((k3 : Nat) : Int)))] [] [] (0, false)) ⟨_, rfl, shift_mk ⟨⟨_, rfl, .rfl⟩, ⟨⟨_, rfl, .rfl⟩, ⟨⟨_, rfl, (.flat rfl)⟩, ⟨⟨_, rfl, (.flat rfl)⟩, ⟨⟨_, rfl, .rfl⟩, trivial⟩⟩⟩⟩⟩ trivial rfl rfl⟩ ?_
  rintro k3 s1 _ rfl _ H
  refine ev_seq ?_
  refine ev_region ?_
  refine rq rfl rfl (q_lss rfl rfl) ?_
  refine run_nil ?_
  refine ev_seq ?_
  refine ev_cond rfl (fun hc => ?_) (fun hc => ?_)
  · obtain ⟨x5, w6, x5_g, H⟩ := forL_in hc H
    have x5_h : idx a0 ((k3 : Nat) : Int) = some x5 := by rw [idx_nat]; exact x5_g
    refine ev_skip ?_
    refine ev_seq ?_
    refine ev_block ?_
    refine ev_seq ?_
    refine ev_region ?_
    refine rq rfl rfl (q_move rfl) ?_
    refine rq rfl rfl (q_assign rfl) ?_
    refine run_nil ?_
    refine ev_seq ?_
    refine ev_region ?_
    refine rq rfl rfl (q_move rfl) ?_
    refine rq rfl rfl (q_move rfl) ?_
    refine rq rfl rfl (q_move rfl) ?_
    refine rq rfl rfl (q_idx_l rfl rfl (idx_inv x5_h).1 (map_get (idx_inv x5_h).2.1) rfl) ?_
    refine rq rfl rfl (q_load_e rfl rfl rfl) ?_
    obtain ⟨x8, x8_h, H⟩ := bd_inv H
    refine rq rfl rfl (q_call rfl (.v _ _ (fun e => nomatch e)) (.v rfl ArgsOk.nil) inferInstance (a1_h _ _ x8_h)) ?_
    refine run_nil ?_
    refine ev_cond rfl (fun hc => ?_) (fun hc => ?_)
    · replace H := ct hc H
      refine ev_seq ?_
      refine ev_region ?_
      refine rq rfl rfl (q_move rfl) ?_
      refine rq rfl rfl (q_assign rfl) ?_
      refine run_nil ?_
      refine ev_ret ?_
      exact ret_ok [vi ((k3 : Nat) : Int)] (congrArg (fun r : Int => vi r) (Option.some.inj H)) rfl (.cons (.tmp rfl (.v _ _ (fun _ => rfl))) .nil)
    · replace H := cf hc H
      refine ev_skip ?_
      refine ev_region ?_
      refine rq rfl rfl (q_add rfl rfl) ?_
      refine rq rfl rfl (q_move rfl) ?_
      refine run_nil ?_
      exact ⟨_, _, w6, H, rfl, shift_mk ⟨⟨_, rfl, .rfl⟩, ⟨⟨_, rfl, .rfl⟩, ⟨⟨_, rfl, (.flat rfl)⟩, ⟨⟨_, rfl, (.flat rfl)⟩, ⟨⟨_, rfl, (.eq (congrArg (fun n => D.v true (vi n)) (wrap_succ w6 w7)))⟩, trivial⟩⟩⟩⟩⟩ trivial rfl rfl⟩
  · replace H := forL_out hc H
    refine ev_exit ?_
    refine ev_seq ?_
    refine ev_region ?_
    refine rq rfl rfl (q_assign rfl) ?_
    refine run_nil ?_
    refine ev_ret ?_
    exact ret_ok [vi (-1)] (congrArg (fun r : Int => vi r) (Option.some.inj H)) rfl (.cons (.tmp rfl (.v _ _ (fun _ => rfl))) .nil)
def slices_ContainsFunc_Spec_m (a0 : List GSpec) (a1 : GSpec → Option Bool) : Option Bool := bd (slices_IndexFunc_Spec_m a0 a1) fun x1 => some (decide (0 ≤ x1))
theorem slices_ContainsFunc_Spec_c {a0 : List GSpec} {a1_g : Nat} {a1_k : List V} {a1 : GSpec → Option Bool} [TFn Try.prog a1_g] (a1_h : ∀ y0 r, a1 y0 = some r → PureC Try.prog true a1_g ([GSpec.e y0] ++ a1_k) (vb r)) {r : Bool} (H : slices_ContainsFunc_Spec_m a0 a1 = some r) : PureC Try.prog true 81 [V.l 3 (List.map GSpec.e a0), .c a1_g a1_k] (vb r) := by
  unfold slices_ContainsFunc_Spec_m at H
  refine pure_intro (N := 9) Try.func81 rfl rfl rfl rfl fun C hO => ?_
  refine ev_seq ?_
  refine ev_region ?_
  refine rq rfl rfl (q_assign rfl) ?_
  refine run_nil ?_
  refine ev_seq ?_
  refine ev_region ?_
  refine rq rfl rfl (q_move rfl) ?_
  refine rq rfl rfl (q_move rfl) ?_
  obtain ⟨x1, x1_h, H⟩ := bd_inv H
  refine rq rfl rfl (q_call rfl (.v _ _ (fun e => nomatch e)) (.v rfl (.v rfl ArgsOk.nil)) inferInstance (slices_IndexFunc_Spec_c (a1_h := a1_h) x1_h)) ?_
  refine rq rfl rfl (q_geq rfl rfl) ?_
  refine rq rfl rfl (q_assign rfl) ?_
  refine run_nil ?_
  refine ev_ret ?_
  exact ret_ok [vb (decide (0 ≤ x1))] (congrArg (fun r : Bool => vb r) (Option.some.inj H)) rfl (.cons (.tmp rfl (.v _ _ (fun _ => rfl))) .nil)
def quality_valid_1_m (a0 : GSpec) : Option Bool := some (decide (a0.hi < a0.lo))
theorem quality_valid_1_c {a0 : GSpec} {r : Bool} (H : quality_valid_1_m a0 = some r) : PureC Try.prog true 82 [GSpec.e a0] (vb r) := by
  unfold quality_valid_1_m at H
  refine pure_intro (N := 8) Try.func82 rfl rfl rfl rfl fun C hO => ?_
  refine ev_shift (shift_mk (fs := [(0, .v true (GSpec.e a0))]) (es := []) ⟨⟨_, rfl, (.flat rfl)⟩, trivial⟩ trivial rfl rfl) ?_
  refine ev_seq ?_
  refine ev_region ?_
  refine re rfl (e_box 1 0 rfl rfl rfl) ?_; rintro _ ⟨b1, rfl⟩
  refine rq rfl rfl (q_assign rfl) ?_
  refine run_nil ?_
  refine ev_seq ?_
  refine ev_region ?_
  refine rq rfl rfl (q_fld_p rfl) ?_
  refine rq rfl rfl (q_load1 rfl rfl rfl) ?_
  refine rq rfl rfl (q_fld_p rfl) ?_
  refine rq rfl rfl (q_load1 rfl rfl rfl) ?_
  refine rq rfl rfl (q_gtr rfl rfl) ?_
  refine rq rfl rfl (q_assign rfl) ?_
  refine run_nil ?_
  refine ev_ret ?_
  exact ret_ok [vb (decide (a0.hi < a0.lo))] (congrArg (fun r : Bool => vb r) (Option.some.inj H)) rfl (.cons (.tmp rfl (.v _ _ (fun _ => rfl))) .nil)
def quality_rising_Spec_m (a0 : List GSpec) (a1 : Int) (a2 : GSpec → Option Int) : Option Bool := forL a0 (fun (k3 : Nat) (x6 : GSpec) (s1 : Int) loop2 => bd (a2 x6) fun x10 => bif bif decide (x10 ≤ s1) then true else decide (a1 < x10) then (some false) else (loop2 x10)) (fun (s1 : Int) => some true) (-1)
theorem quality_rising_Spec_c {a0 : List GSpec} {a1 : Int} {a2_g : Nat} {a2_k : List V} {a2 : GSpec → Option Int} [TFn Try.prog a2_g] (a2_h : ∀ y0 r, a2 y0 = some r → PureC Try.prog true a2_g ([GSpec.e y0] ++ a2_k) (vi r)) {r : Bool} (H : quality_rising_Spec_m a0 a1 a2 = some r) : PureC Try.prog true 83 [V.l 3 (List.map GSpec.e a0), vi a1, .c a2_g a2_k] (vb r) := by
  unfold quality_rising_Spec_m at H
  refine pure_intro (N := 30) Try.func83 rfl rfl rfl rfl fun C hO => ?_
  refine ev_shift (shift_mk (fs := [(0, .v false (V.l 3 (List.map GSpec.e a0))), (1, .v true (vi a1)), (2, .v false (.c a2_g a2_k))]) (es := []) ⟨⟨_, rfl, .rfl⟩, ⟨⟨_, rfl, (.flat rfl)⟩, ⟨⟨_, rfl, .rfl⟩, trivial⟩⟩⟩ trivial rfl rfl) ?_
  refine ev_seq ?_
  refine ev_region ?_
  refine rq rfl rfl (q_assign rfl) ?_
  refine run_nil ?_
  refine ev_seq ?_
  refine ev_region ?_
  refine rq rfl rfl (q_assign rfl) ?_
  refine run_nil ?_
  refine ev_seq ?_
  refine ev_seq ?_
  refine ev_region ?_
  refine rq rfl rfl (q_move rfl) ?_
  refine rq rfl rfl (q_len_t rfl) ?_
  refine rq rfl rfl (q_move rfl) ?_
  refine run_nil ?_
  refine ev_block ?_
  refine ev_len_l (s := 11) rfl fun w8 => ?_
  rw [List.length_map] at w8
  refine ev_forL H (fun k3 s1 σ' => σ' = mkS [(1, .v true (vi a1)), (2, .v false (.c a2_g a2_k)), (6, .v true (vb false)), (7, .v true (vi s1)), (11, .v false (V.l 3 (List.map GSpec.e a0))), (12, .v true (vi ((a0.length : Nat) : Int))), (13, .v true (vi ((k3 : Nat) : Int)))] [] [] (0, false)) ⟨_, rfl, shift_mk ⟨⟨_, rfl, (.flat rfl)⟩, ⟨⟨_, rfl, .rfl⟩, ⟨⟨_, rfl, (.flat rfl)⟩, ⟨⟨_, rfl, (.flat rfl)⟩, ⟨⟨_, rfl, .rfl⟩, ⟨⟨_, rfl, (.flat rfl)⟩, ⟨⟨_, rfl, .rfl⟩, trivial⟩⟩⟩⟩⟩⟩⟩ trivial rfl rfl⟩ ?_
  rintro k3 s1 _ rfl _ H
  refine ev_seq ?_
  refine ev_region ?_
  refine rq rfl rfl (q_lss rfl rfl) ?_
  refine run_nil ?_
  refine ev_seq ?_
  refine ev_cond rfl (fun hc => ?_) (fun hc => ?_)
  · obtain ⟨x6, w7, x6_g, H⟩ := forL_in hc H
    have x6_h : idx a0 ((k3 : Nat) : Int) = some x6 := by rw [idx_nat]; exact x6_g
    refine ev_skip ?_
    refine ev_seq ?_
    refine ev_block ?_
    refine ev_seq ?_
    refine ev_region ?_
    refine rq rfl rfl (q_idx_l rfl rfl (idx_inv x6_h).1 (map_get (idx_inv x6_h).2.1) rfl) ?_
    refine rq rfl rfl (q_load_e rfl rfl rfl) ?_
    refine re rfl (e_alloc 9 0 rfl rfl) ?_; rintro _ ⟨b9, rfl⟩
    refine re rfl (e_store rfl rfl rfl rfl rfl (Nat.le_of_ble_eq_true rfl) rfl) ?_; rintro _ rfl
    refine run_nil ?_
    refine ev_seq ?_
    refine ev_region ?_
    refine rq rfl rfl (q_move rfl) ?_
    refine rq rfl rfl (q_loadN rfl rfl rfl rfl) ?_
    obtain ⟨x10, x10_h, H⟩ := bd_inv H
    refine rq rfl rfl (q_call rfl (.v _ _ (fun e => nomatch e)) (.v rfl ArgsOk.nil) inferInstance (a2_h _ _ x10_h)) ?_
    refine rq rfl rfl (q_assign rfl) ?_
    refine run_nil ?_
    refine ev_seq ?_
    refine ev_seq ?_
    refine ev_region ?_
    refine rq rfl rfl (q_move rfl) ?_
    refine rq rfl rfl (q_move rfl) ?_
    refine rq rfl rfl (q_leq rfl rfl) ?_
    refine rq rfl rfl (q_move rfl) ?_
    refine rqc (l := []) ⟨⟨_, _, _, rfl, rfl, rfl, rfl⟩, rfl, fun hc => q_move rfl, trivial⟩ rfl ?_
    refine rqc (l := []) ⟨⟨_, _, _, rfl, rfl, rfl, rfl⟩, rfl, fun hc => q_move rfl, trivial⟩ rfl ?_
    refine rqc (l := [24, 25]) ⟨⟨_, _, _, rfl, rfl, rfl, rfl⟩, rfl, fun hc => q_gtr rfl rfl, ⟨fun h => h, ⟨fun h => h, trivial⟩⟩⟩ rfl ?_
    refine rq rfl rfl (q_pickb rfl rfl rfl PB.v (PB.c (fun hp => by rw [hp]; rfl))) ?_
    refine run_nil ?_
    refine ev_cond rfl (fun hc => ?_) (fun hc => ?_)
    · replace H := ct hc H
      refine ev_seq ?_
      refine ev_region ?_
      refine rq rfl rfl (q_assign rfl) ?_
      refine run_nil ?_
      refine ev_ret ?_
      exact ret_ok [vb false] (congrArg (fun r : Bool => vb r) (Option.some.inj H)) rfl (.cons (.tmp rfl (.v _ _ (fun _ => rfl))) .nil)
    · replace H := cf hc H
      refine ev_skip ?_
      refine ev_region ?_
      refine rq rfl rfl (q_move rfl) ?_
      refine rq rfl rfl (q_assign rfl) ?_
      refine run_nil ?_
      refine ev_region ?_
      refine rq rfl rfl (q_add rfl rfl) ?_
      refine rq rfl rfl (q_move rfl) ?_
      refine run_nil ?_
      exact ⟨_, _, w7, H, rfl, shift_mk ⟨⟨_, rfl, (.flat rfl)⟩, ⟨⟨_, rfl, .rfl⟩, ⟨⟨_, rfl, (.flat rfl)⟩, ⟨⟨_, rfl, (.flat rfl)⟩, ⟨⟨_, rfl, .rfl⟩, ⟨⟨_, rfl, (.flat rfl)⟩, ⟨⟨_, rfl, (.eq (congrArg (fun n => D.v true (vi n)) (wrap_succ w7 w8)))⟩, trivial⟩⟩⟩⟩⟩⟩⟩ trivial rfl rfl⟩
  · replace H := forL_out hc H
    refine ev_exit ?_
    refine ev_seq ?_
    refine ev_region ?_
    refine rq rfl rfl (q_assign rfl) ?_
    refine run_nil ?_
    refine ev_ret ?_
    exact ret_ok [vb true] (congrArg (fun r : Bool => vb r) (Option.some.inj H)) rfl (.cons (.tmp rfl (.v _ _ (fun _ => rfl))) .nil)
def quality_valid_2_m (a0 : GSpec) : Option Int := some a0.test
theorem quality_valid_2_c {a0 : GSpec} {r : Int} (H : quality_valid_2_m a0 = some r) : PureC Try.prog true 84 [GSpec.e a0] (vi r) := by
  unfold quality_valid_2_m at H
  refine pure_intro (N := 5) Try.func84 rfl rfl rfl rfl fun C hO => ?_
  refine ev_shift (shift_mk (fs := [(0, .v true (GSpec.e a0))]) (es := []) ⟨⟨_, rfl, (.flat rfl)⟩, trivial⟩ trivial rfl rfl) ?_
  refine ev_seq ?_
  refine ev_region ?_
  refine re rfl (e_box 1 0 rfl rfl rfl) ?_; rintro _ ⟨b1, rfl⟩
  refine rq rfl rfl (q_assign rfl) ?_
  refine run_nil ?_
  refine ev_seq ?_
  refine ev_region ?_
  refine rq rfl rfl (q_fld_p rfl) ?_
  refine rq rfl rfl (q_load1 rfl rfl rfl) ?_
  refine rq rfl rfl (q_assign rfl) ?_
  refine run_nil ?_
  refine ev_ret ?_
  exact ret_ok [vi a0.test] (congrArg (fun r : Int => vi r) (Option.some.inj H)) rfl (.cons (.tmp rfl (.v _ _ (fun _ => rfl))) .nil)
def quality_rising_int_m (a0 : List Int) (a1 : Int) (a2 : Int → Option Int) : Option Bool := forL a0 (fun (k3 : Nat) (x6 : Int) (s1 : Int) loop2 => bd (a2 x6) fun x9 => bif bif decide (x9 ≤ s1) then true else decide (a1 < x9) then (some false) else (loop2 x9)) (fun (s1 : Int) => some true) (-1)
theorem quality_rising_int_c {a0 : List Int} {a1 : Int} {a2_g : Nat} {a2_k : List V} {a2 : Int → Option Int} [TFn Try.prog a2_g] (a2_h : ∀ y0 r, a2 y0 = some r → PureC Try.prog true a2_g ([vi y0] ++ a2_k) (vi r)) {r : Bool} (H : quality_rising_int_m a0 a1 a2 = some r) : PureC Try.prog true 85 [V.l 1 (List.map vi a0), vi a1, .c a2_g a2_k] (vb r) := by
  unfold quality_rising_int_m at H
  refine pure_intro (N := 30) Try.func85 rfl rfl rfl rfl fun C hO => ?_
  refine ev_shift (shift_mk (fs := [(0, .v false (V.l 1 (List.map vi a0))), (1, .v true (vi a1)), (2, .v false (.c a2_g a2_k))]) (es := []) ⟨⟨_, rfl, .rfl⟩, ⟨⟨_, rfl, (.flat rfl)⟩, ⟨⟨_, rfl, .rfl⟩, trivial⟩⟩⟩ trivial rfl rfl) ?_
  refine ev_seq ?_
  refine ev_region ?_
  refine rq rfl rfl (q_assign rfl) ?_
  refine run_nil ?_
  refine ev_seq ?_
  refine ev_region ?_
  refine rq rfl rfl (q_assign rfl) ?_
  refine run_nil ?_
  refine ev_seq ?_
  refine ev_seq ?_
  refine ev_region ?_
  refine rq rfl rfl (q_move rfl) ?_
  refine rq rfl rfl (q_len_t rfl) ?_
  refine rq rfl rfl (q_move rfl) ?_
  refine run_nil ?_
  refine ev_block ?_
  refine ev_len_l (s := 11) rfl fun w8 => ?_
  rw [List.length_map] at w8
  refine ev_forL H (fun k3 s1 σ' => σ' = mkS [(1, .v true (vi a1)), (2, .v false (.c a2_g a2_k)), (6, .v true (vb false)), (7, .v true (vi s1)), (11, .v false (V.l 1 (List.map vi a0))), (12, .v true (vi ((a0.length : Nat) : Int))), (13, .v true (vi ((k3 : Nat) : Int)))] [] [] (0, false)) ⟨_, rfl, shift_mk ⟨⟨_, rfl, (.flat rfl)⟩, ⟨⟨_, rfl, .rfl⟩, ⟨⟨_, rfl, (.flat rfl)⟩, ⟨⟨_, rfl, (.flat rfl)⟩, ⟨⟨_, rfl, .rfl⟩, ⟨⟨_, rfl, (.flat rfl)⟩, ⟨⟨_, rfl, .rfl⟩, trivial⟩⟩⟩⟩⟩⟩⟩ trivial rfl rfl⟩ ?_
  rintro k3 s1 _ rfl _ H
  refine ev_seq ?_
  refine ev_region ?_
  refine rq rfl rfl (q_lss rfl rfl) ?_
  refine run_nil ?_
  refine ev_seq ?_
  refine ev_cond rfl (fun hc => ?_) (fun hc => ?_)
  · obtain ⟨x6, w7, x6_g, H⟩ := forL_in hc H
    have x6_h : idx a0 ((k3 : Nat) : Int) = some x6 := by rw [idx_nat]; exact x6_g
    refine ev_skip ?_
    refine ev_seq ?_
    refine ev_block ?_
    refine ev_seq ?_
    refine ev_region ?_
    refine rq rfl rfl (q_idx_l rfl rfl (idx_inv x6_h).1 (map_get (idx_inv x6_h).2.1) rfl) ?_
    refine rq rfl rfl (q_load1_q rfl) ?_
    refine rq rfl rfl (q_assign rfl) ?_
    refine run_nil ?_
    refine ev_seq ?_
    refine ev_region ?_
    refine rq rfl rfl (q_move rfl) ?_
    refine rq rfl rfl (q_move rfl) ?_
    obtain ⟨x9, x9_h, H⟩ := bd_inv H
    refine rq rfl rfl (q_call rfl (.v _ _ (fun e => nomatch e)) (.v rfl ArgsOk.nil) inferInstance (a2_h _ _ x9_h)) ?_
    refine rq rfl rfl (q_assign rfl) ?_
    refine run_nil ?_
    refine ev_seq ?_
    refine ev_seq ?_
    refine ev_region ?_
    refine rq rfl rfl (q_move rfl) ?_
    refine rq rfl rfl (q_move rfl) ?_
    refine rq rfl rfl (q_leq rfl rfl) ?_
    refine rq rfl rfl (q_move rfl) ?_
    refine rqc (l := []) ⟨⟨_, _, _, rfl, rfl, rfl, rfl⟩, rfl, fun hc => q_move rfl, trivial⟩ rfl ?_
    refine rqc (l := []) ⟨⟨_, _, _, rfl, rfl, rfl, rfl⟩, rfl, fun hc => q_move rfl, trivial⟩ rfl ?_
    refine rqc (l := [24, 25]) ⟨⟨_, _, _, rfl, rfl, rfl, rfl⟩, rfl, fun hc => q_gtr rfl rfl, ⟨fun h => h, ⟨fun h => h, trivial⟩⟩⟩ rfl ?_
    refine rq rfl rfl (q_pickb rfl rfl rfl PB.v (PB.c (fun hp => by rw [hp]; rfl))) ?_
    refine run_nil ?_
    refine ev_cond rfl (fun hc => ?_) (fun hc => ?_)
    · replace H := ct hc H
      refine ev_seq ?_
      refine ev_region ?_
      refine rq rfl rfl (q_assign rfl) ?_
      refine run_nil ?_
      refine ev_ret ?_
      exact ret_ok [vb false] (congrArg (fun r : Bool => vb r) (Option.some.inj H)) rfl (.cons (.tmp rfl (.v _ _ (fun _ => rfl))) .nil)
    · replace H := cf hc H
      refine ev_skip ?_
      refine ev_region ?_
      refine rq rfl rfl (q_move rfl) ?_
      refine rq rfl rfl (q_assign rfl) ?_
      refine run_nil ?_
      refine ev_region ?_
      refine rq rfl rfl (q_add rfl rfl) ?_
      refine rq rfl rfl (q_move rfl) ?_
      refine run_nil ?_
      exact ⟨_, _, w7, H, rfl, shift_mk ⟨⟨_, rfl, (.flat rfl)⟩, ⟨⟨_, rfl, .rfl⟩, ⟨⟨_, rfl, (.flat rfl)⟩, ⟨⟨_, rfl, (.flat rfl)⟩, ⟨⟨_, rfl, .rfl⟩, ⟨⟨_, rfl, (.flat rfl)⟩, ⟨⟨_, rfl, (.eq (congrArg (fun n => D.v true (vi n)) (wrap_succ w7 w8)))⟩, trivial⟩⟩⟩⟩⟩⟩⟩ trivial rfl rfl⟩
  · replace H := forL_out hc H
    refine ev_exit ?_
    refine ev_seq ?_
    refine ev_region ?_
    refine rq rfl rfl (q_assign rfl) ?_
    refine run_nil ?_
    refine ev_ret ?_
    exact ret_ok [vb true] (congrArg (fun r : Bool => vb r) (Option.some.inj H)) rfl (.cons (.tmp rfl (.v _ _ (fun _ => rfl))) .nil)
def quality_valid_3_m (a0 : Int) : Option Int := some a0
theorem quality_valid_3_c {a0 : Int} {r : Int} (H : quality_valid_3_m a0 = some r) : PureC Try.prog true 86 [vi a0] (vi r) := by
  unfold quality_valid_3_m at H
  refine pure_intro (N := 4) Try.func86 rfl rfl rfl rfl fun C hO => ?_
  refine ev_shift (shift_mk (fs := [(0, .v true (vi a0))]) (es := []) ⟨⟨_, rfl, (.flat rfl)⟩, trivial⟩ trivial rfl rfl) ?_
  refine ev_seq ?_
  refine ev_region ?_
  refine rq rfl rfl (q_assign rfl) ?_
  refine run_nil ?_
  refine ev_seq ?_
  refine ev_region ?_
  refine rq rfl rfl (q_move rfl) ?_
  refine rq rfl rfl (q_assign rfl) ?_
  refine run_nil ?_
  refine ev_ret ?_
  exact ret_ok [vi a0] (congrArg (fun r : Int => vi r) (Option.some.inj H)) rfl (.cons (.tmp rfl (.v _ _ (fun _ => rfl))) .nil)
def quality_valid_m (a0 : List GSpec) (a1 : List Int) : Option Bool := bdc (!(decide (16 < ((a0.length : Nat) : Int)))) (slices_ContainsFunc_Spec_m a0 (fun y0 => quality_valid_1_m y0)) fun x1 => bif bif decide (16 < ((a0.length : Nat) : Int)) then true else x1 then (some false) else (bd (quality_rising_Spec_m a0 1023 (fun y0 => quality_valid_2_m y0)) fun x2 => bdc x2 (quality_rising_int_m a1 1023 (fun y0 => quality_valid_3_m y0)) fun x3 => some (bif x2 then x3 else false))
theorem quality_valid_c {a0 : List GSpec} {a1 : List Int} {r : Bool} (H : quality_valid_m a0 a1 = some r) : PureC Try.prog true 44 [V.l 3 (List.map GSpec.e a0), V.l 1 (List.map vi a1)] (vb r) := by
  unfold quality_valid_m at H
  refine pure_intro (N := 18) Try.func44 rfl rfl rfl rfl fun C hO => ?_
  refine ev_seq ?_
  refine ev_region ?_
  refine rq rfl rfl (q_assign rfl) ?_
  refine run_nil ?_
  refine ev_seq ?_
  refine ev_seq ?_
  refine ev_region ?_
  refine rq rfl rfl (q_move rfl) ?_
  refine rq rfl rfl (q_len_t rfl) ?_
  refine rq rfl rfl (q_gtr rfl rfl) ?_
  refine rq rfl rfl (q_move rfl) ?_
  refine rqc (l := []) ⟨⟨_, _, _, rfl, rfl, rfl, rfl⟩, rfl, fun hc => q_move rfl, trivial⟩ rfl ?_
  obtain ⟨x1, x1_h, _, H⟩ := bdc_inv H
  refine rqc (l := [9]) ⟨⟨_, _, _, rfl, rfl, rfl, rfl⟩, rfl, fun hc => q_call rfl (.v _ _ (fun e => nomatch e)) (.v rfl (.v rfl ArgsOk.nil)) inferInstance (slices_ContainsFunc_Spec_c (a1_h := fun _ _ h => quality_valid_1_c h) (x1_h hc)), ⟨fun h => h, trivial⟩⟩ rfl ?_
  refine rq rfl rfl (q_pickb rfl rfl rfl PB.v (PB.c (fun hp => by rw [hp]; rfl))) ?_
  refine run_nil ?_
  refine ev_cond rfl (fun hc => ?_) (fun hc => ?_)
  · replace H := ct hc H
    refine ev_seq ?_
    refine ev_region ?_
    refine rq rfl rfl (q_assign rfl) ?_
    refine run_nil ?_
    refine ev_ret ?_
    exact ret_ok [vb false] (congrArg (fun r : Bool => vb r) (Option.some.inj H)) rfl (.cons (.tmp rfl (.v _ _ (fun _ => rfl))) .nil)
  · replace H := cf hc H
    refine ev_skip ?_
    refine ev_seq ?_
    refine ev_region ?_
    refine rq rfl rfl (q_move rfl) ?_
    obtain ⟨x2, x2_h, H⟩ := bd_inv H
    refine rq rfl rfl (q_call rfl (.v _ _ (fun e => nomatch e)) (.v rfl (.v rfl (.v rfl ArgsOk.nil))) inferInstance (quality_rising_Spec_c (a2_h := fun _ _ h => quality_valid_2_c h) x2_h)) ?_
    refine rq rfl rfl (q_move rfl) ?_
    refine rqc (l := []) ⟨⟨_, _, _, rfl, rfl, rfl, rfl⟩, rfl, fun hc => q_move rfl, trivial⟩ rfl ?_
    obtain ⟨x3, x3_h, _, H⟩ := bdc_inv H
    refine rqc (l := [15]) ⟨⟨_, _, _, rfl, rfl, rfl, rfl⟩, rfl, fun hc => q_call rfl (.v _ _ (fun e => nomatch e)) (.v rfl (.v rfl (.v rfl ArgsOk.nil))) inferInstance (quality_rising_int_c (a2_h := fun _ _ h => quality_valid_3_c h) (x3_h hc)), ⟨fun h => h, trivial⟩⟩ rfl ?_
    refine rq rfl rfl (q_pickb rfl rfl rfl (PB.c (fun hp => hp)) PB.v) ?_
    refine rq rfl rfl (q_assign rfl) ?_
    refine run_nil ?_
    refine ev_ret ?_
    exact ret_ok [vb (bif x2 then x3 else false)] (congrArg (fun r : Bool => vb r) (Option.some.inj H)) rfl (.cons (.tmp rfl (.v _ _ (fun _ => rfl))) .nil)
def stock_isDay_m (a0 : Int) : Option Bool := some (bif decide (0 ≤ a0) then decide (a0 < 1024) else false)
theorem stock_isDay_c {a0 : Int} {r : Bool} (H : stock_isDay_m a0 = some r) : PureC Try.prog true 54 [vi a0] (vb r) := by
  unfold stock_isDay_m at H
  refine pure_intro (N := 9) Try.func54 rfl rfl rfl rfl fun C hO => ?_
  refine ev_shift (shift_mk (fs := [(0, .v true (vi a0))]) (es := []) ⟨⟨_, rfl, (.flat rfl)⟩, trivial⟩ trivial rfl rfl) ?_
  refine ev_seq ?_
  refine ev_region ?_
  refine rq rfl rfl (q_assign rfl) ?_
  refine run_nil ?_
  refine ev_seq ?_
  refine ev_region ?_
  refine rq rfl rfl (q_move rfl) ?_
  refine rq rfl rfl (q_geq rfl rfl) ?_
  refine rq rfl rfl (q_move rfl) ?_
  refine rqc (l := []) ⟨⟨_, _, _, rfl, rfl, rfl, rfl⟩, rfl, fun hc => q_move rfl, trivial⟩ rfl ?_
  refine rqc (l := [6]) ⟨⟨_, _, _, rfl, rfl, rfl, rfl⟩, rfl, fun hc => q_lss rfl rfl, ⟨fun h => h, trivial⟩⟩ rfl ?_
  refine rq rfl rfl (q_pickb rfl rfl rfl (PB.c (fun hp => hp)) PB.v) ?_
  refine rq rfl rfl (q_assign rfl) ?_
  refine run_nil ?_
  refine ev_ret ?_
  exact ret_ok [vb (bif decide (0 ≤ a0) then decide (a0 < 1024) else false)] (congrArg (fun r : Bool => vb r) (Option.some.inj H)) rfl (.cons (.tmp rfl (.v _ _ (fun _ => rfl))) .nil)
def stock_head_m  : Option GKey := some (⟨0, 0, 0⟩ : GKey)
theorem stock_head_c  {r : GKey} (H : stock_head_m  = some r) : PureC Try.prog true 72 [] (GKey.e r) := by
  unfold stock_head_m at H
  refine pure_intro (N := 2) Try.func72 rfl rfl rfl rfl fun C hO => ?_
  refine ev_seq ?_
  refine ev_region ?_
  refine re rfl (e_alloc 0 0 rfl rfl) ?_; rintro _ ⟨b1, rfl⟩
  refine run_nil ?_
  refine ev_seq ?_
  refine ev_region ?_
  refine rq rfl rfl (q_build rfl (.v rfl rfl rfl rfl rfl .nil)) ?_
  refine re rfl (e_store rfl rfl rfl rfl rfl (Nat.le_of_ble_eq_true rfl) rfl) ?_; rintro _ rfl
  refine run_nil ?_
  refine ev_ret ?_
  exact ret_ok [GKey.e (⟨0, 0, 0⟩ : GKey)] (congrArg (fun r : GKey => GKey.e r) (Option.some.inj H)) rfl (.cons (.cellN (z := 3) rfl rfl rfl rfl rfl rfl (.v _ _ (fun _ => rfl))) .nil)
end Bf
