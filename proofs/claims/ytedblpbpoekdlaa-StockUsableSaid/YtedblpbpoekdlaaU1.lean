import Derived.Test.YtedblpbpoekdlaaFacts
import Derived.Test.YtedblpbpoekdlaaF29
namespace Bf
open Go Go.RowKit Go.Proofs
attribute [local irreducible] Quiet Eff RunS Ev PureC Shift RunQ RetQ RetR SeqQ
set_option linter.unusedVariables false
set_option maxRecDepth 4000
structure GKey where
  kind : Int
  subject : Int
  object : Int
  deriving Inhabited, DecidableEq
def GKey.e (x : GKey) : V := .st [vi x.kind, vi x.subject, vi x.object]
structure GSpan where
  from_ : Int
  to_ : Int
  deriving Inhabited, DecidableEq
def GSpan.e (x : GSpan) : V := .st [vi x.from_, vi x.to_]
structure GFact where
  key : GKey
  value : Int
  valid : GSpan
  known : Int
  no_ : Int
  deriving Inhabited, DecidableEq
def GFact.e (x : GFact) : V := .st [vi x.key.kind, vi x.key.subject, vi x.key.object, vi x.value, vi x.valid.from_, vi x.valid.to_, vi x.known, vi x.no_]
structure GLot where
  no_ : Int
  item : Int
  plant : Int
  amount : Int
  expiry : Int
  state : Int
  deriving Inhabited, DecidableEq
def GLot.e (x : GLot) : V := .st [vi x.no_, vi x.item, vi x.plant, vi x.amount, vi x.expiry, vi x.state]
structure GRatio where
  neg : Bool
  n : ByteArray
  d : ByteArray
  deriving Inhabited
def GRatio.e (x : GRatio) : V := .st [vb x.neg, V.s x.n, V.s x.d]
structure GUnit where
  name : ByteArray
  of : ByteArray
  n : Int
  d : Int
  base : Int
  scale : GRatio
  deriving Inhabited
def GUnit.e (x : GUnit) : V := .st [V.s x.name, V.s x.of, vi x.n, vi x.d, vi x.base, vb x.scale.neg, V.s x.scale.n, V.s x.scale.d]
structure GItem where
  name : ByteArray
  unit : ByteArray
  massN : Int
  massD : Int
  shelf : Int
  unitNo : Int
  deriving Inhabited
def GItem.e (x : GItem) : V := .st [V.s x.name, V.s x.unit, vi x.massN, vi x.massD, vi x.shelf, vi x.unitNo]
structure GMachine where
  name : ByteArray
  plant : ByteArray
  clean : Int
  plantNo : Int
  deriving Inhabited
def GMachine.e (x : GMachine) : V := .st [V.s x.name, V.s x.plant, vi x.clean, vi x.plantNo]
structure GOption where
  name : ByteArray
  choices : List ByteArray
  deriving Inhabited
def GOption.e (x : GOption) : V := .st [V.s x.name, V.l 1 (List.map V.s x.choices)]
structure GCond where
  option : ByteArray
  choice : ByteArray
  optionNo : Int
  choiceNo : Int
  deriving Inhabited
def GCond.e (x : GCond) : V := .st [V.s x.option, V.s x.choice, vi x.optionNo, vi x.choiceNo]
structure GAmount where
  n : Int
  d : Int
  unit : ByteArray
  item : ByteArray
  back : Bool
  unitNo : Int
  itemNo : Int
  deriving Inhabited
def GAmount.e (x : GAmount) : V := .st [vi x.n, vi x.d, V.s x.unit, V.s x.item, vb x.back, vi x.unitNo, vi x.itemNo]
structure GRun where
  machine : ByteArray
  slots : Int
  machineNo : Int
  deriving Inhabited
def GRun.e (x : GRun) : V := .st [V.s x.machine, vi x.slots, vi x.machineNo]
structure GRecipe where
  item : ByteArray
  plant : ByteArray
  from_ : Int
  to_ : Int
  if_ : List GCond
  in_ : List GAmount
  out : List GAmount
  reworkN : Int
  reworkD : Int
  yieldN : Int
  yieldD : Int
  tolN : Int
  tolD : Int
  lead : Int
  runs : List GRun
  itemNo : Int
  plantNo : Int
  deriving Inhabited
def GRecipe.e (x : GRecipe) : V := .st [V.s x.item, V.s x.plant, vi x.from_, vi x.to_, V.l 4 (List.map GCond.e x.if_), V.l 7 (List.map GAmount.e x.in_), V.l 7 (List.map GAmount.e x.out), vi x.reworkN, vi x.reworkD, vi x.yieldN, vi x.yieldD, vi x.tolN, vi x.tolD, vi x.lead, V.l 3 (List.map GRun.e x.runs), vi x.itemNo, vi x.plantNo]
structure GSwap where
  a : ByteArray
  b : ByteArray
  aNo : Int
  bNo : Int
  deriving Inhabited
def GSwap.e (x : GSwap) : V := .st [V.s x.a, V.s x.b, vi x.aNo, vi x.bNo]
structure GSource where
  units : List GUnit
  items : List GItem
  plants : List ByteArray
  machines : List GMachine
  options : List GOption
  forbids : List (List GCond)
  recipes : List GRecipe
  swaps : List GSwap
  deriving Inhabited
def GSource.e (x : GSource) : V := .st [V.l 8 (List.map GUnit.e x.units), V.l 6 (List.map GItem.e x.items), V.l 1 (List.map V.s x.plants), V.l 4 (List.map GMachine.e x.machines), V.l 2 (List.map GOption.e x.options), V.l 1 (List.map (fun l => V.l 4 (List.map GCond.e l)) x.forbids), V.l 17 (List.map GRecipe.e x.recipes), V.l 4 (List.map GSwap.e x.swaps)]
structure GInst where
  op : Int
  a : Int
  b : Int
  r : GRatio
  deriving Inhabited
def GInst.e (x : GInst) : V := .st [vi x.op, vi x.a, vi x.b, vb x.r.neg, V.s x.r.n, V.s x.r.d]
structure GTables where
  source : GSource
  levels : List Int
  codes : List (List GInst)
  deriving Inhabited
def GTables.e (x : GTables) : V := .st [V.l 8 (List.map GUnit.e x.source.units), V.l 6 (List.map GItem.e x.source.items), V.l 1 (List.map V.s x.source.plants), V.l 4 (List.map GMachine.e x.source.machines), V.l 2 (List.map GOption.e x.source.options), V.l 1 (List.map (fun l => V.l 4 (List.map GCond.e l)) x.source.forbids), V.l 17 (List.map GRecipe.e x.source.recipes), V.l 4 (List.map GSwap.e x.source.swaps), V.l 1 (List.map vi x.levels), V.l 1 (List.map (fun l => V.l 6 (List.map GInst.e l)) x.codes)]
structure GWorld where
  tables : GTables
  facts : List GFact
  deriving Inhabited
def GWorld.e (x : GWorld) : V := .st [V.l 8 (List.map GUnit.e x.tables.source.units), V.l 6 (List.map GItem.e x.tables.source.items), V.l 1 (List.map V.s x.tables.source.plants), V.l 4 (List.map GMachine.e x.tables.source.machines), V.l 2 (List.map GOption.e x.tables.source.options), V.l 1 (List.map (fun l => V.l 4 (List.map GCond.e l)) x.tables.source.forbids), V.l 17 (List.map GRecipe.e x.tables.source.recipes), V.l 4 (List.map GSwap.e x.tables.source.swaps), V.l 1 (List.map vi x.tables.levels), V.l 1 (List.map (fun l => V.l 6 (List.map GInst.e l)) x.tables.codes), V.l 8 (List.map GFact.e x.facts)]
def slices_IndexFunc_Fact_m (a0 : List GFact) (a1 : GFact → Option Bool) : Option Int := forL a0 (fun (k3 : Nat) (x5 : GFact) (s1 : Unit) loop2 => bd (a1 x5) fun x8 => bif x8 then (some ((k3 : Nat) : Int)) else (loop2 ())) (fun (s1 : Unit) => some (-1)) ()
theorem slices_IndexFunc_Fact_c {a0 : List GFact} {a1_g : Nat} {a1_k : List V} {a1 : GFact → Option Bool} [TFn Try.prog a1_g] (a1_h : ∀ y0 r, a1 y0 = some r → PureC Try.prog true a1_g ([GFact.e y0] ++ a1_k) (vb r)) {r : Int} (H : slices_IndexFunc_Fact_m a0 a1 = some r) : PureC Try.prog true 98 [V.l 8 (List.map GFact.e a0), .c a1_g a1_k] (vi r) := by
  unfold slices_IndexFunc_Fact_m at H
  refine pure_intro (N := 19) Try.func98 rfl rfl rfl rfl fun C hO => ?_
  refine ev_seq ?_
  refine ev_region ?_
  refine rq rfl rfl (q_assign rfl) ?_
  refine run_nil ?_
  refine ev_seq ?_
  refine ev_seq ?_
  refine ev_region ?_
  refine rq rfl rfl (q_move rfl) ?_
  refine rq rfl rfl (q_len_t rfl) ?_
  refine rq rfl rfl (q_move rfl) ?_
  refine run_nil ?_
  refine ev_block ?_
  refine ev_len_l (s := 0) rfl fun w7 => ?_
  rw [List.length_map] at w7
  refine ev_forL H (fun k3 s1 σ' => σ' = mkS [(0, .v false (V.l 8 (List.map GFact.e a0))), (1, .v false (.c a1_g a1_k)), (4, .v true (vi 0)), (7, .v true (vi ((a0.length : Nat) : Int))), (8, .v true (vi ((k3 : Nat) : Int)))] [] [] (0, false)) ⟨_, rfl, shift_mk ⟨⟨_, rfl, .rfl⟩, ⟨⟨_, rfl, .rfl⟩, ⟨⟨_, rfl, (.flat rfl)⟩, ⟨⟨_, rfl, (.flat rfl)⟩, ⟨⟨_, rfl, .rfl⟩, trivial⟩⟩⟩⟩⟩ trivial rfl rfl⟩ ?_
  rintro k3 s1 _ rfl _ H
  refine ev_seq ?_
  refine ev_region ?_
  refine rq rfl rfl (q_lss rfl rfl) ?_
  refine run_nil ?_
  refine ev_seq ?_
  refine ev_cond rfl (fun hc => ?_) (fun hc => ?_)
  · obtain ⟨x5, w6, x5_g, H⟩ := forL_in hc H
    have x5_h : idx a0 ((k3 : Nat) : Int) = some x5 := by rw [idx_nat]; exact x5_g
    refine ev_skip ?_
    refine ev_seq ?_
    refine ev_block ?_
    refine ev_seq ?_
    refine ev_region ?_
    refine rq rfl rfl (q_move rfl) ?_
    refine rq rfl rfl (q_assign rfl) ?_
    refine run_nil ?_
    refine ev_seq ?_
    refine ev_region ?_
    refine rq rfl rfl (q_move rfl) ?_
    refine rq rfl rfl (q_move rfl) ?_
    refine rq rfl rfl (q_move rfl) ?_
    refine rq rfl rfl (q_idx_l rfl rfl (idx_inv x5_h).1 (map_get (idx_inv x5_h).2.1) rfl) ?_
    refine rq rfl rfl (q_load_e rfl rfl rfl) ?_
    obtain ⟨x8, x8_h, H⟩ := bd_inv H
    refine rq rfl rfl (q_call rfl (.v _ _ (fun e => nomatch e)) (.v rfl ArgsOk.nil) inferInstance (a1_h _ _ x8_h)) ?_
    refine run_nil ?_
    refine ev_cond rfl (fun hc => ?_) (fun hc => ?_)
    · replace H := ct hc H
      refine ev_seq ?_
      refine ev_region ?_
      refine rq rfl rfl (q_move rfl) ?_
      refine rq rfl rfl (q_assign rfl) ?_
      refine run_nil ?_
      refine ev_ret ?_
      exact ret_ok [vi ((k3 : Nat) : Int)] (congrArg (fun r : Int => vi r) (Option.some.inj H)) rfl (.cons (.tmp rfl (.v _ _ (fun _ => rfl))) .nil)
    · replace H := cf hc H
      refine ev_skip ?_
      refine ev_region ?_
      refine rq rfl rfl (q_add rfl rfl) ?_
      refine rq rfl rfl (q_move rfl) ?_
      refine run_nil ?_
      exact ⟨_, _, w6, H, rfl, shift_mk ⟨⟨_, rfl, .rfl⟩, ⟨⟨_, rfl, .rfl⟩, ⟨⟨_, rfl, (.flat rfl)⟩, ⟨⟨_, rfl, (.flat rfl)⟩, ⟨⟨_, rfl, (.eq (congrArg (fun n => D.v true (vi n)) (wrap_succ w6 w7)))⟩, trivial⟩⟩⟩⟩⟩ trivial rfl rfl⟩
  · replace H := forL_out hc H
    refine ev_exit ?_
    refine ev_seq ?_
    refine ev_region ?_
    refine rq rfl rfl (q_assign rfl) ?_
    refine run_nil ?_
    refine ev_ret ?_
    exact ret_ok [vi (-1)] (congrArg (fun r : Int => vi r) (Option.some.inj H)) rfl (.cons (.tmp rfl (.v _ _ (fun _ => rfl))) .nil)
def slices_ContainsFunc_Fact_m (a0 : List GFact) (a1 : GFact → Option Bool) : Option Bool := bd (slices_IndexFunc_Fact_m a0 a1) fun x1 => some (decide (0 ≤ x1))
theorem slices_ContainsFunc_Fact_c {a0 : List GFact} {a1_g : Nat} {a1_k : List V} {a1 : GFact → Option Bool} [TFn Try.prog a1_g] (a1_h : ∀ y0 r, a1 y0 = some r → PureC Try.prog true a1_g ([GFact.e y0] ++ a1_k) (vb r)) {r : Bool} (H : slices_ContainsFunc_Fact_m a0 a1 = some r) : PureC Try.prog true 73 [V.l 8 (List.map GFact.e a0), .c a1_g a1_k] (vb r) := by
  unfold slices_ContainsFunc_Fact_m at H
  refine pure_intro (N := 9) Try.func73 rfl rfl rfl rfl fun C hO => ?_
  refine ev_seq ?_
  refine ev_region ?_
  refine rq rfl rfl (q_assign rfl) ?_
  refine run_nil ?_
  refine ev_seq ?_
  refine ev_region ?_
  refine rq rfl rfl (q_move rfl) ?_
  refine rq rfl rfl (q_move rfl) ?_
  obtain ⟨x1, x1_h, H⟩ := bd_inv H
  refine rq rfl rfl (q_call rfl (.v _ _ (fun e => nomatch e)) (.v rfl (.v rfl ArgsOk.nil)) inferInstance (slices_IndexFunc_Fact_c (a1_h := a1_h) x1_h)) ?_
  refine rq rfl rfl (q_geq rfl rfl) ?_
  refine rq rfl rfl (q_assign rfl) ?_
  refine run_nil ?_
  refine ev_ret ?_
  exact ret_ok [vb (decide (0 ≤ x1))] (congrArg (fun r : Bool => vb r) (Option.some.inj H)) rfl (.cons (.tmp rfl (.v _ _ (fun _ => rfl))) .nil)
def facts_within_m (a0 : Int) (a1 : Int) (a2 : Int) : Option Bool := some (bif decide (a1 ≤ a0) then decide (a0 ≤ a2) else false)
theorem facts_within_c {a0 : Int} {a1 : Int} {a2 : Int} {r : Bool} (H : facts_within_m a0 a1 a2 = some r) : PureC Try.prog true 99 [vi a0, vi a1, vi a2] (vb r) := by
  unfold facts_within_m at H
  refine pure_intro (N := 15) Try.func99 rfl rfl rfl rfl fun C hO => ?_
  refine ev_shift (shift_mk (fs := [(0, .v true (vi a0)), (1, .v true (vi a1)), (2, .v true (vi a2))]) (es := []) ⟨⟨_, rfl, (.flat rfl)⟩, ⟨⟨_, rfl, (.flat rfl)⟩, ⟨⟨_, rfl, (.flat rfl)⟩, trivial⟩⟩⟩ trivial rfl rfl) ?_
  refine ev_seq ?_
  refine ev_region ?_
  refine rq rfl rfl (q_assign rfl) ?_
  refine run_nil ?_
  refine ev_seq ?_
  refine ev_region ?_
  refine rq rfl rfl (q_move rfl) ?_
  refine rq rfl rfl (q_move rfl) ?_
  refine rq rfl rfl (q_leq rfl rfl) ?_
  refine rq rfl rfl (q_move rfl) ?_
  refine rqc (l := []) ⟨⟨_, _, _, rfl, rfl, rfl, rfl⟩, rfl, fun hc => q_move rfl, trivial⟩ rfl ?_
  refine rqc (l := []) ⟨⟨_, _, _, rfl, rfl, rfl, rfl⟩, rfl, fun hc => q_move rfl, trivial⟩ rfl ?_
  refine rqc (l := [11, 12]) ⟨⟨_, _, _, rfl, rfl, rfl, rfl⟩, rfl, fun hc => q_leq rfl rfl, ⟨fun h => h, ⟨fun h => h, trivial⟩⟩⟩ rfl ?_
  refine rq rfl rfl (q_pickb rfl rfl rfl (PB.c (fun hp => hp)) PB.v) ?_
  refine rq rfl rfl (q_assign rfl) ?_
  refine run_nil ?_
  refine ev_ret ?_
  exact ret_ok [vb (bif decide (a1 ≤ a0) then decide (a0 ≤ a2) else false)] (congrArg (fun r : Bool => vb r) (Option.some.inj H)) rfl (.cons (.tmp rfl (.v _ _ (fun _ => rfl))) .nil)
def facts_fits_m (a0 : GFact) : Option Bool := bd (facts_within_m a0.key.kind 0 15) fun x2 => bdc x2 (facts_within_m a0.key.subject 0 4095) fun x3 => bdc (bif x2 then x3 else false) (facts_within_m a0.key.object 0 1023) fun x4 => bdc (bif bif x2 then x3 else false then x4 else false) (facts_within_m a0.value (-1) 1048576) fun x5 => bdc (bif bif bif bif bif bif x2 then x3 else false then x4 else false then x5 else false then decide (0 ≤ a0.valid.from_) else false then decide (a0.valid.from_ < a0.valid.to_) else false then decide (a0.valid.to_ ≤ 1024) else false) (facts_within_m a0.known 1 16777216) fun x6 => bdc (bif bif bif bif bif bif bif x2 then x3 else false then x4 else false then x5 else false then decide (0 ≤ a0.valid.from_) else false then decide (a0.valid.from_ < a0.valid.to_) else false then decide (a0.valid.to_ ≤ 1024) else false then x6 else false) (facts_within_m a0.no_ 0 65535) fun x7 => some (bif bif bif bif bif bif bif bif x2 then x3 else false then x4 else false then x5 else false then decide (0 ≤ a0.valid.from_) else false then decide (a0.valid.from_ < a0.valid.to_) else false then decide (a0.valid.to_ ≤ 1024) else false then x6 else false then x7 else false)
theorem facts_fits_c {a0 : GFact} {r : Bool} (H : facts_fits_m a0 = some r) : PureC Try.prog true 75 [GFact.e a0] (vb r) := by
  unfold facts_fits_m at H
  refine pure_intro (N := 55) Try.func75 rfl rfl rfl rfl fun C hO => ?_
  refine ev_shift (shift_mk (fs := [(0, .v true (GFact.e a0))]) (es := []) ⟨⟨_, rfl, (.flat rfl)⟩, trivial⟩ trivial rfl rfl) ?_
  refine ev_seq ?_
  refine ev_region ?_
  refine re rfl (e_box 1 0 rfl rfl rfl) ?_; rintro _ ⟨b1, rfl⟩
  refine rq rfl rfl (q_assign rfl) ?_
  refine run_nil ?_
  refine ev_seq ?_
  refine ev_region ?_
  refine rq rfl rfl (q_fld_p rfl) ?_
  refine rq rfl rfl (q_fld_p rfl) ?_
  refine rq rfl rfl (q_load1 rfl rfl rfl) ?_
  obtain ⟨x2, x2_h, H⟩ := bd_inv H
  refine rq rfl rfl (q_call rfl (.v _ _ (fun e => nomatch e)) (.v rfl (.v rfl (.v rfl ArgsOk.nil))) inferInstance (facts_within_c  x2_h)) ?_
  refine rq rfl rfl (q_move rfl) ?_
  refine rqc (l := []) ⟨⟨_, _, _, rfl, rfl, rfl, rfl⟩, rfl, fun hc => q_fld_p rfl, trivial⟩ rfl ?_
  refine rqc (l := [8]) ⟨⟨_, _, _, rfl, rfl, rfl, rfl⟩, rfl, fun hc => q_fld_p rfl, ⟨fun h => h, trivial⟩⟩ rfl ?_
  refine rqc (l := [9]) ⟨⟨_, _, _, rfl, rfl, rfl, rfl⟩, rfl, fun hc => q_load1 rfl rfl rfl, ⟨fun h => h, trivial⟩⟩ rfl ?_
  obtain ⟨x3, x3_h, _, H⟩ := bdc_inv H
  refine rqc (l := [10]) ⟨⟨_, _, _, rfl, rfl, rfl, rfl⟩, rfl, fun hc => q_call rfl (.v _ _ (fun e => nomatch e)) (.v rfl (.v rfl (.v rfl ArgsOk.nil))) inferInstance (facts_within_c  (x3_h hc)), ⟨fun h => h, trivial⟩⟩ rfl ?_
  refine rq rfl rfl (q_pickb rfl rfl rfl (PB.c (fun hp => hp)) PB.v) ?_
  refine rq rfl rfl (q_move rfl) ?_
  refine rqc (l := []) ⟨⟨_, _, _, rfl, rfl, rfl, rfl⟩, rfl, fun hc => q_fld_p rfl, trivial⟩ rfl ?_
  refine rqc (l := [14]) ⟨⟨_, _, _, rfl, rfl, rfl, rfl⟩, rfl, fun hc => q_fld_p rfl, ⟨fun h => h, trivial⟩⟩ rfl ?_
  refine rqc (l := [15]) ⟨⟨_, _, _, rfl, rfl, rfl, rfl⟩, rfl, fun hc => q_load1 rfl rfl rfl, ⟨fun h => h, trivial⟩⟩ rfl ?_
  obtain ⟨x4, x4_h, _, H⟩ := bdc_inv H
  refine rqc (l := [16]) ⟨⟨_, _, _, rfl, rfl, rfl, rfl⟩, rfl, fun hc => q_call rfl (.v _ _ (fun e => nomatch e)) (.v rfl (.v rfl (.v rfl ArgsOk.nil))) inferInstance (facts_within_c  (x4_h hc)), ⟨fun h => h, trivial⟩⟩ rfl ?_
  refine rq rfl rfl (q_pickb rfl rfl rfl (PB.c (fun hp => hp)) PB.v) ?_
  refine rq rfl rfl (q_move rfl) ?_
  refine rqc (l := []) ⟨⟨_, _, _, rfl, rfl, rfl, rfl⟩, rfl, fun hc => q_fld_p rfl, trivial⟩ rfl ?_
  refine rqc (l := [20]) ⟨⟨_, _, _, rfl, rfl, rfl, rfl⟩, rfl, fun hc => q_load1 rfl rfl rfl, ⟨fun h => h, trivial⟩⟩ rfl ?_
  obtain ⟨x5, x5_h, _, H⟩ := bdc_inv H
  refine rqc (l := [21]) ⟨⟨_, _, _, rfl, rfl, rfl, rfl⟩, rfl, fun hc => q_call rfl (.v _ _ (fun e => nomatch e)) (.v rfl (.v rfl (.v rfl ArgsOk.nil))) inferInstance (facts_within_c  (x5_h hc)), ⟨fun h => h, trivial⟩⟩ rfl ?_
  refine rq rfl rfl (q_pickb rfl rfl rfl (PB.c (fun hp => hp)) PB.v) ?_
  refine rq rfl rfl (q_move rfl) ?_
  refine rqc (l := []) ⟨⟨_, _, _, rfl, rfl, rfl, rfl⟩, rfl, fun hc => q_fld_p rfl, trivial⟩ rfl ?_
  refine rqc (l := [25]) ⟨⟨_, _, _, rfl, rfl, rfl, rfl⟩, rfl, fun hc => q_fld_p rfl, ⟨fun h => h, trivial⟩⟩ rfl ?_
  refine rqc (l := [26]) ⟨⟨_, _, _, rfl, rfl, rfl, rfl⟩, rfl, fun hc => q_load1 rfl rfl rfl, ⟨fun h => h, trivial⟩⟩ rfl ?_
  refine rqc (l := [27]) ⟨⟨_, _, _, rfl, rfl, rfl, rfl⟩, rfl, fun hc => q_leq rfl rfl, ⟨fun h => h, trivial⟩⟩ rfl ?_
  refine rq rfl rfl (q_pickb rfl rfl rfl (PB.c (fun hp => hp)) PB.v) ?_
  refine rq rfl rfl (q_move rfl) ?_
  refine rqc (l := []) ⟨⟨_, _, _, rfl, rfl, rfl, rfl⟩, rfl, fun hc => q_fld_p rfl, trivial⟩ rfl ?_
  refine rqc (l := [31]) ⟨⟨_, _, _, rfl, rfl, rfl, rfl⟩, rfl, fun hc => q_fld_p rfl, ⟨fun h => h, trivial⟩⟩ rfl ?_
  refine rqc (l := [32]) ⟨⟨_, _, _, rfl, rfl, rfl, rfl⟩, rfl, fun hc => q_load1 rfl rfl rfl, ⟨fun h => h, trivial⟩⟩ rfl ?_
  refine rqc (l := []) ⟨⟨_, _, _, rfl, rfl, rfl, rfl⟩, rfl, fun hc => q_fld_p rfl, trivial⟩ rfl ?_
  refine rqc (l := [34]) ⟨⟨_, _, _, rfl, rfl, rfl, rfl⟩, rfl, fun hc => q_fld_p rfl, ⟨fun h => h, trivial⟩⟩ rfl ?_
  refine rqc (l := [35]) ⟨⟨_, _, _, rfl, rfl, rfl, rfl⟩, rfl, fun hc => q_load1 rfl rfl rfl, ⟨fun h => h, trivial⟩⟩ rfl ?_
  refine rqc (l := [33, 36]) ⟨⟨_, _, _, rfl, rfl, rfl, rfl⟩, rfl, fun hc => q_lss rfl rfl, ⟨fun h => h, ⟨fun h => h, trivial⟩⟩⟩ rfl ?_
  refine rq rfl rfl (q_pickb rfl rfl rfl (PB.c (fun hp => hp)) PB.v) ?_
  refine rq rfl rfl (q_move rfl) ?_
  refine rqc (l := []) ⟨⟨_, _, _, rfl, rfl, rfl, rfl⟩, rfl, fun hc => q_fld_p rfl, trivial⟩ rfl ?_
  refine rqc (l := [40]) ⟨⟨_, _, _, rfl, rfl, rfl, rfl⟩, rfl, fun hc => q_fld_p rfl, ⟨fun h => h, trivial⟩⟩ rfl ?_
  refine rqc (l := [41]) ⟨⟨_, _, _, rfl, rfl, rfl, rfl⟩, rfl, fun hc => q_load1 rfl rfl rfl, ⟨fun h => h, trivial⟩⟩ rfl ?_
  refine rqc (l := [42]) ⟨⟨_, _, _, rfl, rfl, rfl, rfl⟩, rfl, fun hc => q_leq rfl rfl, ⟨fun h => h, trivial⟩⟩ rfl ?_
  refine rq rfl rfl (q_pickb rfl rfl rfl (PB.c (fun hp => hp)) PB.v) ?_
  refine rq rfl rfl (q_move rfl) ?_
  refine rqc (l := []) ⟨⟨_, _, _, rfl, rfl, rfl, rfl⟩, rfl, fun hc => q_fld_p rfl, trivial⟩ rfl ?_
  refine rqc (l := [46]) ⟨⟨_, _, _, rfl, rfl, rfl, rfl⟩, rfl, fun hc => q_load1 rfl rfl rfl, ⟨fun h => h, trivial⟩⟩ rfl ?_
  obtain ⟨x6, x6_h, _, H⟩ := bdc_inv H
  refine rqc (l := [47]) ⟨⟨_, _, _, rfl, rfl, rfl, rfl⟩, rfl, fun hc => q_call rfl (.v _ _ (fun e => nomatch e)) (.v rfl (.v rfl (.v rfl ArgsOk.nil))) inferInstance (facts_within_c  (x6_h hc)), ⟨fun h => h, trivial⟩⟩ rfl ?_
  refine rq rfl rfl (q_pickb rfl rfl rfl (PB.c (fun hp => hp)) PB.v) ?_
  refine rq rfl rfl (q_move rfl) ?_
  refine rqc (l := []) ⟨⟨_, _, _, rfl, rfl, rfl, rfl⟩, rfl, fun hc => q_fld_p rfl, trivial⟩ rfl ?_
  refine rqc (l := [51]) ⟨⟨_, _, _, rfl, rfl, rfl, rfl⟩, rfl, fun hc => q_load1 rfl rfl rfl, ⟨fun h => h, trivial⟩⟩ rfl ?_
  obtain ⟨x7, x7_h, _, H⟩ := bdc_inv H
  refine rqc (l := [52]) ⟨⟨_, _, _, rfl, rfl, rfl, rfl⟩, rfl, fun hc => q_call rfl (.v _ _ (fun e => nomatch e)) (.v rfl (.v rfl (.v rfl ArgsOk.nil))) inferInstance (facts_within_c  (x7_h hc)), ⟨fun h => h, trivial⟩⟩ rfl ?_
  refine rq rfl rfl (q_pickb rfl rfl rfl (PB.c (fun hp => hp)) PB.v) ?_
  refine rq rfl rfl (q_assign rfl) ?_
  refine run_nil ?_
  refine ev_ret ?_
  exact ret_ok [vb (bif bif bif bif bif bif bif bif x2 then x3 else false then x4 else false then x5 else false then decide (0 ≤ a0.valid.from_) else false then decide (a0.valid.from_ < a0.valid.to_) else false then decide (a0.valid.to_ ≤ 1024) else false then x6 else false then x7 else false)] (congrArg (fun r : Bool => vb r) (Option.some.inj H)) rfl (.cons (.tmp rfl (.v _ _ (fun _ => rfl))) .nil)
def facts_Check_1_m (a0 : GFact) : Option Bool := bd (facts_fits_m a0) fun x2 => some (!x2)
theorem facts_Check_1_c {a0 : GFact} {r : Bool} (H : facts_Check_1_m a0 = some r) : PureC Try.prog true 74 [GFact.e a0] (vb r) := by
  unfold facts_Check_1_m at H
  refine pure_intro (N := 6) Try.func74 rfl rfl rfl rfl fun C hO => ?_
  refine ev_shift (shift_mk (fs := [(0, .v true (GFact.e a0))]) (es := []) ⟨⟨_, rfl, (.flat rfl)⟩, trivial⟩ trivial rfl rfl) ?_
  refine ev_seq ?_
  refine ev_region ?_
  refine re rfl (e_box 1 0 rfl rfl rfl) ?_; rintro _ ⟨b1, rfl⟩
  refine rq rfl rfl (q_assign rfl) ?_
  refine run_nil ?_
  refine ev_seq ?_
  refine ev_region ?_
  refine rq rfl rfl (q_loadN rfl rfl rfl rfl) ?_
  obtain ⟨x2, x2_h, H⟩ := bd_inv H
  refine rq rfl rfl (q_call rfl (.v _ _ (fun e => nomatch e)) (.v rfl ArgsOk.nil) inferInstance (facts_fits_c  x2_h)) ?_
  refine rq rfl rfl (q_not rfl) ?_
  refine rq rfl rfl (q_assign rfl) ?_
  refine run_nil ?_
  refine ev_ret ?_
  exact ret_ok [vb (!x2)] (congrArg (fun r : Bool => vb r) (Option.some.inj H)) rfl (.cons (.tmp rfl (.v _ _ (fun _ => rfl))) .nil)
def cmp_isNaN_int_m (a0 : Int) : Option Bool := some (a0 != a0)
theorem cmp_isNaN_int_c {a0 : Int} {r : Bool} (H : cmp_isNaN_int_m a0 = some r) : PureC Try.prog true 93 [vi a0] (vb r) := by
  unfold cmp_isNaN_int_m at H
  refine pure_intro (N := 6) Try.func93 rfl rfl rfl rfl fun C hO => ?_
  refine ev_shift (shift_mk (fs := [(0, .v true (vi a0))]) (es := []) ⟨⟨_, rfl, (.flat rfl)⟩, trivial⟩ trivial rfl rfl) ?_
  refine ev_seq ?_
  refine ev_region ?_
  refine rq rfl rfl (q_assign rfl) ?_
  refine run_nil ?_
  refine ev_seq ?_
  refine ev_region ?_
  refine rq rfl rfl (q_move rfl) ?_
  refine rq rfl rfl (q_move rfl) ?_
  refine rq rfl rfl (q_nei rfl rfl) ?_
  refine rq rfl rfl (q_assign rfl) ?_
  refine run_nil ?_
  refine ev_ret ?_
  exact ret_ok [vb (a0 != a0)] (congrArg (fun r : Bool => vb r) (Option.some.inj H)) rfl (.cons (.tmp rfl (.v _ _ (fun _ => rfl))) .nil)
def cmp_Compare_int_m (a0 : Int) (a1 : Int) : Option Int := bd (cmp_isNaN_int_m a0) fun x1 => bd (cmp_isNaN_int_m a1) fun x2 => bif x1 then (bif x2 then (some 0) else (some (-1))) else (bif x2 then (some 1) else (bif decide (a0 < a1) then (some (-1)) else (bif decide (a1 < a0) then (some 1) else (some 0))))
theorem cmp_Compare_int_c {a0 : Int} {a1 : Int} {r : Int} (H : cmp_Compare_int_m a0 a1 = some r) : PureC Try.prog true 67 [vi a0, vi a1] (vi r) := by
  unfold cmp_Compare_int_m at H
  refine pure_intro (N := 20) Try.func67 rfl rfl rfl rfl fun C hO => ?_
  refine ev_shift (shift_mk (fs := [(0, .v true (vi a0)), (1, .v true (vi a1))]) (es := []) ⟨⟨_, rfl, (.flat rfl)⟩, ⟨⟨_, rfl, (.flat rfl)⟩, trivial⟩⟩ trivial rfl rfl) ?_
  refine ev_seq ?_
  refine ev_region ?_
  refine rq rfl rfl (q_assign rfl) ?_
  refine run_nil ?_
  refine ev_seq ?_
  refine ev_region ?_
  refine rq rfl rfl (q_move rfl) ?_
  obtain ⟨x1, x1_h, H⟩ := bd_inv H
  refine rq rfl rfl (q_call rfl (.v _ _ (fun e => nomatch e)) (.v rfl ArgsOk.nil) inferInstance (cmp_isNaN_int_c  x1_h)) ?_
  refine rq rfl rfl (q_assign rfl) ?_
  refine run_nil ?_
  refine ev_seq ?_
  refine ev_region ?_
  refine rq rfl rfl (q_move rfl) ?_
  obtain ⟨x2, x2_h, H⟩ := bd_inv H
  refine rq rfl rfl (q_call rfl (.v _ _ (fun e => nomatch e)) (.v rfl ArgsOk.nil) inferInstance (cmp_isNaN_int_c  x2_h)) ?_
  refine rq rfl rfl (q_assign rfl) ?_
  refine run_nil ?_
  refine ev_seq ?_
  refine ev_seq ?_
  refine ev_region ?_
  refine rq rfl rfl (q_move rfl) ?_
  refine run_nil ?_
  refine ev_cond rfl (fun hc => ?_) (fun hc => ?_)
  · replace H := ct hc H
    refine ev_seq ?_
    refine ev_seq ?_
    refine ev_region ?_
    refine rq rfl rfl (q_move rfl) ?_
    refine run_nil ?_
    refine ev_cond rfl (fun hc => ?_) (fun hc => ?_)
    · replace H := ct hc H
      refine ev_seq ?_
      refine ev_region ?_
      refine rq rfl rfl (q_assign rfl) ?_
      refine run_nil ?_
      refine ev_ret ?_
      exact ret_ok [vi 0] (congrArg (fun r : Int => vi r) (Option.some.inj H)) rfl (.cons (.tmp rfl (.v _ _ (fun _ => rfl))) .nil)
    · replace H := cf hc H
      refine ev_skip ?_
      refine ev_seq ?_
      refine ev_region ?_
      refine rq rfl rfl (q_assign rfl) ?_
      refine run_nil ?_
      refine ev_ret ?_
      exact ret_ok [vi (-1)] (congrArg (fun r : Int => vi r) (Option.some.inj H)) rfl (.cons (.tmp rfl (.v _ _ (fun _ => rfl))) .nil)
  · replace H := cf hc H
    refine ev_skip ?_
    refine ev_seq ?_
    refine ev_seq ?_
    refine ev_region ?_
    refine rq rfl rfl (q_move rfl) ?_
    refine run_nil ?_
    refine ev_cond rfl (fun hc => ?_) (fun hc => ?_)
    · replace H := ct hc H
      refine ev_seq ?_
      refine ev_region ?_
      refine rq rfl rfl (q_assign rfl) ?_
      refine run_nil ?_
      refine ev_ret ?_
      exact ret_ok [vi 1] (congrArg (fun r : Int => vi r) (Option.some.inj H)) rfl (.cons (.tmp rfl (.v _ _ (fun _ => rfl))) .nil)
    · replace H := cf hc H
      refine ev_skip ?_
      refine ev_seq ?_
      refine ev_seq ?_
      refine ev_region ?_
      refine rq rfl rfl (q_move rfl) ?_
      refine rq rfl rfl (q_move rfl) ?_
      refine rq rfl rfl (q_lss rfl rfl) ?_
      refine run_nil ?_
      refine ev_cond rfl (fun hc => ?_) (fun hc => ?_)
      · replace H := ct hc H
        refine ev_seq ?_
        refine ev_region ?_
        refine rq rfl rfl (q_assign rfl) ?_
        refine run_nil ?_
        refine ev_ret ?_
        exact ret_ok [vi (-1)] (congrArg (fun r : Int => vi r) (Option.some.inj H)) rfl (.cons (.tmp rfl (.v _ _ (fun _ => rfl))) .nil)
      · replace H := cf hc H
        refine ev_skip ?_
        refine ev_seq ?_
        refine ev_seq ?_
        refine ev_region ?_
        refine rq rfl rfl (q_move rfl) ?_
        refine rq rfl rfl (q_move rfl) ?_
        refine rq rfl rfl (q_gtr rfl rfl) ?_
        refine run_nil ?_
        refine ev_cond rfl (fun hc => ?_) (fun hc => ?_)
        · replace H := ct hc H
          refine ev_seq ?_
          refine ev_region ?_
          refine rq rfl rfl (q_assign rfl) ?_
          refine run_nil ?_
          refine ev_ret ?_
          exact ret_ok [vi 1] (congrArg (fun r : Int => vi r) (Option.some.inj H)) rfl (.cons (.tmp rfl (.v _ _ (fun _ => rfl))) .nil)
        · replace H := cf hc H
          refine ev_skip ?_
          refine ev_seq ?_
          refine ev_region ?_
          refine rq rfl rfl (q_assign rfl) ?_
          refine run_nil ?_
          refine ev_ret ?_
          exact ret_ok [vi 0] (congrArg (fun r : Int => vi r) (Option.some.inj H)) rfl (.cons (.tmp rfl (.v _ _ (fun _ => rfl))) .nil)
def cmp_Or_int_m (a0 : List Int) : Option Int := forL a0 (fun (k3 : Nat) (x5 : Int) (s1 : Unit) loop2 => bif x5 != 0 then (some x5) else (loop2 ())) (fun (s1 : Unit) => some 0) ()
theorem cmp_Or_int_c {a0 : List Int} {r : Int} (H : cmp_Or_int_m a0 = some r) : PureC Try.prog true 90 [V.l 1 (List.map vi a0)] (vi r) := by
  unfold cmp_Or_int_m at H
  refine pure_intro (N := 18) Try.func90 rfl rfl rfl rfl fun C hO => ?_
  refine ev_seq ?_
  refine ev_region ?_
  refine rq rfl rfl (q_assign rfl) ?_
  refine run_nil ?_
  refine ev_seq ?_
  refine ev_region ?_
  refine rq rfl rfl (q_assign rfl) ?_
  refine run_nil ?_
  refine ev_seq ?_
  refine ev_seq ?_
  refine ev_region ?_
  refine rq rfl rfl (q_move rfl) ?_
  refine rq rfl rfl (q_len_t rfl) ?_
  refine rq rfl rfl (q_move rfl) ?_
  refine run_nil ?_
  refine ev_block ?_
  refine ev_len_l (s := 6) rfl fun w7 => ?_
  rw [List.length_map] at w7
  refine ev_forL H (fun k3 s1 σ' => σ' = mkS [(2, .v true (vi 0)), (3, .v true (vi 0)), (6, .v false (V.l 1 (List.map vi a0))), (7, .v true (vi ((a0.length : Nat) : Int))), (8, .v true (vi ((k3 : Nat) : Int)))] [] [] (0, false)) ⟨_, rfl, shift_mk ⟨⟨_, rfl, (.flat rfl)⟩, ⟨⟨_, rfl, (.flat rfl)⟩, ⟨⟨_, rfl, .rfl⟩, ⟨⟨_, rfl, (.flat rfl)⟩, ⟨⟨_, rfl, .rfl⟩, trivial⟩⟩⟩⟩⟩ trivial rfl rfl⟩ ?_
  rintro k3 s1 _ rfl _ H
  refine ev_seq ?_
  refine ev_region ?_
  refine rq rfl rfl (q_lss rfl rfl) ?_
  refine run_nil ?_
  refine ev_seq ?_
  refine ev_cond rfl (fun hc => ?_) (fun hc => ?_)
  · obtain ⟨x5, w6, x5_g, H⟩ := forL_in hc H
    have x5_h : idx a0 ((k3 : Nat) : Int) = some x5 := by rw [idx_nat]; exact x5_g
    refine ev_skip ?_
    refine ev_seq ?_
    refine ev_block ?_
    refine ev_seq ?_
    refine ev_region ?_
    refine rq rfl rfl (q_idx_l rfl rfl (idx_inv x5_h).1 (map_get (idx_inv x5_h).2.1) rfl) ?_
    refine rq rfl rfl (q_load1_q rfl) ?_
    refine rq rfl rfl (q_assign rfl) ?_
    refine run_nil ?_
    refine ev_seq ?_
    refine ev_region ?_
    refine rq rfl rfl (q_move rfl) ?_
    refine rq rfl rfl (q_move rfl) ?_
    refine rq rfl rfl (q_nei rfl rfl) ?_
    refine run_nil ?_
    refine ev_cond rfl (fun hc => ?_) (fun hc => ?_)
    · replace H := ct hc H
      refine ev_seq ?_
      refine ev_region ?_
      refine rq rfl rfl (q_move rfl) ?_
      refine rq rfl rfl (q_assign rfl) ?_
      refine run_nil ?_
      refine ev_ret ?_
      exact ret_ok [vi x5] (congrArg (fun r : Int => vi r) (Option.some.inj H)) rfl (.cons (.tmp rfl (.v _ _ (fun _ => rfl))) .nil)
    · replace H := cf hc H
      refine ev_skip ?_
      refine ev_region ?_
      refine rq rfl rfl (q_add rfl rfl) ?_
      refine rq rfl rfl (q_move rfl) ?_
      refine run_nil ?_
      exact ⟨_, _, w6, H, rfl, shift_mk ⟨⟨_, rfl, (.flat rfl)⟩, ⟨⟨_, rfl, (.flat rfl)⟩, ⟨⟨_, rfl, .rfl⟩, ⟨⟨_, rfl, (.flat rfl)⟩, ⟨⟨_, rfl, (.eq (congrArg (fun n => D.v true (vi n)) (wrap_succ w6 w7)))⟩, trivial⟩⟩⟩⟩⟩ trivial rfl rfl⟩
  · replace H := forL_out hc H
    refine ev_exit ?_
    refine ev_seq ?_
    refine ev_region ?_
    refine rq rfl rfl (q_move rfl) ?_
    refine rq rfl rfl (q_assign rfl) ?_
    refine run_nil ?_
    refine ev_ret ?_
    exact ret_ok [vi 0] (congrArg (fun r : Int => vi r) (Option.some.inj H)) rfl (.cons (.tmp rfl (.v _ _ (fun _ => rfl))) .nil)
def facts_compare_m (a0 : GFact) (a1 : GFact) : Option Int := bd (cmp_Compare_int_m a0.known a1.known) fun x3 => bd (cmp_Compare_int_m a0.no_ a1.no_) fun x4 => bd (cmp_Or_int_m ([x3, x4] : List Int)) fun x5 => some x5
theorem facts_compare_c {a0 : GFact} {a1 : GFact} {r : Int} (H : facts_compare_m a0 a1 = some r) : PureC Try.prog true 58 [GFact.e a0, GFact.e a1] (vi r) := by
  unfold facts_compare_m at H
  refine pure_intro (N := 17) Try.func58 rfl rfl rfl rfl fun C hO => ?_
  refine ev_shift (shift_mk (fs := [(0, .v true (GFact.e a0)), (1, .v true (GFact.e a1))]) (es := []) ⟨⟨_, rfl, (.flat rfl)⟩, ⟨⟨_, rfl, (.flat rfl)⟩, trivial⟩⟩ trivial rfl rfl) ?_
  refine ev_seq ?_
  refine ev_region ?_
  refine re rfl (e_box 2 0 rfl rfl rfl) ?_; rintro _ ⟨b1, rfl⟩
  refine re rfl (e_box 3 0 rfl rfl rfl) ?_; rintro _ ⟨b2, rfl⟩
  refine rq rfl rfl (q_assign rfl) ?_
  refine run_nil ?_
  refine ev_seq ?_
  obtain ⟨x3, x3_h, H⟩ := bd_inv H
  obtain ⟨x4, x4_h, H⟩ := bd_inv H
  obtain ⟨x5, x5_h, H⟩ := bd_inv H
  refine ev_draw rfl (by kernel_rfl) ?_
  refine qq rfl rfl (q_fld_p rfl) ?_
  refine qq rfl rfl (q_load1 rfl rfl rfl) ?_
  refine qq rfl rfl (q_fld_p rfl) ?_
  refine qq rfl rfl (q_load1 rfl rfl rfl) ?_
  refine qq rfl rfl (q_call rfl (.v _ _ (fun e => nomatch e)) (.v rfl (.v rfl ArgsOk.nil)) inferInstance (cmp_Compare_int_c  x3_h)) ?_
  refine qq rfl rfl (q_fld_p rfl) ?_
  refine qq rfl rfl (q_load1 rfl rfl rfl) ?_
  refine qq rfl rfl (q_fld_p rfl) ?_
  refine qq rfl rfl (q_load1 rfl rfl rfl) ?_
  refine qq rfl rfl (q_call rfl (.v _ _ (fun e => nomatch e)) (.v rfl (.v rfl ArgsOk.nil)) inferInstance (cmp_Compare_int_c  x4_h)) ?_
  refine qq rfl rfl (q_buildSlice (z := 1) (xs := List.map vi ([x3, x4] : List Int)) (fl := true) rfl rfl rfl rfl (by simp [V.plain, V.cells, vi, vb]) rfl) ?_
  refine qq rfl rfl (q_call rfl (.v _ _ (fun e => nomatch e)) (.v rfl ArgsOk.nil) inferInstance (cmp_Or_int_c  x5_h)) ?_
  refine qq rfl rfl (q_assign rfl) ?_
  refine qn ?_
  refine ev_ret ?_
  exact ret_ok [vi x5] (congrArg (fun r : Int => vi r) (Option.some.inj H)) rfl (.cons (.tmp rfl (.v _ _ (fun _ => rfl))) .nil)
def facts_Check_m (a0 : List GFact) : Option Int := bd (slices_ContainsFunc_Fact_m a0 (fun y0 => facts_Check_1_m y0)) fun x1 => bif x1 then (some 40) else (gd (decide (0 ≤ min 1 ((a0.length : Nat) : Int))) <| gd (decide ((min 1 ((a0.length : Nat) : Int)).toNat ≤ a0.length)) <| forN 0 (((a0.drop ((min 1 ((a0.length : Nat) : Int)).toNat)).length : Nat) : Int) (fun (k6 : Int) (s4 : Unit) loop5 => bd (idx a0 k6) fun x15 => bd (idx a0 (wr (k6 + 1))) fun x16 => bd (facts_compare_m x15 x16) fun x17 => bif decide (0 ≤ x17) then (some 41) else (loop5 ())) (fun (s4 : Unit) => some 0) ())
theorem facts_Check_c {a0 : List GFact} {r : Int} (H : facts_Check_m a0 = some r) : PureC Try.prog true 39 [V.l 8 (List.map GFact.e a0)] (vi r) := by
  unfold facts_Check_m at H
  refine pure_intro (N := 27) Try.func39 rfl rfl rfl rfl fun C hO => ?_
  refine ev_seq ?_
  refine ev_region ?_
  refine rq rfl rfl (q_assign rfl) ?_
  refine run_nil ?_
  refine ev_seq ?_
  refine ev_seq ?_
  refine ev_region ?_
  refine rq rfl rfl (q_move rfl) ?_
  obtain ⟨x1, x1_h, H⟩ := bd_inv H
  refine rq rfl rfl (q_call rfl (.v _ _ (fun e => nomatch e)) (.v rfl (.v rfl ArgsOk.nil)) inferInstance (slices_ContainsFunc_Fact_c (a1_h := fun _ _ h => facts_Check_1_c h) x1_h)) ?_
  refine run_nil ?_
  refine ev_cond rfl (fun hc => ?_) (fun hc => ?_)
  · replace H := ct hc H
    refine ev_seq ?_
    refine ev_region ?_
    refine rq rfl rfl (q_assign rfl) ?_
    refine run_nil ?_
    refine ev_ret ?_
    exact ret_ok [vi 40] (congrArg (fun r : Int => vi r) (Option.some.inj H)) rfl (.cons (.tmp rfl (.v _ _ (fun _ => rfl))) .nil)
  · replace H := cf hc H
    refine ev_skip ?_
    refine ev_seq ?_
    refine ev_seq ?_
    refine ev_region ?_
    refine rq rfl rfl (q_move rfl) ?_
    refine rq rfl rfl (q_move rfl) ?_
    refine rq rfl rfl (q_len_t rfl) ?_
    refine rq rfl rfl (q_min rfl rfl) ?_
    obtain ⟨w2, H⟩ := gdd_inv H
    obtain ⟨w3, H⟩ := gdd_inv H
    refine rq rfl rfl (q_slice_t0 rfl (.some rfl w2) w3) ?_
    refine rq rfl rfl (q_len_t rfl) ?_
    refine rq rfl rfl (q_move rfl) ?_
    refine run_nil ?_
    refine ev_block ?_
    refine ev_forN H (fun k6 s4 σ' => σ' = mkS [(0, .v false (V.l 8 (List.map GFact.e a0))), (2, .v true (vi 0)), (11, .v true (vi (((a0.drop ((min 1 ((a0.length : Nat) : Int)).toNat)).length : Nat) : Int))), (12, .v true (vi k6))] [] [] (0, false)) ⟨_, rfl, shift_mk ⟨⟨_, rfl, .rfl⟩, ⟨⟨_, rfl, (.flat rfl)⟩, ⟨⟨_, rfl, (.flat rfl)⟩, ⟨⟨_, rfl, .rfl⟩, trivial⟩⟩⟩⟩ trivial rfl rfl⟩ ?_
    rintro n8 k6 s4 _ rfl w9 w10 w11 w12 H
    refine ev_seq ?_
    refine ev_region ?_
    refine rq rfl rfl (q_lss rfl rfl) ?_
    refine run_nil ?_
    refine ev_seq ?_
    refine ev_cond rfl (fun hc => ?_) (fun hc => ?_)
    · obtain ⟨n14, n14_e, w13, H⟩ := forN_in hc w9 H
      refine ev_skip ?_
      refine ev_seq ?_
      refine ev_block ?_
      refine ev_seq ?_
      refine ev_region ?_
      refine rq rfl rfl (q_move rfl) ?_
      refine rq rfl rfl (q_assign rfl) ?_
      refine run_nil ?_
      refine ev_seq ?_
      obtain ⟨x15, x15_h, H⟩ := bd_inv H
      obtain ⟨x16, x16_h, H⟩ := bd_inv H
      obtain ⟨x17, x17_h, H⟩ := bd_inv H
      refine ev_draw rfl (by kernel_rfl) ?_
      refine qq rfl rfl (q_move rfl) ?_
      refine qq rfl rfl (q_move rfl) ?_
      refine qq rfl rfl (q_idx_l rfl rfl (idx_inv x15_h).1 (map_get (idx_inv x15_h).2.1) rfl) ?_
      refine qq rfl rfl (q_load_e rfl rfl rfl) ?_
      refine qq rfl rfl (q_move rfl) ?_
      refine qq rfl rfl (q_move rfl) ?_
      refine qq rfl rfl (q_add rfl rfl) ?_
      refine qq rfl rfl (q_idx_l rfl rfl (idx_inv x16_h).1 (map_get (idx_inv x16_h).2.1) rfl) ?_
      refine qq rfl rfl (q_load_e rfl rfl rfl) ?_
      refine qq rfl rfl (q_call rfl (.v _ _ (fun e => nomatch e)) (.v rfl (.v rfl ArgsOk.nil)) inferInstance (facts_compare_c  x17_h)) ?_
      refine qq rfl rfl (q_geq rfl rfl) ?_
      refine qn ?_
      refine ev_cond rfl (fun hc => ?_) (fun hc => ?_)
      · replace H := ct hc H
        refine ev_seq ?_
        refine ev_region ?_
        refine rq rfl rfl (q_assign rfl) ?_
        refine run_nil ?_
        refine ev_ret ?_
        exact ret_ok [vi 41] (congrArg (fun r : Int => vi r) (Option.some.inj H)) rfl (.cons (.tmp rfl (.v _ _ (fun _ => rfl))) .nil)
      · replace H := cf hc H
        refine ev_skip ?_
        refine ev_region ?_
        refine rq rfl rfl (q_add rfl rfl) ?_
        refine rq rfl rfl (q_move rfl) ?_
        refine run_nil ?_
        exact ⟨_, _, _, n14_e, H, rfl, shift_mk ⟨⟨_, rfl, .rfl⟩, ⟨⟨_, rfl, (.flat rfl)⟩, ⟨⟨_, rfl, (.flat rfl)⟩, ⟨⟨_, rfl, (.eq (congrArg (fun n => D.v true (vi n)) (wrap_succ' (by omega) w13 w12)))⟩, trivial⟩⟩⟩⟩ trivial rfl rfl⟩
    · replace H := forN_out hc w9 H
      refine ev_exit ?_
      refine ev_seq ?_
      refine ev_region ?_
      refine rq rfl rfl (q_assign rfl) ?_
      refine run_nil ?_
      refine ev_ret ?_
      exact ret_ok [vi 0] (congrArg (fun r : Int => vi r) (Option.some.inj H)) rfl (.cons (.tmp rfl (.v _ _ (fun _ => rfl))) .nil)
def stock_right_1_m (a0 : Int) (a1 : Int) : Option Bool := some (bif decide (0 ≤ a0) then decide (a0 ≤ a1) else false)
theorem stock_right_1_c {a0 : Int} {a1 : Int} {r : Bool} (H : stock_right_1_m a0 a1 = some r) : PureC Try.prog true 94 [vi a0, vi a1] (vb r) := by
  unfold stock_right_1_m at H
  refine pure_intro (N := 12) Try.func94 rfl rfl rfl rfl fun C hO => ?_
  refine ev_shift (shift_mk (fs := [(0, .v true (vi a0)), (1, .v true (vi a1))]) (es := []) ⟨⟨_, rfl, (.flat rfl)⟩, ⟨⟨_, rfl, (.flat rfl)⟩, trivial⟩⟩ trivial rfl rfl) ?_
  refine ev_seq ?_
  refine ev_region ?_
  refine rq rfl rfl (q_assign rfl) ?_
  refine run_nil ?_
  refine ev_seq ?_
  refine ev_region ?_
  refine rq rfl rfl (q_move rfl) ?_
  refine rq rfl rfl (q_geq rfl rfl) ?_
  refine rq rfl rfl (q_move rfl) ?_
  refine rqc (l := []) ⟨⟨_, _, _, rfl, rfl, rfl, rfl⟩, rfl, fun hc => q_move rfl, trivial⟩ rfl ?_
  refine rqc (l := []) ⟨⟨_, _, _, rfl, rfl, rfl, rfl⟩, rfl, fun hc => q_move rfl, trivial⟩ rfl ?_
  refine rqc (l := [8, 9]) ⟨⟨_, _, _, rfl, rfl, rfl, rfl⟩, rfl, fun hc => q_leq rfl rfl, ⟨fun h => h, ⟨fun h => h, trivial⟩⟩⟩ rfl ?_
  refine rq rfl rfl (q_pickb rfl rfl rfl (PB.c (fun hp => hp)) PB.v) ?_
  refine rq rfl rfl (q_assign rfl) ?_
  refine run_nil ?_
  refine ev_ret ?_
  exact ret_ok [vb (bif decide (0 ≤ a0) then decide (a0 ≤ a1) else false)] (congrArg (fun r : Bool => vb r) (Option.some.inj H)) rfl (.cons (.tmp rfl (.v _ _ (fun _ => rfl))) .nil)
def stock_right_m (a0 : GLot) : Option Bool := bd (stock_right_1_m a0.item 31) fun x2 => bdc x2 (stock_right_1_m a0.plant 7) fun x3 => bdc (bif bif x2 then x3 else false then decide (1 ≤ a0.amount) else false) (stock_right_1_m a0.expiry 1024) fun x4 => bdc (bif bif bif x2 then x3 else false then decide (1 ≤ a0.amount) else false then x4 else false) (stock_right_1_m a0.state 3) fun x5 => some (bif bif bif bif x2 then x3 else false then decide (1 ≤ a0.amount) else false then x4 else false then x5 else false)
theorem stock_right_c {a0 : GLot} {r : Bool} (H : stock_right_m a0 = some r) : PureC Try.prog true 68 [GLot.e a0] (vb r) := by
  unfold stock_right_m at H
  refine pure_intro (N := 31) Try.func68 rfl rfl rfl rfl fun C hO => ?_
  refine ev_shift (shift_mk (fs := [(0, .v true (GLot.e a0))]) (es := []) ⟨⟨_, rfl, (.flat rfl)⟩, trivial⟩ trivial rfl rfl) ?_
  refine ev_seq ?_
  refine ev_region ?_
  refine re rfl (e_box 1 0 rfl rfl rfl) ?_; rintro _ ⟨b1, rfl⟩
  refine rq rfl rfl (q_assign rfl) ?_
  refine run_nil ?_
  refine ev_seq ?_
  refine ev_region ?_
  refine rq rfl rfl (q_assign rfl) ?_
  refine run_nil ?_
  refine ev_seq ?_
  refine ev_region ?_
  refine rq rfl rfl (q_move rfl) ?_
  refine rq rfl rfl (q_fld_p rfl) ?_
  refine rq rfl rfl (q_load1 rfl rfl rfl) ?_
  obtain ⟨x2, x2_h, H⟩ := bd_inv H
  refine rq rfl rfl (q_call rfl (.v _ _ (fun e => nomatch e)) (.v rfl (.v rfl ArgsOk.nil)) inferInstance (stock_right_1_c  x2_h)) ?_
  refine rq rfl rfl (q_move rfl) ?_
  refine rqc (l := []) ⟨⟨_, _, _, rfl, rfl, rfl, rfl⟩, rfl, fun hc => q_move rfl, trivial⟩ rfl ?_
  refine rqc (l := []) ⟨⟨_, _, _, rfl, rfl, rfl, rfl⟩, rfl, fun hc => q_fld_p rfl, trivial⟩ rfl ?_
  refine rqc (l := [10]) ⟨⟨_, _, _, rfl, rfl, rfl, rfl⟩, rfl, fun hc => q_load1 rfl rfl rfl, ⟨fun h => h, trivial⟩⟩ rfl ?_
  obtain ⟨x3, x3_h, _, H⟩ := bdc_inv H
  refine rqc (l := [9, 11]) ⟨⟨_, _, _, rfl, rfl, rfl, rfl⟩, rfl, fun hc => q_call rfl (.v _ _ (fun e => nomatch e)) (.v rfl (.v rfl ArgsOk.nil)) inferInstance (stock_right_1_c  (x3_h hc)), ⟨fun h => h, ⟨fun h => h, trivial⟩⟩⟩ rfl ?_
  refine rq rfl rfl (q_pickb rfl rfl rfl (PB.c (fun hp => hp)) PB.v) ?_
  refine rq rfl rfl (q_move rfl) ?_
  refine rqc (l := []) ⟨⟨_, _, _, rfl, rfl, rfl, rfl⟩, rfl, fun hc => q_fld_p rfl, trivial⟩ rfl ?_
  refine rqc (l := [15]) ⟨⟨_, _, _, rfl, rfl, rfl, rfl⟩, rfl, fun hc => q_load1 rfl rfl rfl, ⟨fun h => h, trivial⟩⟩ rfl ?_
  refine rqc (l := [16]) ⟨⟨_, _, _, rfl, rfl, rfl, rfl⟩, rfl, fun hc => q_geq rfl rfl, ⟨fun h => h, trivial⟩⟩ rfl ?_
  refine rq rfl rfl (q_pickb rfl rfl rfl (PB.c (fun hp => hp)) PB.v) ?_
  refine rq rfl rfl (q_move rfl) ?_
  refine rqc (l := []) ⟨⟨_, _, _, rfl, rfl, rfl, rfl⟩, rfl, fun hc => q_move rfl, trivial⟩ rfl ?_
  refine rqc (l := []) ⟨⟨_, _, _, rfl, rfl, rfl, rfl⟩, rfl, fun hc => q_fld_p rfl, trivial⟩ rfl ?_
  refine rqc (l := [21]) ⟨⟨_, _, _, rfl, rfl, rfl, rfl⟩, rfl, fun hc => q_load1 rfl rfl rfl, ⟨fun h => h, trivial⟩⟩ rfl ?_
  obtain ⟨x4, x4_h, _, H⟩ := bdc_inv H
  refine rqc (l := [20, 22]) ⟨⟨_, _, _, rfl, rfl, rfl, rfl⟩, rfl, fun hc => q_call rfl (.v _ _ (fun e => nomatch e)) (.v rfl (.v rfl ArgsOk.nil)) inferInstance (stock_right_1_c  (x4_h hc)), ⟨fun h => h, ⟨fun h => h, trivial⟩⟩⟩ rfl ?_
  refine rq rfl rfl (q_pickb rfl rfl rfl (PB.c (fun hp => hp)) PB.v) ?_
  refine rq rfl rfl (q_move rfl) ?_
  refine rqc (l := []) ⟨⟨_, _, _, rfl, rfl, rfl, rfl⟩, rfl, fun hc => q_move rfl, trivial⟩ rfl ?_
  refine rqc (l := []) ⟨⟨_, _, _, rfl, rfl, rfl, rfl⟩, rfl, fun hc => q_fld_p rfl, trivial⟩ rfl ?_
  refine rqc (l := [27]) ⟨⟨_, _, _, rfl, rfl, rfl, rfl⟩, rfl, fun hc => q_load1 rfl rfl rfl, ⟨fun h => h, trivial⟩⟩ rfl ?_
  obtain ⟨x5, x5_h, _, H⟩ := bdc_inv H
  refine rqc (l := [26, 28]) ⟨⟨_, _, _, rfl, rfl, rfl, rfl⟩, rfl, fun hc => q_call rfl (.v _ _ (fun e => nomatch e)) (.v rfl (.v rfl ArgsOk.nil)) inferInstance (stock_right_1_c  (x5_h hc)), ⟨fun h => h, ⟨fun h => h, trivial⟩⟩⟩ rfl ?_
  refine rq rfl rfl (q_pickb rfl rfl rfl (PB.c (fun hp => hp)) PB.v) ?_
  refine rq rfl rfl (q_assign rfl) ?_
  refine run_nil ?_
  refine ev_ret ?_
  exact ret_ok [vb (bif bif bif bif x2 then x3 else false then decide (1 ≤ a0.amount) else false then x4 else false then x5 else false)] (congrArg (fun r : Bool => vb r) (Option.some.inj H)) rfl (.cons (.tmp rfl (.v _ _ (fun _ => rfl))) .nil)
def slices_Clip_Fact_m (a0 : List GFact) : Option (List GFact) := some a0
theorem slices_Clip_Fact_o {a0 : List GFact} {f_a0 : Bool} {r : (List GFact)} (H : slices_Clip_Fact_m a0 = some r) : FnR Try.prog 95 [.v f_a0 (V.l 8 (List.map GFact.e a0))] [] (fun d es' => d = .cl false 8 (List.map GFact.e r) ∧ es' = []) := by
  unfold slices_Clip_Fact_m at H
  refine fnr_intro (N := 9) Try.func95 rfl rfl rfl rfl fun C => ?_
  refine ev_shift (shift_mk (fs := [(0, .v false (V.l 8 (List.map GFact.e a0)))]) (es := []) ⟨⟨_, rfl, .old⟩, trivial⟩ trivial rfl rfl) ?_
  refine ev_seq ?_
  refine ev_region ?_
  refine rq rfl rfl (q_assign rfl) ?_
  refine run_nil ?_
  refine ev_seq ?_
  refine ev_region ?_
  refine rq rfl rfl (q_move rfl) ?_
  refine rq rfl rfl (q_move rfl) ?_
  refine rq rfl rfl (q_len_t rfl) ?_
  refine rq rfl rfl (q_move rfl) ?_
  refine rq rfl rfl (q_len_t rfl) ?_
  refine rq rfl rfl (q_clip rfl rfl rfl) ?_
  refine rq rfl rfl (q_assign rfl) ?_
  refine run_nil ?_
  refine ev_ret ?_
  have hr := Option.some.inj H
  exact retR [.cl false 8 (List.map GFact.e a0)] [] rfl (.cons (.tmp rfl .clo) .nil) ⟨by cases hr; rfl, rfl⟩ trivial
def facts_Add_m (a0 : List GFact) (a1 : GFact) : Option ((List GFact) × Int) := bd (facts_Check_m a0) fun x2 => bif x2 != 0 then (some ([], x2)) else (bd (facts_fits_m a1) fun x3 => bif !x3 then (some ([], 40)) else (bdc (decide (0 < ((a0.length : Nat) : Int))) (idx a0 (wr (((a0.length : Nat) : Int) - 1))) fun x4 => bdc (decide (0 < ((a0.length : Nat) : Int))) (facts_compare_m x4 a1) fun x5 => bif bif decide (0 < ((a0.length : Nat) : Int)) then decide (0 ≤ x5) else false then (some ([], 41)) else (bd (slices_Clip_Fact_m a0) fun x6 => gd (decide ((x6.length + ([a1] : List GFact).length) * 65 ≤ 140737488355328)) <| some (x6 ++ ([a1] : List GFact), 0))))
theorem facts_Add_c {a0 : List GFact} {a1 : GFact} {r : (List GFact) × Int} (H : facts_Add_m a0 a1 = some r) : PureC Try.prog true 70 [V.l 8 (List.map GFact.e a0), GFact.e a1] (V.t [V.l 8 (List.map GFact.e r.1), vi r.2]) := by
  unfold facts_Add_m at H
  refine pure_intro (N := 33) Try.func70 rfl rfl rfl rfl fun C hO => ?_
  refine ev_shift (shift_mk (fs := [(0, .v false (V.l 8 (List.map GFact.e a0))), (1, .v true (GFact.e a1))]) (es := []) ⟨⟨_, rfl, .rfl⟩, ⟨⟨_, rfl, (.flat rfl)⟩, trivial⟩⟩ trivial rfl rfl) ?_
  refine ev_seq ?_
  refine ev_region ?_
  refine re rfl (e_box 3 0 rfl rfl rfl) ?_; rintro _ ⟨b1, rfl⟩
  refine rq rfl rfl (q_assign rfl) ?_
  refine rq rfl rfl (q_assign rfl) ?_
  refine run_nil ?_
  refine ev_seq ?_
  refine ev_seq ?_
  refine ev_region ?_
  refine rq rfl rfl (q_move rfl) ?_
  obtain ⟨x2, x2_h, H⟩ := bd_inv H
  refine rq rfl rfl (q_call rfl (.v _ _ (fun e => nomatch e)) (.v rfl ArgsOk.nil) inferInstance (facts_Check_c  x2_h)) ?_
  refine rq rfl rfl (q_assign rfl) ?_
  refine run_nil ?_
  refine ev_seq ?_
  refine ev_region ?_
  refine rq rfl rfl (q_move rfl) ?_
  refine rq rfl rfl (q_nei rfl rfl) ?_
  refine run_nil ?_
  refine ev_cond rfl (fun hc => ?_) (fun hc => ?_)
  · replace H := ct hc H
    refine ev_seq ?_
    refine ev_region ?_
    refine rq rfl rfl (q_move rfl) ?_
    refine rq rfl rfl (q_assign rfl) ?_
    refine rq rfl rfl (q_assign rfl) ?_
    refine run_nil ?_
    refine ev_ret ?_
    exact ret_ok [V.l 8 (List.map GFact.e []), vi x2] (congrArg (fun r : (List GFact) × Int => V.t [V.l 8 (List.map GFact.e r.1), vi r.2]) (Option.some.inj H)) rfl (.cons (.tmp rfl (.nil _ _)) (.cons (.tmp rfl (.v _ _ (fun _ => rfl))) .nil))
  · replace H := cf hc H
    refine ev_skip ?_
    refine ev_seq ?_
    refine ev_seq ?_
    refine ev_region ?_
    refine rq rfl rfl (q_loadN rfl rfl rfl rfl) ?_
    obtain ⟨x3, x3_h, H⟩ := bd_inv H
    refine rq rfl rfl (q_call rfl (.v _ _ (fun e => nomatch e)) (.v rfl ArgsOk.nil) inferInstance (facts_fits_c  x3_h)) ?_
    refine rq rfl rfl (q_not rfl) ?_
    refine run_nil ?_
    refine ev_cond rfl (fun hc => ?_) (fun hc => ?_)
    · replace H := ct hc H
      refine ev_seq ?_
      refine ev_region ?_
      refine rq rfl rfl (q_assign rfl) ?_
      refine rq rfl rfl (q_assign rfl) ?_
      refine run_nil ?_
      refine ev_ret ?_
      exact ret_ok [V.l 8 (List.map GFact.e []), vi 40] (congrArg (fun r : (List GFact) × Int => V.t [V.l 8 (List.map GFact.e r.1), vi r.2]) (Option.some.inj H)) rfl (.cons (.tmp rfl (.nil _ _)) (.cons (.tmp rfl (.v _ _ (fun _ => rfl))) .nil))
    · replace H := cf hc H
      refine ev_skip ?_
      refine ev_seq ?_
      refine ev_seq ?_
      obtain ⟨x4, x4_h, _, H⟩ := bdc_inv H
      obtain ⟨x5, x5_h, _, H⟩ := bdc_inv H
      refine ev_draw rfl (by kernel_rfl) ?_
      refine qq rfl rfl (q_move rfl) ?_
      refine qq rfl rfl (q_len_t rfl) ?_
      refine qq rfl rfl (q_gtr rfl rfl) ?_
      refine qq rfl rfl (q_move rfl) ?_
      refine qc (l := []) ⟨⟨_, _, _, rfl, rfl, rfl, rfl⟩, rfl, fun hc => q_move rfl, trivial⟩ rfl rfl ?_
      refine qc (l := []) ⟨⟨_, _, _, rfl, rfl, rfl, rfl⟩, rfl, fun hc => q_move rfl, trivial⟩ rfl rfl ?_
      refine qc (l := [19]) ⟨⟨_, _, _, rfl, rfl, rfl, rfl⟩, rfl, fun hc => q_len_t rfl, ⟨fun h => h, trivial⟩⟩ rfl rfl ?_
      refine qc (l := [20]) ⟨⟨_, _, _, rfl, rfl, rfl, rfl⟩, rfl, fun hc => q_sub rfl rfl, ⟨fun h => h, trivial⟩⟩ rfl rfl ?_
      refine qc (l := [18, 21]) ⟨⟨_, _, _, rfl, rfl, rfl, rfl⟩, rfl, fun hc => q_idx_l rfl rfl (idx_inv (x4_h hc)).1 (map_get (idx_inv (x4_h hc)).2.1) rfl, ⟨fun h => h, ⟨fun h => h, trivial⟩⟩⟩ rfl rfl ?_
      refine qc (l := [22]) ⟨⟨_, _, _, rfl, rfl, rfl, rfl⟩, rfl, fun hc => q_load_e rfl rfl rfl, ⟨fun h => h, trivial⟩⟩ rfl rfl ?_
      refine qc (l := []) ⟨⟨_, _, _, rfl, rfl, rfl, rfl⟩, rfl, fun hc => q_loadN rfl rfl rfl rfl, trivial⟩ rfl rfl ?_
      refine qc (l := [23, 24]) ⟨⟨_, _, _, rfl, rfl, rfl, rfl⟩, rfl, fun hc => q_call rfl (.v _ _ (fun e => nomatch e)) (.v rfl (.v rfl ArgsOk.nil)) inferInstance (facts_compare_c  (x5_h hc)), ⟨fun h => h, ⟨fun h => h, trivial⟩⟩⟩ rfl rfl ?_
      refine qc (l := [25]) ⟨⟨_, _, _, rfl, rfl, rfl, rfl⟩, rfl, fun hc => q_geq rfl rfl, ⟨fun h => h, trivial⟩⟩ rfl rfl ?_
      refine qq rfl rfl (q_pickb rfl rfl rfl (PB.c (fun hp => hp)) PB.v) ?_
      refine qn ?_
      refine ev_cond rfl (fun hc => ?_) (fun hc => ?_)
      · replace H := ct hc H
        refine ev_seq ?_
        refine ev_region ?_
        refine rq rfl rfl (q_assign rfl) ?_
        refine rq rfl rfl (q_assign rfl) ?_
        refine run_nil ?_
        refine ev_ret ?_
        exact ret_ok [V.l 8 (List.map GFact.e []), vi 41] (congrArg (fun r : (List GFact) × Int => V.t [V.l 8 (List.map GFact.e r.1), vi r.2]) (Option.some.inj H)) rfl (.cons (.tmp rfl (.nil _ _)) (.cons (.tmp rfl (.v _ _ (fun _ => rfl))) .nil))
      · replace H := cf hc H
        refine ev_skip ?_
        refine ev_seq ?_
        obtain ⟨x6, x6_h, H⟩ := bd_inv H
        obtain ⟨w7, H⟩ := gdd_inv H
        refine ev_drawX (fun i => (assocN [(4, [32])] i).getD []) rfl ?_
        refine xq (r := some _) [] 0 (.start _) rfl (by kernel_rfl) (by kernel_rfl) ⟨rfl, .inl ⟨rfl, Quiet.norm (q_move rfl)⟩⟩ rfl (fun hcl => ?_)
        refine xq (r := some _) [] 1 hcl rfl (by kernel_rfl) (by kernel_rfl) ⟨rfl, .inl ⟨rfl, Quiet.norm (q_callR0 rfl (.v _ _ []) rfl inferInstance (slices_Clip_Fact_o x6_h))⟩⟩ rfl (fun hcl => ?_)
        refine xq (r := some _) [] 2 hcl rfl (by kernel_rfl) (by kernel_rfl) ⟨rfl, .inl ⟨rfl, Quiet.norm (q_loadN rfl rfl rfl rfl)⟩⟩ rfl (fun hcl => ?_)
        refine xq (r := some _) [] 3 hcl rfl (by kernel_rfl) (by kernel_rfl) ⟨rfl, .inl ⟨rfl, Quiet.norm (q_buildSlice (z := 8) (xs := List.map GFact.e ([a1] : List GFact)) (fl := true) rfl rfl rfl rfl (by simp [V.plain, V.cells, GFact.e, vi, vb]) rfl)⟩⟩ rfl (fun hcl => ?_)
        refine xb hcl (l := [4]) (by kernel_rfl) (by simp) (fun i hi hcl => ?_)
        obtain rfl : i = 4 := by simpa using hi
        refine xe rfl (x_appt_cl 32 0 rfl rfl (fun _ => ⟨rfl, rfl⟩) (fun _ => rfl) rfl (by simp) rfl rfl w7 rfl rfl) ?_; rintro _ ⟨q9, rfl⟩
        refine xq (r := some _) [] 5 hcl rfl (by kernel_rfl) (by kernel_rfl) ⟨rfl, .inl ⟨rfl, Quiet.norm (q_assign rfl)⟩⟩ rfl (fun hcl => ?_)
        refine xq (r := some _) [] 6 hcl rfl (by kernel_rfl) (by kernel_rfl) ⟨rfl, .inl ⟨rfl, Quiet.norm (q_assign rfl)⟩⟩ rfl (fun hcl => ?_)
        refine xn (by kernel_rfl) ?_
        refine ev_ret ?_
        exact ret_ok [V.l 8 (List.map GFact.e (x6 ++ ([a1] : List GFact))), vi 0] (congrArg (fun r : (List GFact) × Int => V.t [V.l 8 (List.map GFact.e r.1), vi r.2]) (Option.some.inj H)) rfl (.cons (.tmp rfl (.all rfl (List.length_map _) (els_plain fun _ => ⟨rfl, rfl⟩) (fun _ => rfl))) (.cons (.tmp rfl (.v _ _ (fun _ => rfl))) .nil))
def stock_Put_1_m (a0 : GKey) (a1 : Int) (a2 : GSpan) (a3 : Int) (a4 : GWorld) (a5 : Int) : Option (Int × GWorld) := bif a3 != 0 then (some (a3, a4)) else (jn (fun (p4 : Int) => bd (facts_Add_m a4.facts (⟨a0, a1, a2, a5, p4⟩ : GFact)) fun x5 => some (x5.2, (⟨a4.tables, x5.1⟩ : GWorld))) fun j3 => bdc (decide (0 < ((a4.facts.length : Nat) : Int))) (idx a4.facts (wr (((a4.facts.length : Nat) : Int) - 1))) fun x6 => bif bif decide (0 < ((a4.facts.length : Nat) : Int)) then x6.known == a5 else false then (bd (idx a4.facts (wr (((a4.facts.length : Nat) : Int) - 1))) fun x7 => j3 (wr (x7.no_ + 1))) else (j3 0))
theorem stock_Put_1_c {a0 : GKey} {a1 : Int} {a2 : GSpan} {a3 : Int} {b_a3 : Nat} {a4 : GWorld} {b_a4 : Nat} {a5 : Int} {f_a0 : Bool} {f_a1 : Bool} {f_a2 : Bool} {f_a5 : Bool} {r : Int × GWorld} (H : stock_Put_1_m a0 a1 a2 a3 a4 a5 = some r) : FnR Try.prog 69 [.v f_a0 (GKey.e a0), .v f_a1 (vi a1), .v f_a2 (GSpan.e a2), .p 100360 0 b_a3 0, .p 100440 0 b_a4 0, .v f_a5 (.q (V.cells (vi a5)))] [.e 100360 0 (some (b_a3, 1)) (.row 48 [.v true (vi a3)]), .e 100440 0 (some (b_a4, 11)) (.row 38 [.v false (V.l 8 (List.map GUnit.e a4.tables.source.units)), .v false (V.l 6 (List.map GItem.e a4.tables.source.items)), .v false (V.l 1 (List.map V.s a4.tables.source.plants)), .v false (V.l 4 (List.map GMachine.e a4.tables.source.machines)), .v false (V.l 2 (List.map GOption.e a4.tables.source.options)), .v false (V.l 1 (List.map (fun l => V.l 4 (List.map GCond.e l)) a4.tables.source.forbids)), .v false (V.l 17 (List.map GRecipe.e a4.tables.source.recipes)), .v false (V.l 4 (List.map GSwap.e a4.tables.source.swaps)), .v false (V.l 1 (List.map vi a4.tables.levels)), .v false (V.l 1 (List.map (fun l => V.l 6 (List.map GInst.e l)) a4.tables.codes)), .v false (V.l 8 (List.map GFact.e a4.facts))])] (fun d es' => d = .t [] ∧ es' = [.e 100360 0 (some (b_a3, 1)) (.row 48 [.v true (vi r.1)]), .e 100440 0 (some (b_a4, 11)) (.row 38 [.v false (V.l 8 (List.map GUnit.e r.2.tables.source.units)), .v false (V.l 6 (List.map GItem.e r.2.tables.source.items)), .v false (V.l 1 (List.map V.s r.2.tables.source.plants)), .v false (V.l 4 (List.map GMachine.e r.2.tables.source.machines)), .v false (V.l 2 (List.map GOption.e r.2.tables.source.options)), .v false (V.l 1 (List.map (fun l => V.l 4 (List.map GCond.e l)) r.2.tables.source.forbids)), .v false (V.l 17 (List.map GRecipe.e r.2.tables.source.recipes)), .v false (V.l 4 (List.map GSwap.e r.2.tables.source.swaps)), .v false (V.l 1 (List.map vi r.2.tables.levels)), .v false (V.l 1 (List.map (fun l => V.l 6 (List.map GInst.e l)) r.2.tables.codes)), .v false (V.l 8 (List.map GFact.e r.2.facts))])]) := by
  unfold stock_Put_1_m at H
  refine fnr_intro (N := 50) Try.func69 rfl rfl rfl rfl fun C => ?_
  refine ev_shift (shift_mk (fs := [(0, .v true (GKey.e a0)), (1, .v true (vi a1)), (2, .v true (GSpan.e a2)), (3, .p 100360 0 b_a3 0), (4, .p 100440 0 b_a4 0), (5, .v false (.q (V.cells (vi a5))))]) (es := [.e 100360 0 (some (b_a3, 1)) (.row 48 [.v true (vi a3)]), .e 100440 0 (some (b_a4, 11)) (.row 38 [.v false (V.l 8 (List.map GUnit.e a4.tables.source.units)), .v false (V.l 6 (List.map GItem.e a4.tables.source.items)), .v false (V.l 1 (List.map V.s a4.tables.source.plants)), .v false (V.l 4 (List.map GMachine.e a4.tables.source.machines)), .v false (V.l 2 (List.map GOption.e a4.tables.source.options)), .v false (V.l 1 (List.map (fun l => V.l 4 (List.map GCond.e l)) a4.tables.source.forbids)), .v false (V.l 17 (List.map GRecipe.e a4.tables.source.recipes)), .v false (V.l 4 (List.map GSwap.e a4.tables.source.swaps)), .v false (V.l 1 (List.map vi a4.tables.levels)), .v false (V.l 1 (List.map (fun l => V.l 6 (List.map GInst.e l)) a4.tables.codes)), .v false (V.l 8 (List.map GFact.e a4.facts))])]) ⟨⟨_, rfl, (.flat rfl)⟩, ⟨⟨_, rfl, (.flat rfl)⟩, ⟨⟨_, rfl, (.flat rfl)⟩, ⟨⟨_, rfl, .rfl⟩, ⟨⟨_, rfl, .rfl⟩, ⟨⟨_, rfl, .old⟩, trivial⟩⟩⟩⟩⟩⟩ ⟨(.e rfl), ⟨(.e rfl), trivial⟩⟩ rfl rfl) ?_
  refine ev_seq ?_
  refine ev_region ?_
  refine re rfl (e_box 6 0 rfl rfl rfl) ?_; rintro _ ⟨b1, rfl⟩
  refine re rfl (e_box 8 0 rfl rfl rfl) ?_; rintro _ ⟨b2, rfl⟩
  refine run_nil ?_
  refine ev_seq ?_
  refine ev_seq ?_
  refine ev_region ?_
  refine rq rfl rfl (q_load1 rfl rfl rfl) ?_
  refine rq rfl rfl (q_nei rfl rfl) ?_
  refine run_nil ?_
  refine ev_cond rfl (fun hc => ?_) (fun hc => ?_)
  · replace H := ct hc H
    refine ev_ret ?_
    have hr := Option.some.inj H
    exact retR [] [.e 100360 0 (some (b_a3, 1)) (.row 48 [.v true (vi a3)]), .e 100440 0 (some (b_a4, 11)) (.row 38 [.v false (V.l 8 (List.map GUnit.e a4.tables.source.units)), .v false (V.l 6 (List.map GItem.e a4.tables.source.items)), .v false (V.l 1 (List.map V.s a4.tables.source.plants)), .v false (V.l 4 (List.map GMachine.e a4.tables.source.machines)), .v false (V.l 2 (List.map GOption.e a4.tables.source.options)), .v false (V.l 1 (List.map (fun l => V.l 4 (List.map GCond.e l)) a4.tables.source.forbids)), .v false (V.l 17 (List.map GRecipe.e a4.tables.source.recipes)), .v false (V.l 4 (List.map GSwap.e a4.tables.source.swaps)), .v false (V.l 1 (List.map vi a4.tables.levels)), .v false (V.l 1 (List.map (fun l => V.l 6 (List.map GInst.e l)) a4.tables.codes)), .v false (V.l 8 (List.map GFact.e a4.facts))])] rfl .nil ⟨by cases hr; rfl, by cases hr; rfl⟩ ⟨(.w rfl (.cons (.flat rfl) .nil)), ⟨(.w rfl (.cons .old (.cons .old (.cons .old (.cons .old (.cons .old (.cons .old (.cons .old (.cons .old (.cons .old (.cons .old (.cons .old .nil)))))))))))), trivial⟩⟩
  · replace H := cf hc H
    refine ev_skip ?_
    refine ev_seq ?_
    refine ev_region ?_
    refine rq rfl rfl (q_assign rfl) ?_
    refine run_nil ?_
    obtain ⟨j3, j3_e, H⟩ := jn_inv H
    refine ev_join (fun σ' => ∃ (p4 : Int), j3 p4 = some r ∧ σ' = mkS [(1, .v true (vi a1)), (3, .p 100360 0 b_a3 0), (4, .p 100440 0 b_a4 0), (5, .v false (.q (V.cells (vi a5)))), (6, .p 6 0 b1 0), (8, .p 8 0 b2 0), (9, .v true (vi p4))] [.e 100360 0 (some (b_a3, 1)) (.row 48 [.v true (vi a3)]), .e 100440 0 (some (b_a4, 11)) (.row 38 [.v false (V.l 8 (List.map GUnit.e a4.tables.source.units)), .v false (V.l 6 (List.map GItem.e a4.tables.source.items)), .v false (V.l 1 (List.map V.s a4.tables.source.plants)), .v false (V.l 4 (List.map GMachine.e a4.tables.source.machines)), .v false (V.l 2 (List.map GOption.e a4.tables.source.options)), .v false (V.l 1 (List.map (fun l => V.l 4 (List.map GCond.e l)) a4.tables.source.forbids)), .v false (V.l 17 (List.map GRecipe.e a4.tables.source.recipes)), .v false (V.l 4 (List.map GSwap.e a4.tables.source.swaps)), .v false (V.l 1 (List.map vi a4.tables.levels)), .v false (V.l 1 (List.map (fun l => V.l 6 (List.map GInst.e l)) a4.tables.codes)), .v false (V.l 8 (List.map GFact.e a4.facts))]), .e 6 0 (some (b1, 3)) (.row 68 [.v true (vi a0.kind), .v true (vi a0.subject), .v true (vi a0.object)]), .e 8 0 (some (b2, 2)) (.row 86 [.v true (vi a2.from_), .v true (vi a2.to_)])] [] (0, false)) ?_ ?_
    · rintro _ ⟨p4, H, rfl⟩
      subst j3_e
      refine ev_region ?_
      refine rq rfl rfl (q_fld_p rfl) ?_
      refine rq rfl rfl (q_load1 rfl rfl rfl) ?_
      refine rq rfl rfl (q_loadN rfl rfl rfl rfl) ?_
      refine rq rfl rfl (q_move rfl) ?_
      refine rq rfl rfl (q_loadN rfl rfl rfl rfl) ?_
      refine rq rfl rfl (q_load1_q rfl) ?_
      refine rq rfl rfl (q_move rfl) ?_
      refine rq rfl rfl (q_build rfl (.v rfl rfl rfl rfl rfl (.v rfl rfl rfl rfl rfl (.v rfl rfl rfl rfl rfl (.v rfl rfl rfl rfl rfl (.v rfl rfl rfl rfl rfl .nil)))))) ?_
      obtain ⟨x5, x5_h, H⟩ := bd_inv H
      refine rq rfl rfl (q_call rfl (.v _ _ (fun e => nomatch e)) (.v rfl (.v rfl ArgsOk.nil)) inferInstance (facts_Add_c  x5_h)) ?_
      refine rq rfl rfl (q_move rfl) ?_
      refine rq rfl rfl (q_extract rfl rfl) ?_
      refine rq rfl rfl (q_extract rfl rfl) ?_
      refine rq rfl rfl (q_fld_p rfl) ?_
      refine re rfl (e_store1 rfl rfl rfl rfl rfl (Nat.le_of_ble_eq_true rfl) rfl) ?_; rintro _ rfl
      refine re rfl (e_store1 rfl rfl rfl rfl rfl (Nat.le_of_ble_eq_true rfl) rfl) ?_; rintro _ rfl
      refine run_nil ?_
      have hr := Option.some.inj H
      exact endR [] [.e 100360 0 (some (b_a3, 1)) (.row 48 [.v true (vi x5.2)]), .e 100440 0 (some (b_a4, 11)) (.row 38 [.v false (V.l 8 (List.map GUnit.e ((⟨a4.tables, x5.1⟩ : GWorld).tables.source.units))), .v false (V.l 6 (List.map GItem.e ((⟨a4.tables, x5.1⟩ : GWorld).tables.source.items))), .v false (V.l 1 (List.map V.s ((⟨a4.tables, x5.1⟩ : GWorld).tables.source.plants))), .v false (V.l 4 (List.map GMachine.e ((⟨a4.tables, x5.1⟩ : GWorld).tables.source.machines))), .v false (V.l 2 (List.map GOption.e ((⟨a4.tables, x5.1⟩ : GWorld).tables.source.options))), .v false (V.l 1 (List.map (fun l => V.l 4 (List.map GCond.e l)) ((⟨a4.tables, x5.1⟩ : GWorld).tables.source.forbids))), .v false (V.l 17 (List.map GRecipe.e ((⟨a4.tables, x5.1⟩ : GWorld).tables.source.recipes))), .v false (V.l 4 (List.map GSwap.e ((⟨a4.tables, x5.1⟩ : GWorld).tables.source.swaps))), .v false (V.l 1 (List.map vi ((⟨a4.tables, x5.1⟩ : GWorld).tables.levels))), .v false (V.l 1 (List.map (fun l => V.l 6 (List.map GInst.e l)) ((⟨a4.tables, x5.1⟩ : GWorld).tables.codes))), .v false (V.l 8 (List.map GFact.e ((⟨a4.tables, x5.1⟩ : GWorld).facts)))])] rfl .nil ⟨by cases hr; rfl, by cases hr; rfl⟩ ⟨(.w rfl (.cons (.flat rfl) .nil)), ⟨(.w rfl (.cons .old (.cons .old (.cons .old (.cons .old (.cons .old (.cons .old (.cons .old (.cons .old (.cons .old (.cons .old (.cons .old .nil)))))))))))), trivial⟩⟩
    · clear j3_e
      refine ev_seq ?_
      refine ev_region ?_
      refine rq rfl rfl (q_fld_p rfl) ?_
      refine rq rfl rfl (q_load1 rfl rfl rfl) ?_
      refine rq rfl rfl (q_len_t rfl) ?_
      refine rq rfl rfl (q_assign rfl) ?_
      refine run_nil ?_
      refine ev_seq ?_
      obtain ⟨x6, x6_h, _, H⟩ := bdc_inv H
      refine ev_draw rfl (by kernel_rfl) ?_
      refine qq rfl rfl (q_move rfl) ?_
      refine qq rfl rfl (q_gtr rfl rfl) ?_
      refine qq rfl rfl (q_move rfl) ?_
      refine qc (l := []) ⟨⟨_, _, _, rfl, rfl, rfl, rfl⟩, rfl, fun hc => q_fld_p rfl, trivial⟩ rfl rfl ?_
      refine qc (l := [19]) ⟨⟨_, _, _, rfl, rfl, rfl, rfl⟩, rfl, fun hc => q_load1 rfl rfl rfl, ⟨fun h => h, trivial⟩⟩ rfl rfl ?_
      refine qc (l := []) ⟨⟨_, _, _, rfl, rfl, rfl, rfl⟩, rfl, fun hc => q_move rfl, trivial⟩ rfl rfl ?_
      refine qc (l := [21]) ⟨⟨_, _, _, rfl, rfl, rfl, rfl⟩, rfl, fun hc => q_sub rfl rfl, ⟨fun h => h, trivial⟩⟩ rfl rfl ?_
      refine qc (l := [20, 22]) ⟨⟨_, _, _, rfl, rfl, rfl, rfl⟩, rfl, fun hc => q_idx_l rfl rfl (idx_inv (x6_h hc)).1 (map_get (idx_inv (x6_h hc)).2.1) rfl, ⟨fun h => h, ⟨fun h => h, trivial⟩⟩⟩ rfl rfl ?_
      refine qc (l := [23]) ⟨⟨_, _, _, rfl, rfl, rfl, rfl⟩, rfl, fun hc => q_fld_q rfl, ⟨fun h => h, trivial⟩⟩ rfl rfl ?_
      refine qc (l := [24]) ⟨⟨_, _, _, rfl, rfl, rfl, rfl⟩, rfl, fun hc => q_load1_q rfl, ⟨fun h => h, trivial⟩⟩ rfl rfl ?_
      refine qc (l := []) ⟨⟨_, _, _, rfl, rfl, rfl, rfl⟩, rfl, fun hc => q_load1_q rfl, trivial⟩ rfl rfl ?_
      refine qc (l := [25, 26]) ⟨⟨_, _, _, rfl, rfl, rfl, rfl⟩, rfl, fun hc => q_eqi rfl rfl, ⟨fun h => h, ⟨fun h => h, trivial⟩⟩⟩ rfl rfl ?_
      refine qq rfl rfl (q_pickb rfl rfl rfl (PB.c (fun hp => hp)) PB.v) ?_
      refine qn ?_
      refine ev_cond rfl (fun hc => ?_) (fun hc => ?_)
      · replace H := ct hc H
        refine ev_region ?_
        refine rq rfl rfl (q_fld_p rfl) ?_
        refine rq rfl rfl (q_load1 rfl rfl rfl) ?_
        refine rq rfl rfl (q_move rfl) ?_
        refine rq rfl rfl (q_sub rfl rfl) ?_
        obtain ⟨x7, x7_h, H⟩ := bd_inv H
        refine rq rfl rfl (q_idx_l rfl rfl (idx_inv x7_h).1 (map_get (idx_inv x7_h).2.1) rfl) ?_
        refine rq rfl rfl (q_fld_q rfl) ?_
        refine rq rfl rfl (q_load1_q rfl) ?_
        refine rq rfl rfl (q_add rfl rfl) ?_
        refine rq rfl rfl (q_assign rfl) ?_
        refine run_nil ?_
        exact ⟨_, ⟨wr (x7.no_ + 1), H, rfl⟩, shift_mk ⟨⟨_, rfl, (.flat rfl)⟩, ⟨⟨_, rfl, .rfl⟩, ⟨⟨_, rfl, .rfl⟩, ⟨⟨_, rfl, .rfl⟩, ⟨⟨_, rfl, .rfl⟩, ⟨⟨_, rfl, .rfl⟩, ⟨⟨_, rfl, (.flat rfl)⟩, trivial⟩⟩⟩⟩⟩⟩⟩ ⟨(.w rfl (.cons (.flat rfl) .nil)), ⟨(.e rfl), ⟨(.w rfl (.cons (.flat rfl) (.cons (.flat rfl) (.cons (.flat rfl) .nil)))), ⟨(.w rfl (.cons (.flat rfl) (.cons (.flat rfl) .nil))), trivial⟩⟩⟩⟩ rfl rfl⟩
      · replace H := cf hc H
        refine ev_skip ?_
        exact ⟨_, ⟨0, H, rfl⟩, shift_mk ⟨⟨_, rfl, (.flat rfl)⟩, ⟨⟨_, rfl, .rfl⟩, ⟨⟨_, rfl, .rfl⟩, ⟨⟨_, rfl, .rfl⟩, ⟨⟨_, rfl, .rfl⟩, ⟨⟨_, rfl, .rfl⟩, ⟨⟨_, rfl, (.flat rfl)⟩, trivial⟩⟩⟩⟩⟩⟩⟩ ⟨(.w rfl (.cons (.flat rfl) .nil)), ⟨(.e rfl), ⟨(.w rfl (.cons (.flat rfl) (.cons (.flat rfl) (.cons (.flat rfl) .nil)))), ⟨(.w rfl (.cons (.flat rfl) (.cons (.flat rfl) .nil))), trivial⟩⟩⟩⟩ rfl rfl⟩
end Bf
