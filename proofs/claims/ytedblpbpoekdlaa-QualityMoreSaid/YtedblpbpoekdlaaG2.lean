import Derived.Test.YtedblpbpoekdlaaG1
import Derived.Test.YtedblpbpoekdlaaF28
namespace Bf
open Go Go.RowKit Go.Proofs
attribute [local irreducible] Quiet Eff RunS Ev PureC Shift RunQ RetQ RetR SeqQ
set_option linter.unusedVariables false
set_option maxRecDepth 4000
structure GstockLooker where
  w : GWorld
  day : Int
  known : Int
  reads : List GRead
  deriving Inhabited
def GstockLooker.e (x : GstockLooker) : V := .st [V.l 8 (List.map GUnit.e x.w.tables.source.units), V.l 6 (List.map GItem.e x.w.tables.source.items), V.l 1 (List.map V.s x.w.tables.source.plants), V.l 4 (List.map GMachine.e x.w.tables.source.machines), V.l 2 (List.map GOption.e x.w.tables.source.options), V.l 1 (List.map (fun l => V.l 4 (List.map GCond.e l)) x.w.tables.source.forbids), V.l 17 (List.map GRecipe.e x.w.tables.source.recipes), V.l 4 (List.map GSwap.e x.w.tables.source.swaps), V.l 1 (List.map vi x.w.tables.levels), V.l 1 (List.map (fun l => V.l 6 (List.map GInst.e l)) x.w.tables.codes), V.l 8 (List.map GFact.e x.w.facts), vi x.day, vi x.known, V.l 5 (List.map GRead.e x.reads)]
structure GLot where
  no_ : Int
  item : Int
  plant : Int
  amount : Int
  expiry : Int
  state : Int
  deriving Inhabited, DecidableEq
def GLot.e (x : GLot) : V := .st [vi x.no_, vi x.item, vi x.plant, vi x.amount, vi x.expiry, vi x.state]
structure GPoint where
  day : Int
  value : Int
  deriving Inhabited, DecidableEq
def GPoint.e (x : GPoint) : V := .st [vi x.day, vi x.value]
structure GCertificate where
  lot : Int
  results : List GPoint
  good : Bool
  deriving Inhabited, DecidableEq
def GCertificate.e (x : GCertificate) : V := .st [vi x.lot, V.l 2 (List.map GPoint.e x.results), vb x.good]
def GPoint.eqb (x y : GPoint) : Bool := (x.day == y.day && (x.value == y.value && true))
def stock_looker_at_m (a0 : GstockLooker) (a1 : GKey) : Option (Int × Bool × GstockLooker) := gd (decide ((a0.reads.length + ([(⟨a1, a0.day, wr (a0.day + 1)⟩ : GRead)] : List GRead).length) * 41 ≤ 140737488355328)) <| bd (facts_At_m a0.w.facts a1 a0.day a0.known) fun x5 => some (x5.1, x5.2, (⟨a0.w, a0.day, a0.known, a0.reads ++ ([(⟨a1, a0.day, wr (a0.day + 1)⟩ : GRead)] : List GRead)⟩ : GstockLooker))
theorem stock_looker_at_c {a0 : GstockLooker} {b_a0 : Nat} {q0_a0 : Pl} {a1 : GKey} {f_a1 : Bool} {r : Int × Bool × GstockLooker} (H : stock_looker_at_m a0 a1 = some r) : FnR Try.prog 88 [.p 7000 0 b_a0 0, .v f_a1 (GKey.e a1)] [.e 7000 0 (some (b_a0, 14)) (.row 115 [.v false (V.l 8 (List.map GUnit.e a0.w.tables.source.units)), .v false (V.l 6 (List.map GItem.e a0.w.tables.source.items)), .v false (V.l 1 (List.map V.s a0.w.tables.source.plants)), .v false (V.l 4 (List.map GMachine.e a0.w.tables.source.machines)), .v false (V.l 2 (List.map GOption.e a0.w.tables.source.options)), .v false (V.l 1 (List.map (fun l => V.l 4 (List.map GCond.e l)) a0.w.tables.source.forbids)), .v false (V.l 17 (List.map GRecipe.e a0.w.tables.source.recipes)), .v false (V.l 4 (List.map GSwap.e a0.w.tables.source.swaps)), .v false (V.l 1 (List.map vi a0.w.tables.levels)), .v false (V.l 1 (List.map (fun l => V.l 6 (List.map GInst.e l)) a0.w.tables.codes)), .v false (V.l 8 (List.map GFact.e a0.w.facts)), .v true (vi a0.day), .v true (vi a0.known), .o 7004 0 q0_a0 5 0 a0.reads.length]), .e 7004 0 q0_a0 (.row 100 (els true (List.map GRead.e a0.reads)))] (fun d es' => ∃ (q0_a0' : Pl), d = .t [.v true (vi r.1), .v true (vb r.2.1)] ∧ es' = [.e 7000 0 (some (b_a0, 14)) (.row 115 [.v false (V.l 8 (List.map GUnit.e r.2.2.w.tables.source.units)), .v false (V.l 6 (List.map GItem.e r.2.2.w.tables.source.items)), .v false (V.l 1 (List.map V.s r.2.2.w.tables.source.plants)), .v false (V.l 4 (List.map GMachine.e r.2.2.w.tables.source.machines)), .v false (V.l 2 (List.map GOption.e r.2.2.w.tables.source.options)), .v false (V.l 1 (List.map (fun l => V.l 4 (List.map GCond.e l)) r.2.2.w.tables.source.forbids)), .v false (V.l 17 (List.map GRecipe.e r.2.2.w.tables.source.recipes)), .v false (V.l 4 (List.map GSwap.e r.2.2.w.tables.source.swaps)), .v false (V.l 1 (List.map vi r.2.2.w.tables.levels)), .v false (V.l 1 (List.map (fun l => V.l 6 (List.map GInst.e l)) r.2.2.w.tables.codes)), .v false (V.l 8 (List.map GFact.e r.2.2.w.facts)), .v true (vi r.2.2.day), .v true (vi r.2.2.known), .o 7004 0 q0_a0' 5 0 r.2.2.reads.length]), .e 7004 0 q0_a0' (.row 100 (els true (List.map GRead.e r.2.2.reads)))]) := by
  unfold stock_looker_at_m at H
  refine fnr_intro (N := 43) Try.func88 rfl rfl rfl rfl fun C => ?_
  refine ev_shift (shift_mk (fs := [(0, .p 7000 0 b_a0 0), (1, .v true (GKey.e a1))]) (es := [.e 7000 0 (some (b_a0, 14)) (.row 115 [.v false (V.l 8 (List.map GUnit.e a0.w.tables.source.units)), .v false (V.l 6 (List.map GItem.e a0.w.tables.source.items)), .v false (V.l 1 (List.map V.s a0.w.tables.source.plants)), .v false (V.l 4 (List.map GMachine.e a0.w.tables.source.machines)), .v false (V.l 2 (List.map GOption.e a0.w.tables.source.options)), .v false (V.l 1 (List.map (fun l => V.l 4 (List.map GCond.e l)) a0.w.tables.source.forbids)), .v false (V.l 17 (List.map GRecipe.e a0.w.tables.source.recipes)), .v false (V.l 4 (List.map GSwap.e a0.w.tables.source.swaps)), .v false (V.l 1 (List.map vi a0.w.tables.levels)), .v false (V.l 1 (List.map (fun l => V.l 6 (List.map GInst.e l)) a0.w.tables.codes)), .v false (V.l 8 (List.map GFact.e a0.w.facts)), .v true (vi a0.day), .v true (vi a0.known), .o 7004 0 q0_a0 5 0 a0.reads.length]), .e 7004 0 q0_a0 (.row 100 (els true (List.map GRead.e a0.reads)))]) ⟨⟨_, rfl, .rfl⟩, ⟨⟨_, rfl, (.flat rfl)⟩, trivial⟩⟩ ⟨(.e rfl), ⟨(.e rfl), trivial⟩⟩ rfl rfl) ?_
  refine ev_seq ?_
  refine ev_region ?_
  refine re rfl (e_box 3 0 rfl rfl rfl) ?_; rintro _ ⟨b1, rfl⟩
  refine rq rfl rfl (q_assign rfl) ?_
  refine rq rfl rfl (q_assign rfl) ?_
  refine run_nil ?_
  refine ev_seq ?_
  obtain ⟨w2, H⟩ := gdd_inv H
  refine ev_drawX (fun i => (assocN [(17, [7004]), (20, [7000])] i).getD []) rfl ?_
  refine xq (r := some _) [7004] 0 (.start _) rfl (by kernel_rfl) (by kernel_rfl) ⟨rfl, .inl ⟨rfl, Quiet.norm (q_move rfl)⟩⟩ rfl (fun hcl => ?_)
  refine xq (r := some _) [] 1 hcl rfl (by kernel_rfl) (by kernel_rfl) ⟨rfl, .inl ⟨rfl, Quiet.norm (q_move rfl)⟩⟩ rfl (fun hcl => ?_)
  refine xq (r := some _) [] 2 hcl rfl (by kernel_rfl) (by kernel_rfl) ⟨rfl, .inl ⟨rfl, Quiet.norm (q_nil rfl)⟩⟩ rfl (fun hcl => ?_)
  refine xq (r := some _) [] 3 hcl rfl (by kernel_rfl) (by kernel_rfl) ⟨rfl, .inl ⟨rfl, Quiet.norm (q_fld_p rfl)⟩⟩ rfl (fun hcl => ?_)
  refine xq (r := some _) [] 4 hcl rfl (by kernel_rfl) (by kernel_rfl) ⟨rfl, .inl ⟨rfl, Quiet.norm (q_load1 rfl rfl rfl)⟩⟩ rfl (fun hcl => ?_)
  refine xq (r := some _) [] 5 hcl rfl (by kernel_rfl) (by kernel_rfl) ⟨rfl, .inl ⟨rfl, Quiet.norm (q_loadN rfl rfl rfl rfl)⟩⟩ rfl (fun hcl => ?_)
  refine xq (r := some _) [] 6 hcl rfl (by kernel_rfl) (by kernel_rfl) ⟨rfl, .inl ⟨rfl, Quiet.norm (q_move rfl)⟩⟩ rfl (fun hcl => ?_)
  refine xq (r := some _) [] 7 hcl rfl (by kernel_rfl) (by kernel_rfl) ⟨rfl, .inl ⟨rfl, Quiet.norm (q_nil rfl)⟩⟩ rfl (fun hcl => ?_)
  refine xq (r := some _) [] 8 hcl rfl (by kernel_rfl) (by kernel_rfl) ⟨rfl, .inl ⟨rfl, Quiet.norm (q_fld_p rfl)⟩⟩ rfl (fun hcl => ?_)
  refine xq (r := some _) [] 9 hcl rfl (by kernel_rfl) (by kernel_rfl) ⟨rfl, .inl ⟨rfl, Quiet.norm (q_load1 rfl rfl rfl)⟩⟩ rfl (fun hcl => ?_)
  refine xq (r := some _) [] 10 hcl rfl (by kernel_rfl) (by kernel_rfl) ⟨rfl, .inl ⟨rfl, Quiet.norm (q_move rfl)⟩⟩ rfl (fun hcl => ?_)
  refine xq (r := some _) [] 11 hcl rfl (by kernel_rfl) (by kernel_rfl) ⟨rfl, .inl ⟨rfl, Quiet.norm (q_nil rfl)⟩⟩ rfl (fun hcl => ?_)
  refine xq (r := some _) [] 12 hcl rfl (by kernel_rfl) (by kernel_rfl) ⟨rfl, .inl ⟨rfl, Quiet.norm (q_fld_p rfl)⟩⟩ rfl (fun hcl => ?_)
  refine xq (r := some _) [] 13 hcl rfl (by kernel_rfl) (by kernel_rfl) ⟨rfl, .inl ⟨rfl, Quiet.norm (q_load1 rfl rfl rfl)⟩⟩ rfl (fun hcl => ?_)
  refine xq (r := some _) [] 14 hcl rfl (by kernel_rfl) (by kernel_rfl) ⟨rfl, .inl ⟨rfl, Quiet.norm (q_add rfl rfl)⟩⟩ rfl (fun hcl => ?_)
  refine xq (r := some _) [] 15 hcl rfl (by kernel_rfl) (by kernel_rfl) ⟨rfl, .inl ⟨rfl, Quiet.norm (q_build rfl (.v rfl rfl rfl rfl rfl (.v rfl rfl rfl rfl rfl (.v rfl rfl rfl rfl rfl .nil))))⟩⟩ rfl (fun hcl => ?_)
  refine xq (r := some _) [] 16 hcl rfl (by kernel_rfl) (by kernel_rfl) ⟨rfl, .inl ⟨rfl, Quiet.norm (q_buildSlice (z := 5) (xs := List.map GRead.e ([(⟨a1, a0.day, wr (a0.day + 1)⟩ : GRead)] : List GRead)) (fl := true) rfl rfl rfl rfl (by simp [V.plain, V.cells, GRead.e, vi, vb]) rfl)⟩⟩ rfl (fun hcl => ?_)
  refine xb hcl (l := [17]) (by kernel_rfl) (by simp) (fun i hi hcl => ?_)
  obtain rfl : i = 17 := by simpa using hi
  refine xe rfl (x_appt rfl rfl rfl (fun _ => ⟨rfl, rfl⟩) rfl rfl rfl w2 rfl rfl) ?_; rintro _ ⟨q4, rfl⟩
  refine xq (r := some _) [] 18 hcl rfl (by kernel_rfl) (by kernel_rfl) ⟨rfl, .inl ⟨rfl, Quiet.norm (q_nil rfl)⟩⟩ rfl (fun hcl => ?_)
  refine xq (r := some _) [] 19 hcl rfl (by kernel_rfl) (by kernel_rfl) ⟨rfl, .inl ⟨rfl, Quiet.norm (q_fld_p rfl)⟩⟩ rfl (fun hcl => ?_)
  refine xb hcl (l := [20]) (by kernel_rfl) (by simp) (fun i hi hcl => ?_)
  obtain rfl : i = 20 := by simpa using hi
  refine xe rfl (x_store1 rfl rfl rfl rfl rfl (Nat.le_of_ble_eq_true rfl) rfl rfl) ?_; rintro _ rfl
  refine xn (by kernel_rfl) ?_
  refine ev_seq ?_
  obtain ⟨x5, x5_h, H⟩ := bd_inv H
  refine ev_draw rfl (by kernel_rfl) ?_
  refine qq rfl rfl (q_move rfl) ?_
  refine qq rfl rfl (q_nil rfl) ?_
  refine qq rfl rfl (q_fld_p rfl) ?_
  refine qq rfl rfl (q_fld_p rfl) ?_
  refine qq rfl rfl (q_load1 rfl rfl rfl) ?_
  refine qq rfl rfl (q_loadN rfl rfl rfl rfl) ?_
  refine qq rfl rfl (q_move rfl) ?_
  refine qq rfl rfl (q_nil rfl) ?_
  refine qq rfl rfl (q_fld_p rfl) ?_
  refine qq rfl rfl (q_load1 rfl rfl rfl) ?_
  refine qq rfl rfl (q_move rfl) ?_
  refine qq rfl rfl (q_nil rfl) ?_
  refine qq rfl rfl (q_fld_p rfl) ?_
  refine qq rfl rfl (q_load1 rfl rfl rfl) ?_
  refine qq rfl rfl (q_call rfl (.v _ _ (fun e => nomatch e)) (.v rfl (.v rfl (.v rfl (.v rfl ArgsOk.nil)))) inferInstance (facts_At_c  x5_h)) ?_
  refine qq rfl rfl (q_extract rfl rfl) ?_
  refine qq rfl rfl (q_extract rfl rfl) ?_
  refine qq rfl rfl (q_assign rfl) ?_
  refine qq rfl rfl (q_assign rfl) ?_
  refine qn ?_
  refine ev_ret ?_
  have hr := Option.some.inj H
  exact retR [.v true (vi x5.1), .v true (vb x5.2)] [.e 7000 0 (some (b_a0, 14)) (.row 115 [.v false (V.l 8 (List.map GUnit.e ((⟨a0.w, a0.day, a0.known, a0.reads ++ ([(⟨a1, a0.day, wr (a0.day + 1)⟩ : GRead)] : List GRead)⟩ : GstockLooker).w.tables.source.units))), .v false (V.l 6 (List.map GItem.e ((⟨a0.w, a0.day, a0.known, a0.reads ++ ([(⟨a1, a0.day, wr (a0.day + 1)⟩ : GRead)] : List GRead)⟩ : GstockLooker).w.tables.source.items))), .v false (V.l 1 (List.map V.s ((⟨a0.w, a0.day, a0.known, a0.reads ++ ([(⟨a1, a0.day, wr (a0.day + 1)⟩ : GRead)] : List GRead)⟩ : GstockLooker).w.tables.source.plants))), .v false (V.l 4 (List.map GMachine.e ((⟨a0.w, a0.day, a0.known, a0.reads ++ ([(⟨a1, a0.day, wr (a0.day + 1)⟩ : GRead)] : List GRead)⟩ : GstockLooker).w.tables.source.machines))), .v false (V.l 2 (List.map GOption.e ((⟨a0.w, a0.day, a0.known, a0.reads ++ ([(⟨a1, a0.day, wr (a0.day + 1)⟩ : GRead)] : List GRead)⟩ : GstockLooker).w.tables.source.options))), .v false (V.l 1 (List.map (fun l => V.l 4 (List.map GCond.e l)) ((⟨a0.w, a0.day, a0.known, a0.reads ++ ([(⟨a1, a0.day, wr (a0.day + 1)⟩ : GRead)] : List GRead)⟩ : GstockLooker).w.tables.source.forbids))), .v false (V.l 17 (List.map GRecipe.e ((⟨a0.w, a0.day, a0.known, a0.reads ++ ([(⟨a1, a0.day, wr (a0.day + 1)⟩ : GRead)] : List GRead)⟩ : GstockLooker).w.tables.source.recipes))), .v false (V.l 4 (List.map GSwap.e ((⟨a0.w, a0.day, a0.known, a0.reads ++ ([(⟨a1, a0.day, wr (a0.day + 1)⟩ : GRead)] : List GRead)⟩ : GstockLooker).w.tables.source.swaps))), .v false (V.l 1 (List.map vi ((⟨a0.w, a0.day, a0.known, a0.reads ++ ([(⟨a1, a0.day, wr (a0.day + 1)⟩ : GRead)] : List GRead)⟩ : GstockLooker).w.tables.levels))), .v false (V.l 1 (List.map (fun l => V.l 6 (List.map GInst.e l)) ((⟨a0.w, a0.day, a0.known, a0.reads ++ ([(⟨a1, a0.day, wr (a0.day + 1)⟩ : GRead)] : List GRead)⟩ : GstockLooker).w.tables.codes))), .v false (V.l 8 (List.map GFact.e ((⟨a0.w, a0.day, a0.known, a0.reads ++ ([(⟨a1, a0.day, wr (a0.day + 1)⟩ : GRead)] : List GRead)⟩ : GstockLooker).w.facts))), .v true (vi ((⟨a0.w, a0.day, a0.known, a0.reads ++ ([(⟨a1, a0.day, wr (a0.day + 1)⟩ : GRead)] : List GRead)⟩ : GstockLooker).day)), .v true (vi ((⟨a0.w, a0.day, a0.known, a0.reads ++ ([(⟨a1, a0.day, wr (a0.day + 1)⟩ : GRead)] : List GRead)⟩ : GstockLooker).known)), .o 7004 0 q4 5 0 (((⟨a0.w, a0.day, a0.known, a0.reads ++ ([(⟨a1, a0.day, wr (a0.day + 1)⟩ : GRead)] : List GRead)⟩ : GstockLooker).reads).length)]), .e 7004 0 q4 (.row 100 (els true (List.map GRead.e ((⟨a0.w, a0.day, a0.known, a0.reads ++ ([(⟨a1, a0.day, wr (a0.day + 1)⟩ : GRead)] : List GRead)⟩ : GstockLooker).reads))))] rfl (.cons (.tmp rfl (.flat rfl)) (.cons (.tmp rfl (.flat rfl)) .nil)) ⟨q4, by cases hr; rfl, by cases hr; rfl⟩ ⟨(.w rfl (.cons .old (.cons .old (.cons .old (.cons .old (.cons .old (.cons .old (.cons .old (.cons .old (.cons .old (.cons .old (.cons .old (.cons (.flat rfl) (.cons (.flat rfl) (.cons .rfl .nil))))))))))))))), ⟨(.e rfl), trivial⟩⟩
def stock_looker_many_m (a0 : GstockLooker) : Option (Int × GstockLooker) := bd (stock_head_m) fun x1 => bd (stock_looker_at_m a0 x1) fun x2 => some (max 0 (min x2.1 1024), x2.2.2)
theorem stock_looker_many_c {a0 : GstockLooker} {b_a0 : Nat} {q0_a0 : Pl}  {r : Int × GstockLooker} (H : stock_looker_many_m a0 = some r) : FnR Try.prog 55 [.p 7000 0 b_a0 0] [.e 7000 0 (some (b_a0, 14)) (.row 115 [.v false (V.l 8 (List.map GUnit.e a0.w.tables.source.units)), .v false (V.l 6 (List.map GItem.e a0.w.tables.source.items)), .v false (V.l 1 (List.map V.s a0.w.tables.source.plants)), .v false (V.l 4 (List.map GMachine.e a0.w.tables.source.machines)), .v false (V.l 2 (List.map GOption.e a0.w.tables.source.options)), .v false (V.l 1 (List.map (fun l => V.l 4 (List.map GCond.e l)) a0.w.tables.source.forbids)), .v false (V.l 17 (List.map GRecipe.e a0.w.tables.source.recipes)), .v false (V.l 4 (List.map GSwap.e a0.w.tables.source.swaps)), .v false (V.l 1 (List.map vi a0.w.tables.levels)), .v false (V.l 1 (List.map (fun l => V.l 6 (List.map GInst.e l)) a0.w.tables.codes)), .v false (V.l 8 (List.map GFact.e a0.w.facts)), .v true (vi a0.day), .v true (vi a0.known), .o 7004 0 q0_a0 5 0 a0.reads.length]), .e 7004 0 q0_a0 (.row 100 (els true (List.map GRead.e a0.reads)))] (fun d es' => ∃ (q0_a0' : Pl), d = .v true (vi r.1) ∧ es' = [.e 7000 0 (some (b_a0, 14)) (.row 115 [.v false (V.l 8 (List.map GUnit.e r.2.w.tables.source.units)), .v false (V.l 6 (List.map GItem.e r.2.w.tables.source.items)), .v false (V.l 1 (List.map V.s r.2.w.tables.source.plants)), .v false (V.l 4 (List.map GMachine.e r.2.w.tables.source.machines)), .v false (V.l 2 (List.map GOption.e r.2.w.tables.source.options)), .v false (V.l 1 (List.map (fun l => V.l 4 (List.map GCond.e l)) r.2.w.tables.source.forbids)), .v false (V.l 17 (List.map GRecipe.e r.2.w.tables.source.recipes)), .v false (V.l 4 (List.map GSwap.e r.2.w.tables.source.swaps)), .v false (V.l 1 (List.map vi r.2.w.tables.levels)), .v false (V.l 1 (List.map (fun l => V.l 6 (List.map GInst.e l)) r.2.w.tables.codes)), .v false (V.l 8 (List.map GFact.e r.2.w.facts)), .v true (vi r.2.day), .v true (vi r.2.known), .o 7004 0 q0_a0' 5 0 r.2.reads.length]), .e 7004 0 q0_a0' (.row 100 (els true (List.map GRead.e r.2.reads)))]) := by
  unfold stock_looker_many_m at H
  refine fnr_intro (N := 14) Try.func55 rfl rfl rfl rfl fun C => ?_
  refine ev_shift (shift_mk (fs := [(0, .p 7000 0 b_a0 0)]) (es := [.e 7000 0 (some (b_a0, 14)) (.row 115 [.v false (V.l 8 (List.map GUnit.e a0.w.tables.source.units)), .v false (V.l 6 (List.map GItem.e a0.w.tables.source.items)), .v false (V.l 1 (List.map V.s a0.w.tables.source.plants)), .v false (V.l 4 (List.map GMachine.e a0.w.tables.source.machines)), .v false (V.l 2 (List.map GOption.e a0.w.tables.source.options)), .v false (V.l 1 (List.map (fun l => V.l 4 (List.map GCond.e l)) a0.w.tables.source.forbids)), .v false (V.l 17 (List.map GRecipe.e a0.w.tables.source.recipes)), .v false (V.l 4 (List.map GSwap.e a0.w.tables.source.swaps)), .v false (V.l 1 (List.map vi a0.w.tables.levels)), .v false (V.l 1 (List.map (fun l => V.l 6 (List.map GInst.e l)) a0.w.tables.codes)), .v false (V.l 8 (List.map GFact.e a0.w.facts)), .v true (vi a0.day), .v true (vi a0.known), .o 7004 0 q0_a0 5 0 a0.reads.length]), .e 7004 0 q0_a0 (.row 100 (els true (List.map GRead.e a0.reads)))]) ⟨⟨_, rfl, .rfl⟩, trivial⟩ ⟨(.e rfl), ⟨(.e rfl), trivial⟩⟩ rfl rfl) ?_
  refine ev_seq ?_
  refine ev_region ?_
  refine rq rfl rfl (q_assign rfl) ?_
  refine run_nil ?_
  refine ev_seq ?_
  refine ev_region ?_
  refine rq rfl rfl (q_move rfl) ?_
  obtain ⟨x1, x1_h, H⟩ := bd_inv H
  refine rq rfl rfl (q_call rfl (.v _ _ (fun e => nomatch e)) ArgsOk.nil inferInstance (stock_head_c  x1_h)) ?_
  obtain ⟨x2, x2_h, H⟩ := bd_inv H
  refine re rfl (e_callR [7000, 7004] rfl (.v _ _ []) rfl inferInstance (stock_looker_at_c  x2_h) ⟨(.w rfl (.cons .old (.cons .old (.cons .old (.cons .old (.cons .old (.cons .old (.cons .old (.cons .old (.cons .old (.cons .old (.cons .old (.cons (.flat rfl) (.cons (.flat rfl) (.cons .rfl .nil))))))))))))))), ⟨(.e rfl), trivial⟩⟩ rfl rfl) ?_; rintro _ ⟨_, _, ⟨q3, rfl, rfl⟩, rfl⟩
  refine rq rfl rfl (q_move rfl) ?_
  refine rq rfl rfl (q_extractD rfl rfl) ?_
  refine rq rfl rfl (q_extractD rfl rfl) ?_
  refine rq rfl rfl (q_assign rfl) ?_
  refine rq rfl rfl (q_assign rfl) ?_
  refine run_nil ?_
  refine ev_seq ?_
  refine ev_region ?_
  refine rq rfl rfl (q_move rfl) ?_
  refine rq rfl rfl (q_min rfl rfl) ?_
  refine rq rfl rfl (q_max rfl rfl) ?_
  refine rq rfl rfl (q_assign rfl) ?_
  refine run_nil ?_
  refine ev_ret ?_
  have hr := Option.some.inj H
  exact retR [.v true (vi (max 0 (min x2.1 1024)))] [.e 7000 0 (some (b_a0, 14)) (.row 115 [.v false (V.l 8 (List.map GUnit.e x2.2.2.w.tables.source.units)), .v false (V.l 6 (List.map GItem.e x2.2.2.w.tables.source.items)), .v false (V.l 1 (List.map V.s x2.2.2.w.tables.source.plants)), .v false (V.l 4 (List.map GMachine.e x2.2.2.w.tables.source.machines)), .v false (V.l 2 (List.map GOption.e x2.2.2.w.tables.source.options)), .v false (V.l 1 (List.map (fun l => V.l 4 (List.map GCond.e l)) x2.2.2.w.tables.source.forbids)), .v false (V.l 17 (List.map GRecipe.e x2.2.2.w.tables.source.recipes)), .v false (V.l 4 (List.map GSwap.e x2.2.2.w.tables.source.swaps)), .v false (V.l 1 (List.map vi x2.2.2.w.tables.levels)), .v false (V.l 1 (List.map (fun l => V.l 6 (List.map GInst.e l)) x2.2.2.w.tables.codes)), .v false (V.l 8 (List.map GFact.e x2.2.2.w.facts)), .v true (vi x2.2.2.day), .v true (vi x2.2.2.known), .o 7004 0 q3 5 0 x2.2.2.reads.length]), .e 7004 0 q3 (.row 100 (els true (List.map GRead.e x2.2.2.reads)))] rfl (.cons (.tmp rfl (.flat rfl)) .nil) ⟨q3, by cases hr; rfl, by cases hr; rfl⟩ ⟨(.w rfl (.cons .old (.cons .old (.cons .old (.cons .old (.cons .old (.cons .old (.cons .old (.cons .old (.cons .old (.cons .old (.cons .old (.cons (.flat rfl) (.cons (.flat rfl) (.cons .rfl .nil))))))))))))))), ⟨(.e rfl), trivial⟩⟩

set_option maxHeartbeats 4000000 in
theorem stock_fields_1_c {b o : Nat} : PureC Try.prog true 103 [rawp b o] (rawp b (o + 1)) := by
  refine pure_intro (N := 6) Try.func103 rfl rfl rfl rfl fun C hO => ?_
  refine ev_seq ?_
  refine ev_region ?_
  refine rq rfl rfl (q_assign rfl) ?_
  refine run_nil ?_
  refine ev_seq ?_
  refine ev_region ?_
  refine rq rfl rfl (q_move rfl) ?_
  refine rq rfl rfl (q_nil_raw rfl) ?_
  refine rq rfl rfl (q_fld_raw rfl) ?_
  refine rq rfl rfl (q_assign rfl) ?_
  refine run_nil ?_
  refine ev_ret ?_
  exact ret_ok [rawp b (o + 1)] rfl rfl (.cons (.tmp rfl (.v _ _ (fun _ => rfl))) .nil)
theorem stock_fields_2_c {b o : Nat} : PureC Try.prog true 104 [rawp b o] (rawp b (o + 2)) := by
  refine pure_intro (N := 6) Try.func104 rfl rfl rfl rfl fun C hO => ?_
  refine ev_seq ?_
  refine ev_region ?_
  refine rq rfl rfl (q_assign rfl) ?_
  refine run_nil ?_
  refine ev_seq ?_
  refine ev_region ?_
  refine rq rfl rfl (q_move rfl) ?_
  refine rq rfl rfl (q_nil_raw rfl) ?_
  refine rq rfl rfl (q_fld_raw rfl) ?_
  refine rq rfl rfl (q_assign rfl) ?_
  refine run_nil ?_
  refine ev_ret ?_
  exact ret_ok [rawp b (o + 2)] rfl rfl (.cons (.tmp rfl (.v _ _ (fun _ => rfl))) .nil)
theorem stock_fields_3_c {b o : Nat} : PureC Try.prog true 105 [rawp b o] (rawp b (o + 3)) := by
  refine pure_intro (N := 6) Try.func105 rfl rfl rfl rfl fun C hO => ?_
  refine ev_seq ?_
  refine ev_region ?_
  refine rq rfl rfl (q_assign rfl) ?_
  refine run_nil ?_
  refine ev_seq ?_
  refine ev_region ?_
  refine rq rfl rfl (q_move rfl) ?_
  refine rq rfl rfl (q_nil_raw rfl) ?_
  refine rq rfl rfl (q_fld_raw rfl) ?_
  refine rq rfl rfl (q_assign rfl) ?_
  refine run_nil ?_
  refine ev_ret ?_
  exact ret_ok [rawp b (o + 3)] rfl rfl (.cons (.tmp rfl (.v _ _ (fun _ => rfl))) .nil)
theorem stock_fields_4_c {b o : Nat} : PureC Try.prog true 106 [rawp b o] (rawp b (o + 4)) := by
  refine pure_intro (N := 6) Try.func106 rfl rfl rfl rfl fun C hO => ?_
  refine ev_seq ?_
  refine ev_region ?_
  refine rq rfl rfl (q_assign rfl) ?_
  refine run_nil ?_
  refine ev_seq ?_
  refine ev_region ?_
  refine rq rfl rfl (q_move rfl) ?_
  refine rq rfl rfl (q_nil_raw rfl) ?_
  refine rq rfl rfl (q_fld_raw rfl) ?_
  refine rq rfl rfl (q_assign rfl) ?_
  refine run_nil ?_
  refine ev_ret ?_
  exact ret_ok [rawp b (o + 4)] rfl rfl (.cons (.tmp rfl (.v _ _ (fun _ => rfl))) .nil)
theorem stock_fields_5_c {b o : Nat} : PureC Try.prog true 107 [rawp b o] (rawp b (o + 5)) := by
  refine pure_intro (N := 6) Try.func107 rfl rfl rfl rfl fun C hO => ?_
  refine ev_seq ?_
  refine ev_region ?_
  refine rq rfl rfl (q_assign rfl) ?_
  refine run_nil ?_
  refine ev_seq ?_
  refine ev_region ?_
  refine rq rfl rfl (q_move rfl) ?_
  refine rq rfl rfl (q_nil_raw rfl) ?_
  refine rq rfl rfl (q_fld_raw rfl) ?_
  refine rq rfl rfl (q_assign rfl) ?_
  refine run_nil ?_
  refine ev_ret ?_
  exact ret_ok [rawp b (o + 5)] rfl rfl (.cons (.tmp rfl (.v _ _ (fun _ => rfl))) .nil)
theorem stock_fields_c : PureC Try.prog true 97 [] (V.l 1 [V.c 103 [], V.c 104 [], V.c 105 [], V.c 106 [], V.c 107 []]) := by
  refine pure_intro (N := 2) Try.func97 rfl rfl rfl rfl fun C hO => ?_
  refine ev_seq ?_
  refine ev_region ?_
  refine rq rfl rfl (q_assign rfl) ?_
  refine run_nil ?_
  refine ev_seq ?_
  refine ev_region ?_
  refine rq rfl rfl (q_buildSlice (z := 1) (xs := [V.c 103 [], V.c 104 [], V.c 105 [], V.c 106 [], V.c 107 []]) (fl := true) rfl rfl rfl rfl (by simp [V.plain, V.cells]) rfl) ?_
  refine rq rfl rfl (q_assign rfl) ?_
  refine run_nil ?_
  refine ev_ret ?_
  exact ret_ok [V.l 1 [V.c 103 [], V.c 104 [], V.c 105 [], V.c 106 [], V.c 107 []]] rfl rfl (.cons (.tmp rfl (.v _ _ (fun _ => rfl))) .nil)
theorem stock_keys_c {b o : Nat} : PureC Try.prog true 71 [rawp b o] (V.c 96 [.q [rawp b o]]) := by
  refine pure_intro (N := 4) Try.func71 rfl rfl rfl rfl fun C hO => ?_
  refine ev_shift (shift_mk (fs := [(0, .v true (rawp b o))]) (es := []) ⟨⟨_, rfl, (.trans (.of_rawp (k := 0) (i := 0)) .rawp)⟩, trivial⟩ trivial rfl rfl) ?_
  refine ev_seq ?_
  refine ev_region ?_
  refine re rfl (e_box 1 0 rfl rfl rfl) ?_; rintro _ ⟨b1, rfl⟩
  refine rq rfl rfl (q_assign rfl) ?_
  refine run_nil ?_
  refine ev_seq ?_
  refine ev_shift (shift_frzb (f := true) 1 [rawp b o] rfl rfl (.cons .rfl .nil)) ?_
  refine ev_region ?_
  refine rq rfl rfl (q_func (.v rfl .nil)) ?_
  refine rq rfl rfl (q_assign rfl) ?_
  refine run_nil ?_
  refine ev_ret ?_
  exact ret_ok [V.c 96 [.q [rawp b o]]] rfl rfl (.cons (.tmp rfl (.v _ _ (fun _ => rfl))) .nil)
def stock_keys_els (b o : Nat) (no : Int) : List (List V) := [[GKey.e ⟨1, no, 0⟩, rawp b (o + 1)], [GKey.e ⟨1, no, 1⟩, rawp b (o + 2)], [GKey.e ⟨1, no, 2⟩, rawp b (o + 3)], [GKey.e ⟨1, no, 3⟩, rawp b (o + 4)], [GKey.e ⟨1, no, 4⟩, rawp b (o + 5)]]
theorem stock_keys_1_c {b o : Nat} {no : Int} : SeqCR Try.prog (RdI b (o + 0) .i64 no) 96 [.q [rawp b o]] (stock_keys_els b o no) := by
  refine seq_introR (N := 25) Try.func96 rfl rfl rfl rfl fun l is hNN hO hY hRd => ?_
  refine ev_shift (shift_rd (ki := 1) (ii := 0) hRd rfl rfl) ?_
  refine ev_seq ?_
  refine ev_region ?_
  refine rq rfl rfl (q_call rfl (.v _ _ (fun e => nomatch e)) .nil inferInstance stock_fields_c) ?_
  refine rq rfl rfl (q_len_l rfl) ?_
  refine rq rfl rfl (q_move rfl) ?_
  refine run_nil ?_
  refine ev_block ?_
  refine ev_loop (fun n σ' => ∃ i : Nat, i < 6 ∧ n = 6 - i ∧ σ' = mkS [(0, .v false (.raw (.func (.yield l) #[] #[]))), (1, .v false (.q [rawp b (o + 0)])), (5, .v true (.l 1 [V.c 103 [], V.c 104 [], V.c 105 [], V.c 106 [], V.c 107 []])), (6, .v true (vi 5)), (7, .v true (vi (i : Int)))] [.e 1 0 none (.rd b (o + 0) .i64 no)] [] (i, false)) 6 ⟨_, ⟨0, by decide, rfl, rfl⟩, shift_mk ⟨⟨_, rfl, .rfl⟩, ⟨_, rfl, .rfl⟩, ⟨_, rfl, .rfl⟩, ⟨_, rfl, .rfl⟩, ⟨_, rfl, .rfl⟩, trivial⟩ ⟨(.e rfl), trivial⟩ rfl rfl⟩ ?_
  rintro n _ ⟨i, hi, hn, rfl⟩
  match i, hi with
  | 0, _ =>
    refine ev_seq ?_
    refine ev_region ?_
    refine rq rfl rfl (q_lss rfl rfl) ?_
    refine run_nil ?_
    refine ev_seq ?_
    refine ev_condt rfl ?_
    refine ev_skip ?_
    refine ev_seq ?_
    refine ev_block ?_
    refine ev_seq ?_
    refine ev_region ?_
    refine rq rfl rfl (q_move rfl) ?_
    refine rq rfl rfl (q_idx_l rfl rfl (by decide) rfl rfl) ?_
    refine rq rfl rfl (q_load1_q rfl) ?_
    refine rq rfl rfl (q_assign rfl) ?_
    refine rq rfl rfl (q_assign rfl) ?_
    refine run_nil ?_
    refine ev_seq ?_
    refine ev_drawt 10 rfl (by kernel_rfl) ?_
    refine qq rfl rfl (q_move rfl) ?_
    refine qq rfl rfl (q_load1_q rfl) ?_
    refine qq rfl rfl (q_nil_raw rfl) ?_
    refine qq rfl rfl (q_fld_raw rfl) ?_
    refine qq rfl rfl (q_load_rd rfl (ki := 1) (ii := 0) rfl) ?_
    refine qq rfl rfl (q_move rfl) ?_
    refine qq rfl rfl (q_build rfl (.v rfl rfl rfl rfl rfl (.v rfl rfl rfl rfl rfl (.v rfl rfl rfl rfl rfl .nil)))) ?_
    refine qq rfl rfl (q_move rfl) ?_
    refine qq rfl rfl (q_load1_q rfl) ?_
    refine qq rfl rfl (q_call rfl (.v _ _ (fun e => nomatch e)) (.v rfl .nil) inferInstance stock_fields_1_c) ?_
    refine qn ?_
    refine run_yields hY rfl rfl rfl (.v rfl (.v rfl .nil)) rfl rfl ?_ ?_
    · refine run_shift (shift_rd (ki := 1) (ii := 0) hRd rfl rfl) ?_
      refine rq rfl rfl (q_not rfl) ?_
      refine run_nil ?_
      refine ev_condf rfl ?_
      refine ev_skip ?_
      refine ev_region ?_
      refine rq rfl rfl (q_add rfl rfl) ?_
      refine rq rfl rfl (q_move rfl) ?_
      refine run_nil ?_
      exact ⟨6 - 1, _, by omega, ⟨1, by decide, rfl, rfl⟩, shift_mk ⟨⟨_, rfl, .rfl⟩, ⟨_, rfl, .rfl⟩, ⟨_, rfl, .rfl⟩, ⟨_, rfl, .rfl⟩, ⟨_, rfl, .rfl⟩, trivial⟩ ⟨(.e rfl), trivial⟩ rfl rfl⟩
    · refine rq rfl rfl (q_not rfl) ?_
      refine run_nil ?_
      refine ev_condt rfl ?_
      refine ev_ret ?_
      exact seq_stop (.inl rfl) rfl rfl
  | 1, _ =>
    refine ev_seq ?_
    refine ev_region ?_
    refine rq rfl rfl (q_lss rfl rfl) ?_
    refine run_nil ?_
    refine ev_seq ?_
    refine ev_condt rfl ?_
    refine ev_skip ?_
    refine ev_seq ?_
    refine ev_block ?_
    refine ev_seq ?_
    refine ev_region ?_
    refine rq rfl rfl (q_move rfl) ?_
    refine rq rfl rfl (q_idx_l rfl rfl (by decide) rfl rfl) ?_
    refine rq rfl rfl (q_load1_q rfl) ?_
    refine rq rfl rfl (q_assign rfl) ?_
    refine rq rfl rfl (q_assign rfl) ?_
    refine run_nil ?_
    refine ev_seq ?_
    refine ev_drawt 10 rfl (by kernel_rfl) ?_
    refine qq rfl rfl (q_move rfl) ?_
    refine qq rfl rfl (q_load1_q rfl) ?_
    refine qq rfl rfl (q_nil_raw rfl) ?_
    refine qq rfl rfl (q_fld_raw rfl) ?_
    refine qq rfl rfl (q_load_rd rfl (ki := 1) (ii := 0) rfl) ?_
    refine qq rfl rfl (q_move rfl) ?_
    refine qq rfl rfl (q_build rfl (.v rfl rfl rfl rfl rfl (.v rfl rfl rfl rfl rfl (.v rfl rfl rfl rfl rfl .nil)))) ?_
    refine qq rfl rfl (q_move rfl) ?_
    refine qq rfl rfl (q_load1_q rfl) ?_
    refine qq rfl rfl (q_call rfl (.v _ _ (fun e => nomatch e)) (.v rfl .nil) inferInstance stock_fields_2_c) ?_
    refine qn ?_
    refine run_yields hY rfl rfl rfl (.v rfl (.v rfl .nil)) rfl rfl ?_ ?_
    · refine run_shift (shift_rd (ki := 1) (ii := 0) hRd rfl rfl) ?_
      refine rq rfl rfl (q_not rfl) ?_
      refine run_nil ?_
      refine ev_condf rfl ?_
      refine ev_skip ?_
      refine ev_region ?_
      refine rq rfl rfl (q_add rfl rfl) ?_
      refine rq rfl rfl (q_move rfl) ?_
      refine run_nil ?_
      exact ⟨6 - 2, _, by omega, ⟨2, by decide, rfl, rfl⟩, shift_mk ⟨⟨_, rfl, .rfl⟩, ⟨_, rfl, .rfl⟩, ⟨_, rfl, .rfl⟩, ⟨_, rfl, .rfl⟩, ⟨_, rfl, .rfl⟩, trivial⟩ ⟨(.e rfl), trivial⟩ rfl rfl⟩
    · refine rq rfl rfl (q_not rfl) ?_
      refine run_nil ?_
      refine ev_condt rfl ?_
      refine ev_ret ?_
      exact seq_stop (.inl rfl) rfl rfl
  | 2, _ =>
    refine ev_seq ?_
    refine ev_region ?_
    refine rq rfl rfl (q_lss rfl rfl) ?_
    refine run_nil ?_
    refine ev_seq ?_
    refine ev_condt rfl ?_
    refine ev_skip ?_
    refine ev_seq ?_
    refine ev_block ?_
    refine ev_seq ?_
    refine ev_region ?_
    refine rq rfl rfl (q_move rfl) ?_
    refine rq rfl rfl (q_idx_l rfl rfl (by decide) rfl rfl) ?_
    refine rq rfl rfl (q_load1_q rfl) ?_
    refine rq rfl rfl (q_assign rfl) ?_
    refine rq rfl rfl (q_assign rfl) ?_
    refine run_nil ?_
    refine ev_seq ?_
    refine ev_drawt 10 rfl (by kernel_rfl) ?_
    refine qq rfl rfl (q_move rfl) ?_
    refine qq rfl rfl (q_load1_q rfl) ?_
    refine qq rfl rfl (q_nil_raw rfl) ?_
    refine qq rfl rfl (q_fld_raw rfl) ?_
    refine qq rfl rfl (q_load_rd rfl (ki := 1) (ii := 0) rfl) ?_
    refine qq rfl rfl (q_move rfl) ?_
    refine qq rfl rfl (q_build rfl (.v rfl rfl rfl rfl rfl (.v rfl rfl rfl rfl rfl (.v rfl rfl rfl rfl rfl .nil)))) ?_
    refine qq rfl rfl (q_move rfl) ?_
    refine qq rfl rfl (q_load1_q rfl) ?_
    refine qq rfl rfl (q_call rfl (.v _ _ (fun e => nomatch e)) (.v rfl .nil) inferInstance stock_fields_3_c) ?_
    refine qn ?_
    refine run_yields hY rfl rfl rfl (.v rfl (.v rfl .nil)) rfl rfl ?_ ?_
    · refine run_shift (shift_rd (ki := 1) (ii := 0) hRd rfl rfl) ?_
      refine rq rfl rfl (q_not rfl) ?_
      refine run_nil ?_
      refine ev_condf rfl ?_
      refine ev_skip ?_
      refine ev_region ?_
      refine rq rfl rfl (q_add rfl rfl) ?_
      refine rq rfl rfl (q_move rfl) ?_
      refine run_nil ?_
      exact ⟨6 - 3, _, by omega, ⟨3, by decide, rfl, rfl⟩, shift_mk ⟨⟨_, rfl, .rfl⟩, ⟨_, rfl, .rfl⟩, ⟨_, rfl, .rfl⟩, ⟨_, rfl, .rfl⟩, ⟨_, rfl, .rfl⟩, trivial⟩ ⟨(.e rfl), trivial⟩ rfl rfl⟩
    · refine rq rfl rfl (q_not rfl) ?_
      refine run_nil ?_
      refine ev_condt rfl ?_
      refine ev_ret ?_
      exact seq_stop (.inl rfl) rfl rfl
  | 3, _ =>
    refine ev_seq ?_
    refine ev_region ?_
    refine rq rfl rfl (q_lss rfl rfl) ?_
    refine run_nil ?_
    refine ev_seq ?_
    refine ev_condt rfl ?_
    refine ev_skip ?_
    refine ev_seq ?_
    refine ev_block ?_
    refine ev_seq ?_
    refine ev_region ?_
    refine rq rfl rfl (q_move rfl) ?_
    refine rq rfl rfl (q_idx_l rfl rfl (by decide) rfl rfl) ?_
    refine rq rfl rfl (q_load1_q rfl) ?_
    refine rq rfl rfl (q_assign rfl) ?_
    refine rq rfl rfl (q_assign rfl) ?_
    refine run_nil ?_
    refine ev_seq ?_
    refine ev_drawt 10 rfl (by kernel_rfl) ?_
    refine qq rfl rfl (q_move rfl) ?_
    refine qq rfl rfl (q_load1_q rfl) ?_
    refine qq rfl rfl (q_nil_raw rfl) ?_
    refine qq rfl rfl (q_fld_raw rfl) ?_
    refine qq rfl rfl (q_load_rd rfl (ki := 1) (ii := 0) rfl) ?_
    refine qq rfl rfl (q_move rfl) ?_
    refine qq rfl rfl (q_build rfl (.v rfl rfl rfl rfl rfl (.v rfl rfl rfl rfl rfl (.v rfl rfl rfl rfl rfl .nil)))) ?_
    refine qq rfl rfl (q_move rfl) ?_
    refine qq rfl rfl (q_load1_q rfl) ?_
    refine qq rfl rfl (q_call rfl (.v _ _ (fun e => nomatch e)) (.v rfl .nil) inferInstance stock_fields_4_c) ?_
    refine qn ?_
    refine run_yields hY rfl rfl rfl (.v rfl (.v rfl .nil)) rfl rfl ?_ ?_
    · refine run_shift (shift_rd (ki := 1) (ii := 0) hRd rfl rfl) ?_
      refine rq rfl rfl (q_not rfl) ?_
      refine run_nil ?_
      refine ev_condf rfl ?_
      refine ev_skip ?_
      refine ev_region ?_
      refine rq rfl rfl (q_add rfl rfl) ?_
      refine rq rfl rfl (q_move rfl) ?_
      refine run_nil ?_
      exact ⟨6 - 4, _, by omega, ⟨4, by decide, rfl, rfl⟩, shift_mk ⟨⟨_, rfl, .rfl⟩, ⟨_, rfl, .rfl⟩, ⟨_, rfl, .rfl⟩, ⟨_, rfl, .rfl⟩, ⟨_, rfl, .rfl⟩, trivial⟩ ⟨(.e rfl), trivial⟩ rfl rfl⟩
    · refine rq rfl rfl (q_not rfl) ?_
      refine run_nil ?_
      refine ev_condt rfl ?_
      refine ev_ret ?_
      exact seq_stop (.inl rfl) rfl rfl
  | 4, _ =>
    refine ev_seq ?_
    refine ev_region ?_
    refine rq rfl rfl (q_lss rfl rfl) ?_
    refine run_nil ?_
    refine ev_seq ?_
    refine ev_condt rfl ?_
    refine ev_skip ?_
    refine ev_seq ?_
    refine ev_block ?_
    refine ev_seq ?_
    refine ev_region ?_
    refine rq rfl rfl (q_move rfl) ?_
    refine rq rfl rfl (q_idx_l rfl rfl (by decide) rfl rfl) ?_
    refine rq rfl rfl (q_load1_q rfl) ?_
    refine rq rfl rfl (q_assign rfl) ?_
    refine rq rfl rfl (q_assign rfl) ?_
    refine run_nil ?_
    refine ev_seq ?_
    refine ev_drawt 10 rfl (by kernel_rfl) ?_
    refine qq rfl rfl (q_move rfl) ?_
    refine qq rfl rfl (q_load1_q rfl) ?_
    refine qq rfl rfl (q_nil_raw rfl) ?_
    refine qq rfl rfl (q_fld_raw rfl) ?_
    refine qq rfl rfl (q_load_rd rfl (ki := 1) (ii := 0) rfl) ?_
    refine qq rfl rfl (q_move rfl) ?_
    refine qq rfl rfl (q_build rfl (.v rfl rfl rfl rfl rfl (.v rfl rfl rfl rfl rfl (.v rfl rfl rfl rfl rfl .nil)))) ?_
    refine qq rfl rfl (q_move rfl) ?_
    refine qq rfl rfl (q_load1_q rfl) ?_
    refine qq rfl rfl (q_call rfl (.v _ _ (fun e => nomatch e)) (.v rfl .nil) inferInstance stock_fields_5_c) ?_
    refine qn ?_
    refine run_yields hY rfl rfl rfl (.v rfl (.v rfl .nil)) rfl rfl ?_ ?_
    · refine run_shift (shift_rd (ki := 1) (ii := 0) hRd rfl rfl) ?_
      refine rq rfl rfl (q_not rfl) ?_
      refine run_nil ?_
      refine ev_condf rfl ?_
      refine ev_skip ?_
      refine ev_region ?_
      refine rq rfl rfl (q_add rfl rfl) ?_
      refine rq rfl rfl (q_move rfl) ?_
      refine run_nil ?_
      exact ⟨6 - 5, _, by omega, ⟨5, by decide, rfl, rfl⟩, shift_mk ⟨⟨_, rfl, .rfl⟩, ⟨_, rfl, .rfl⟩, ⟨_, rfl, .rfl⟩, ⟨_, rfl, .rfl⟩, ⟨_, rfl, .rfl⟩, trivial⟩ ⟨(.e rfl), trivial⟩ rfl rfl⟩
    · refine rq rfl rfl (q_not rfl) ?_
      refine run_nil ?_
      refine ev_condt rfl ?_
      refine ev_ret ?_
      exact seq_stop (.inl rfl) rfl rfl
  | 5, _ =>
    refine ev_seq ?_
    refine ev_region ?_
    refine rq rfl rfl (q_lss rfl rfl) ?_
    refine run_nil ?_
    refine ev_seq ?_
    refine ev_condf rfl ?_
    refine ev_exit ?_
    exact seq_full (.inr rfl) rfl rfl
theorem stock_keys_length {b o : Nat} {no : Int} : (stock_keys_els b o no).length = 5 := rfl
theorem stock_keys_len {b o : Nat} {no : Int} {n : Nat} {args : List V} (h : (stock_keys_els b o no)[n]? = some args) : args.length = 2 := by
  have hm := List.mem_of_getElem? h
  simp only [stock_keys_els, List.mem_cons, List.not_mem_nil, or_false] at hm
  rcases hm with rfl | rfl | rfl | rfl | rfl <;> rfl
theorem stock_keys_at0 {b o : Nat} {no : Int} {args : List V} (h : (stock_keys_els b o no)[0]? = some args) : args = [GKey.e ⟨1, no, 0⟩, rawp b (o + 1)] := by cases h; rfl
theorem stock_keys_at1 {b o : Nat} {no : Int} {args : List V} (h : (stock_keys_els b o no)[1]? = some args) : args = [GKey.e ⟨1, no, 1⟩, rawp b (o + 2)] := by cases h; rfl
theorem stock_keys_at2 {b o : Nat} {no : Int} {args : List V} (h : (stock_keys_els b o no)[2]? = some args) : args = [GKey.e ⟨1, no, 2⟩, rawp b (o + 3)] := by cases h; rfl
theorem stock_keys_at3 {b o : Nat} {no : Int} {args : List V} (h : (stock_keys_els b o no)[3]? = some args) : args = [GKey.e ⟨1, no, 3⟩, rawp b (o + 4)] := by cases h; rfl
theorem stock_keys_at4 {b o : Nat} {no : Int} {args : List V} (h : (stock_keys_els b o no)[4]? = some args) : args = [GKey.e ⟨1, no, 4⟩, rawp b (o + 5)] := by cases h; rfl
theorem stock_keys_at5 {b o : Nat} {no : Int} {args : List V} (h : (stock_keys_els b o no)[5]? = some args) : False := by cases h
def stock_right_1_m (a0 : Int) (a1 : Int) : Option Bool := some (bif decide (0 ≤ a0) then decide (a0 ≤ a1) else false)
theorem stock_right_1_c {a0 : Int} {a1 : Int} {r : Bool} (H : stock_right_1_m a0 a1 = some r) : PureC Try.prog true 94 [vi a0, vi a1] (vb r) := by
  unfold stock_right_1_m at H
  refine pure_intro (N := 12) Try.func94 rfl rfl rfl rfl fun C hO => ?_
  refine ev_shift (shift_mk (fs := [(0, .v true (vi a0)), (1, .v true (vi a1))]) (es := []) ⟨⟨_, rfl, (.flat rfl)⟩, ⟨⟨_, rfl, (.flat rfl)⟩, trivial⟩⟩ trivial rfl rfl) ?_
  refine ev_seq ?_
  refine ev_region ?_
  refine rq rfl rfl (q_assign rfl) ?_
  refine run_nil ?_
  refine ev_seq ?_
  refine ev_region ?_
  refine rq rfl rfl (q_move rfl) ?_
  refine rq rfl rfl (q_geq rfl rfl) ?_
  refine rq rfl rfl (q_move rfl) ?_
  refine rqc (l := []) ⟨⟨_, _, _, rfl, rfl, rfl, rfl⟩, rfl, fun hc => q_move rfl, trivial⟩ rfl ?_
  refine rqc (l := []) ⟨⟨_, _, _, rfl, rfl, rfl, rfl⟩, rfl, fun hc => q_move rfl, trivial⟩ rfl ?_
  refine rqc (l := [8, 9]) ⟨⟨_, _, _, rfl, rfl, rfl, rfl⟩, rfl, fun hc => q_leq rfl rfl, ⟨fun h => h, ⟨fun h => h, trivial⟩⟩⟩ rfl ?_
  refine rq rfl rfl (q_pickb rfl rfl rfl (PB.c (fun hp => hp)) PB.v) ?_
  refine rq rfl rfl (q_assign rfl) ?_
  refine run_nil ?_
  refine ev_ret ?_
  exact ret_ok [vb (bif decide (0 ≤ a0) then decide (a0 ≤ a1) else false)] (congrArg (fun r : Bool => vb r) (Option.some.inj H)) rfl (.cons (.tmp rfl (.v _ _ (fun _ => rfl))) .nil)
def stock_right_m (a0 : GLot) : Option Bool := bd (stock_right_1_m a0.item 31) fun x2 => bdc x2 (stock_right_1_m a0.plant 7) fun x3 => bdc (bif bif x2 then x3 else false then decide (1 ≤ a0.amount) else false) (stock_right_1_m a0.expiry 1024) fun x4 => bdc (bif bif bif x2 then x3 else false then decide (1 ≤ a0.amount) else false then x4 else false) (stock_right_1_m a0.state 3) fun x5 => some (bif bif bif bif x2 then x3 else false then decide (1 ≤ a0.amount) else false then x4 else false then x5 else false)
theorem stock_right_c {a0 : GLot} {r : Bool} (H : stock_right_m a0 = some r) : PureC Try.prog true 68 [GLot.e a0] (vb r) := by
  unfold stock_right_m at H
  refine pure_intro (N := 31) Try.func68 rfl rfl rfl rfl fun C hO => ?_
  refine ev_shift (shift_mk (fs := [(0, .v true (GLot.e a0))]) (es := []) ⟨⟨_, rfl, (.flat rfl)⟩, trivial⟩ trivial rfl rfl) ?_
  refine ev_seq ?_
  refine ev_region ?_
  refine re rfl (e_box 1 0 rfl rfl rfl) ?_; rintro _ ⟨b1, rfl⟩
  refine rq rfl rfl (q_assign rfl) ?_
  refine run_nil ?_
  refine ev_seq ?_
  refine ev_region ?_
  refine rq rfl rfl (q_assign rfl) ?_
  refine run_nil ?_
  refine ev_seq ?_
  refine ev_region ?_
  refine rq rfl rfl (q_move rfl) ?_
  refine rq rfl rfl (q_fld_p rfl) ?_
  refine rq rfl rfl (q_load1 rfl rfl rfl) ?_
  obtain ⟨x2, x2_h, H⟩ := bd_inv H
  refine rq rfl rfl (q_call rfl (.v _ _ (fun e => nomatch e)) (.v rfl (.v rfl ArgsOk.nil)) inferInstance (stock_right_1_c  x2_h)) ?_
  refine rq rfl rfl (q_move rfl) ?_
  refine rqc (l := []) ⟨⟨_, _, _, rfl, rfl, rfl, rfl⟩, rfl, fun hc => q_move rfl, trivial⟩ rfl ?_
  refine rqc (l := []) ⟨⟨_, _, _, rfl, rfl, rfl, rfl⟩, rfl, fun hc => q_fld_p rfl, trivial⟩ rfl ?_
  refine rqc (l := [10]) ⟨⟨_, _, _, rfl, rfl, rfl, rfl⟩, rfl, fun hc => q_load1 rfl rfl rfl, ⟨fun h => h, trivial⟩⟩ rfl ?_
  obtain ⟨x3, x3_h, _, H⟩ := bdc_inv H
  refine rqc (l := [9, 11]) ⟨⟨_, _, _, rfl, rfl, rfl, rfl⟩, rfl, fun hc => q_call rfl (.v _ _ (fun e => nomatch e)) (.v rfl (.v rfl ArgsOk.nil)) inferInstance (stock_right_1_c  (x3_h hc)), ⟨fun h => h, ⟨fun h => h, trivial⟩⟩⟩ rfl ?_
  refine rq rfl rfl (q_pickb rfl rfl rfl (PB.c (fun hp => hp)) PB.v) ?_
  refine rq rfl rfl (q_move rfl) ?_
  refine rqc (l := []) ⟨⟨_, _, _, rfl, rfl, rfl, rfl⟩, rfl, fun hc => q_fld_p rfl, trivial⟩ rfl ?_
  refine rqc (l := [15]) ⟨⟨_, _, _, rfl, rfl, rfl, rfl⟩, rfl, fun hc => q_load1 rfl rfl rfl, ⟨fun h => h, trivial⟩⟩ rfl ?_
  refine rqc (l := [16]) ⟨⟨_, _, _, rfl, rfl, rfl, rfl⟩, rfl, fun hc => q_geq rfl rfl, ⟨fun h => h, trivial⟩⟩ rfl ?_
  refine rq rfl rfl (q_pickb rfl rfl rfl (PB.c (fun hp => hp)) PB.v) ?_
  refine rq rfl rfl (q_move rfl) ?_
  refine rqc (l := []) ⟨⟨_, _, _, rfl, rfl, rfl, rfl⟩, rfl, fun hc => q_move rfl, trivial⟩ rfl ?_
  refine rqc (l := []) ⟨⟨_, _, _, rfl, rfl, rfl, rfl⟩, rfl, fun hc => q_fld_p rfl, trivial⟩ rfl ?_
  refine rqc (l := [21]) ⟨⟨_, _, _, rfl, rfl, rfl, rfl⟩, rfl, fun hc => q_load1 rfl rfl rfl, ⟨fun h => h, trivial⟩⟩ rfl ?_
  obtain ⟨x4, x4_h, _, H⟩ := bdc_inv H
  refine rqc (l := [20, 22]) ⟨⟨_, _, _, rfl, rfl, rfl, rfl⟩, rfl, fun hc => q_call rfl (.v _ _ (fun e => nomatch e)) (.v rfl (.v rfl ArgsOk.nil)) inferInstance (stock_right_1_c  (x4_h hc)), ⟨fun h => h, ⟨fun h => h, trivial⟩⟩⟩ rfl ?_
  refine rq rfl rfl (q_pickb rfl rfl rfl (PB.c (fun hp => hp)) PB.v) ?_
  refine rq rfl rfl (q_move rfl) ?_
  refine rqc (l := []) ⟨⟨_, _, _, rfl, rfl, rfl, rfl⟩, rfl, fun hc => q_move rfl, trivial⟩ rfl ?_
  refine rqc (l := []) ⟨⟨_, _, _, rfl, rfl, rfl, rfl⟩, rfl, fun hc => q_fld_p rfl, trivial⟩ rfl ?_
  refine rqc (l := [27]) ⟨⟨_, _, _, rfl, rfl, rfl, rfl⟩, rfl, fun hc => q_load1 rfl rfl rfl, ⟨fun h => h, trivial⟩⟩ rfl ?_
  obtain ⟨x5, x5_h, _, H⟩ := bdc_inv H
  refine rqc (l := [26, 28]) ⟨⟨_, _, _, rfl, rfl, rfl, rfl⟩, rfl, fun hc => q_call rfl (.v _ _ (fun e => nomatch e)) (.v rfl (.v rfl ArgsOk.nil)) inferInstance (stock_right_1_c  (x5_h hc)), ⟨fun h => h, ⟨fun h => h, trivial⟩⟩⟩ rfl ?_
  refine rq rfl rfl (q_pickb rfl rfl rfl (PB.c (fun hp => hp)) PB.v) ?_
  refine rq rfl rfl (q_assign rfl) ?_
  refine run_nil ?_
  refine ev_ret ?_
  exact ret_ok [vb (bif bif bif bif x2 then x3 else false then decide (1 ≤ a0.amount) else false then x4 else false then x5 else false)] (congrArg (fun r : Bool => vb r) (Option.some.inj H)) rfl (.cons (.tmp rfl (.v _ _ (fun _ => rfl))) .nil)
def stock_looker_lot_m (a0 : GstockLooker) (a1 : Int) : Option (GLot × Bool × GstockLooker) := jn (fun (p93 : Int) (p94 : Int) (p95 : Int) (p96 : Int) (p97 : Int) (p98 : Bool) (p99 : List GUnit) (p100 : List GItem) (p101 : List ByteArray) (p102 : List GMachine) (p103 : List GOption) (p104 : List (List GCond)) (p105 : List GRecipe) (p106 : List GSwap) (p107 : List Int) (p108 : List (List GInst)) (p109 : List GFact) (p110 : Int) (p111 : Int) (p112 : List GRead) => bd (stock_right_m (⟨a1, p93, p94, p95, p96, p97⟩ : GLot)) fun x135 => bif !x135 then (some ((⟨0, 0, 0, 0, 0, 0⟩ : GLot), false, (⟨(⟨(⟨(⟨p99, p100, p101, p102, p103, p104, p105, p106⟩ : GSource), p107, p108⟩ : GTables), p109⟩ : GWorld), p110, p111, p112⟩ : GstockLooker))) else (some ((⟨a1, p93, p94, p95, p96, p97⟩ : GLot), true, (⟨(⟨(⟨(⟨p99, p100, p101, p102, p103, p104, p105, p106⟩ : GSource), p107, p108⟩ : GTables), p109⟩ : GWorld), p110, p111, p112⟩ : GstockLooker)))) fun j119 => jn (fun (p70 : Int) (p71 : Int) (p72 : Int) (p73 : Int) (p74 : Bool) (p75 : List GUnit) (p76 : List GItem) (p77 : List ByteArray) (p78 : List GMachine) (p79 : List GOption) (p80 : List (List GCond)) (p81 : List GRecipe) (p82 : List GSwap) (p83 : List Int) (p84 : List (List GInst)) (p85 : List GFact) (p86 : Int) (p87 : Int) (p88 : List GRead) => bd (stock_looker_at_m (⟨(⟨(⟨(⟨p75, p76, p77, p78, p79, p80, p81, p82⟩ : GSource), p83, p84⟩ : GTables), p85⟩ : GWorld), p86, p87, p88⟩ : GstockLooker) (⟨1, a1, 4⟩ : GKey)) fun x133 => bif !x133.2.1 then (some ((⟨0, 0, 0, 0, 0, 0⟩ : GLot), false, x133.2.2)) else (j119 p70 p71 p72 p73 x133.1 x133.2.1 x133.2.2.w.tables.source.units x133.2.2.w.tables.source.items x133.2.2.w.tables.source.plants x133.2.2.w.tables.source.machines x133.2.2.w.tables.source.options x133.2.2.w.tables.source.forbids x133.2.2.w.tables.source.recipes x133.2.2.w.tables.source.swaps x133.2.2.w.tables.levels x133.2.2.w.tables.codes x133.2.2.w.facts x133.2.2.day x133.2.2.known x133.2.2.reads)) fun j118 => jn (fun (p48 : Int) (p49 : Int) (p50 : Int) (p51 : Bool) (p52 : List GUnit) (p53 : List GItem) (p54 : List ByteArray) (p55 : List GMachine) (p56 : List GOption) (p57 : List (List GCond)) (p58 : List GRecipe) (p59 : List GSwap) (p60 : List Int) (p61 : List (List GInst)) (p62 : List GFact) (p63 : Int) (p64 : Int) (p65 : List GRead) => bd (stock_looker_at_m (⟨(⟨(⟨(⟨p52, p53, p54, p55, p56, p57, p58, p59⟩ : GSource), p60, p61⟩ : GTables), p62⟩ : GWorld), p63, p64, p65⟩ : GstockLooker) (⟨1, a1, 3⟩ : GKey)) fun x130 => bif !x130.2.1 then (some ((⟨0, 0, 0, 0, 0, 0⟩ : GLot), false, x130.2.2)) else (j118 p48 p49 p50 x130.1 x130.2.1 x130.2.2.w.tables.source.units x130.2.2.w.tables.source.items x130.2.2.w.tables.source.plants x130.2.2.w.tables.source.machines x130.2.2.w.tables.source.options x130.2.2.w.tables.source.forbids x130.2.2.w.tables.source.recipes x130.2.2.w.tables.source.swaps x130.2.2.w.tables.levels x130.2.2.w.tables.codes x130.2.2.w.facts x130.2.2.day x130.2.2.known x130.2.2.reads)) fun j117 => jn (fun (p27 : Int) (p28 : Int) (p29 : Bool) (p30 : List GUnit) (p31 : List GItem) (p32 : List ByteArray) (p33 : List GMachine) (p34 : List GOption) (p35 : List (List GCond)) (p36 : List GRecipe) (p37 : List GSwap) (p38 : List Int) (p39 : List (List GInst)) (p40 : List GFact) (p41 : Int) (p42 : Int) (p43 : List GRead) => bd (stock_looker_at_m (⟨(⟨(⟨(⟨p30, p31, p32, p33, p34, p35, p36, p37⟩ : GSource), p38, p39⟩ : GTables), p40⟩ : GWorld), p41, p42, p43⟩ : GstockLooker) (⟨1, a1, 2⟩ : GKey)) fun x127 => bif !x127.2.1 then (some ((⟨0, 0, 0, 0, 0, 0⟩ : GLot), false, x127.2.2)) else (j117 p27 p28 x127.1 x127.2.1 x127.2.2.w.tables.source.units x127.2.2.w.tables.source.items x127.2.2.w.tables.source.plants x127.2.2.w.tables.source.machines x127.2.2.w.tables.source.options x127.2.2.w.tables.source.forbids x127.2.2.w.tables.source.recipes x127.2.2.w.tables.source.swaps x127.2.2.w.tables.levels x127.2.2.w.tables.codes x127.2.2.w.facts x127.2.2.day x127.2.2.known x127.2.2.reads)) fun j116 => jn (fun (p7 : Int) (p8 : Bool) (p9 : List GUnit) (p10 : List GItem) (p11 : List ByteArray) (p12 : List GMachine) (p13 : List GOption) (p14 : List (List GCond)) (p15 : List GRecipe) (p16 : List GSwap) (p17 : List Int) (p18 : List (List GInst)) (p19 : List GFact) (p20 : Int) (p21 : Int) (p22 : List GRead) => bd (stock_looker_at_m (⟨(⟨(⟨(⟨p9, p10, p11, p12, p13, p14, p15, p16⟩ : GSource), p17, p18⟩ : GTables), p19⟩ : GWorld), p20, p21, p22⟩ : GstockLooker) (⟨1, a1, 1⟩ : GKey)) fun x124 => bif !x124.2.1 then (some ((⟨0, 0, 0, 0, 0, 0⟩ : GLot), false, x124.2.2)) else (j116 p7 x124.1 x124.2.1 x124.2.2.w.tables.source.units x124.2.2.w.tables.source.items x124.2.2.w.tables.source.plants x124.2.2.w.tables.source.machines x124.2.2.w.tables.source.options x124.2.2.w.tables.source.forbids x124.2.2.w.tables.source.recipes x124.2.2.w.tables.source.swaps x124.2.2.w.tables.levels x124.2.2.w.tables.codes x124.2.2.w.facts x124.2.2.day x124.2.2.known x124.2.2.reads)) fun j115 => jn (fun (_ : Unit) => bd (stock_looker_at_m a0 (⟨1, a1, 0⟩ : GKey)) fun x121 => bif !x121.2.1 then (some ((⟨0, 0, 0, 0, 0, 0⟩ : GLot), false, x121.2.2)) else (j115 x121.1 x121.2.1 x121.2.2.w.tables.source.units x121.2.2.w.tables.source.items x121.2.2.w.tables.source.plants x121.2.2.w.tables.source.machines x121.2.2.w.tables.source.options x121.2.2.w.tables.source.forbids x121.2.2.w.tables.source.recipes x121.2.2.w.tables.source.swaps x121.2.2.w.tables.levels x121.2.2.w.tables.codes x121.2.2.w.facts x121.2.2.day x121.2.2.known x121.2.2.reads)) fun j114 => j114 ()
set_option maxHeartbeats 4000000 in
theorem stock_looker_lot_c {a0 : GstockLooker} {b_a0 : Nat} {q0_a0 : Pl} {a1 : Int} {f_a1 : Bool} {r : GLot × Bool × GstockLooker} (H : stock_looker_lot_m a0 a1 = some r) : FnR Try.prog 56 [.p 7000 0 b_a0 0, .v f_a1 (vi a1)] [.e 7000 0 (some (b_a0, 14)) (.row 115 [.v false (V.l 8 (List.map GUnit.e a0.w.tables.source.units)), .v false (V.l 6 (List.map GItem.e a0.w.tables.source.items)), .v false (V.l 1 (List.map V.s a0.w.tables.source.plants)), .v false (V.l 4 (List.map GMachine.e a0.w.tables.source.machines)), .v false (V.l 2 (List.map GOption.e a0.w.tables.source.options)), .v false (V.l 1 (List.map (fun l => V.l 4 (List.map GCond.e l)) a0.w.tables.source.forbids)), .v false (V.l 17 (List.map GRecipe.e a0.w.tables.source.recipes)), .v false (V.l 4 (List.map GSwap.e a0.w.tables.source.swaps)), .v false (V.l 1 (List.map vi a0.w.tables.levels)), .v false (V.l 1 (List.map (fun l => V.l 6 (List.map GInst.e l)) a0.w.tables.codes)), .v false (V.l 8 (List.map GFact.e a0.w.facts)), .v true (vi a0.day), .v true (vi a0.known), .o 7004 0 q0_a0 5 0 a0.reads.length]), .e 7004 0 q0_a0 (.row 100 (els true (List.map GRead.e a0.reads)))] (fun d es' => ∃ (q0_a0' : Pl), d = .t [.v true (GLot.e r.1), .v true (vb r.2.1)] ∧ es' = [.e 7000 0 (some (b_a0, 14)) (.row 115 [.v false (V.l 8 (List.map GUnit.e r.2.2.w.tables.source.units)), .v false (V.l 6 (List.map GItem.e r.2.2.w.tables.source.items)), .v false (V.l 1 (List.map V.s r.2.2.w.tables.source.plants)), .v false (V.l 4 (List.map GMachine.e r.2.2.w.tables.source.machines)), .v false (V.l 2 (List.map GOption.e r.2.2.w.tables.source.options)), .v false (V.l 1 (List.map (fun l => V.l 4 (List.map GCond.e l)) r.2.2.w.tables.source.forbids)), .v false (V.l 17 (List.map GRecipe.e r.2.2.w.tables.source.recipes)), .v false (V.l 4 (List.map GSwap.e r.2.2.w.tables.source.swaps)), .v false (V.l 1 (List.map vi r.2.2.w.tables.levels)), .v false (V.l 1 (List.map (fun l => V.l 6 (List.map GInst.e l)) r.2.2.w.tables.codes)), .v false (V.l 8 (List.map GFact.e r.2.2.w.facts)), .v true (vi r.2.2.day), .v true (vi r.2.2.known), .o 7004 0 q0_a0' 5 0 r.2.2.reads.length]), .e 7004 0 q0_a0' (.row 100 (els true (List.map GRead.e r.2.2.reads)))]) := by
  unfold stock_looker_lot_m at H
  refine fnr_intro (N := 29) Try.func56 rfl rfl rfl rfl fun C => ?_
  refine ev_shift (shift_mk (fs := [(0, .p 7000 0 b_a0 0), (1, .v true (vi a1))]) (es := [.e 7000 0 (some (b_a0, 14)) (.row 115 [.v false (V.l 8 (List.map GUnit.e a0.w.tables.source.units)), .v false (V.l 6 (List.map GItem.e a0.w.tables.source.items)), .v false (V.l 1 (List.map V.s a0.w.tables.source.plants)), .v false (V.l 4 (List.map GMachine.e a0.w.tables.source.machines)), .v false (V.l 2 (List.map GOption.e a0.w.tables.source.options)), .v false (V.l 1 (List.map (fun l => V.l 4 (List.map GCond.e l)) a0.w.tables.source.forbids)), .v false (V.l 17 (List.map GRecipe.e a0.w.tables.source.recipes)), .v false (V.l 4 (List.map GSwap.e a0.w.tables.source.swaps)), .v false (V.l 1 (List.map vi a0.w.tables.levels)), .v false (V.l 1 (List.map (fun l => V.l 6 (List.map GInst.e l)) a0.w.tables.codes)), .v false (V.l 8 (List.map GFact.e a0.w.facts)), .v true (vi a0.day), .v true (vi a0.known), .o 7004 0 q0_a0 5 0 a0.reads.length]), .e 7004 0 q0_a0 (.row 100 (els true (List.map GRead.e a0.reads)))]) ⟨⟨_, rfl, .rfl⟩, ⟨⟨_, rfl, (.flat rfl)⟩, trivial⟩⟩ ⟨(.e rfl), ⟨(.e rfl), trivial⟩⟩ rfl rfl) ?_
  refine ev_seq ?_
  refine ev_region ?_
  refine re rfl (e_box 2 0 rfl rfl rfl) ?_; rintro _ ⟨b1, rfl⟩
  refine re rfl (e_alloc 4 0 rfl rfl) ?_; rintro _ ⟨b2, rfl⟩
  refine re rfl (e_alloc 5 0 rfl rfl) ?_; rintro _ ⟨b3, rfl⟩
  refine run_nil ?_
  refine ev_seq ?_
  refine ev_region ?_
  refine rq rfl rfl (q_move rfl) ?_
  refine rq rfl rfl (q_fld_p rfl) ?_
  refine re rfl (e_store1 rfl rfl rfl rfl rfl (Nat.le_of_ble_eq_true rfl) rfl) ?_; rintro _ rfl
  refine run_nil ?_
  refine ev_seq ?_
  refine ev_seq ?_
  refine ev_region ?_
  refine rq rfl rfl (q_call rfl (.v _ _ (fun e => nomatch e)) (.cons rfl (.rp _ _ _ _) .nil) inferInstance stock_keys_c) ?_
  refine run_nil ?_
  refine ev_block ?_
  obtain ⟨j119, j119_e, H⟩ := jn_inv H
  obtain ⟨j118, j118_e, H⟩ := jn_inv H
  obtain ⟨j117, j117_e, H⟩ := jn_inv H
  obtain ⟨j116, j116_e, H⟩ := jn_inv H
  obtain ⟨j115, j115_e, H⟩ := jn_inv H
  obtain ⟨j114, j114_e, H⟩ := jn_inv H
  refine ev_shift (σ' := mkS [(2, .p 2 0 b1 0), (4, .p 4 0 b2 0), (5, .p 5 0 b3 0), (10, .v true (.c 96 [.q [rawp b2 0]]))] [.e 2 0 (some (b1, 1)) (.row 113 [.p 7000 0 b_a0 0]), .e 4 0 (some (b2, 6)) (.row 60 [.v true (vi a1), .v true (vi 0), .v true (vi 0), .v true (vi 0), .v true (vi 0), .v true (vi 0)]), .e 5 0 (some (b3, 1)) (.row 4 [.v true (vb false)]), .e 7000 0 (some (b_a0, 14)) (.row 115 [.v false (V.l 8 (List.map GUnit.e a0.w.tables.source.units)), .v false (V.l 6 (List.map GItem.e a0.w.tables.source.items)), .v false (V.l 1 (List.map V.s a0.w.tables.source.plants)), .v false (V.l 4 (List.map GMachine.e a0.w.tables.source.machines)), .v false (V.l 2 (List.map GOption.e a0.w.tables.source.options)), .v false (V.l 1 (List.map (fun l => V.l 4 (List.map GCond.e l)) a0.w.tables.source.forbids)), .v false (V.l 17 (List.map GRecipe.e a0.w.tables.source.recipes)), .v false (V.l 4 (List.map GSwap.e a0.w.tables.source.swaps)), .v false (V.l 1 (List.map vi a0.w.tables.levels)), .v false (V.l 1 (List.map (fun l => V.l 6 (List.map GInst.e l)) a0.w.tables.codes)), .v false (V.l 8 (List.map GFact.e a0.w.facts)), .v true (vi a0.day), .v true (vi a0.known), .o 7004 0 q0_a0 5 0 a0.reads.length]), .e 7004 0 q0_a0 (.row 100 (els true (List.map GRead.e a0.reads)))] [] (0, false)) (shift_mk ⟨⟨_, rfl, .rfl⟩, ⟨⟨_, rfl, .rfl⟩, ⟨⟨_, rfl, .rfl⟩, ⟨⟨_, rfl, .rfl⟩, trivial⟩⟩⟩⟩ ⟨(.e rfl), ⟨(.w rfl (.cons (.flat rfl) (.cons (.flat rfl) (.cons (.flat rfl) (.cons (.flat rfl) (.cons (.flat rfl) (.cons (.flat rfl) .nil))))))), ⟨(.w rfl (.cons (.flat rfl) .nil)), ⟨(.w rfl (.cons .rfl (.cons .rfl (.cons .rfl (.cons .rfl (.cons .rfl (.cons .rfl (.cons .rfl (.cons .rfl (.cons .rfl (.cons .rfl (.cons .rfl (.cons (.flat rfl) (.cons (.flat rfl) (.cons .rfl .nil))))))))))))))), ⟨(.e rfl), trivial⟩⟩⟩⟩⟩ rfl rfl) ?_
  refine ev_rangeR (Rd := RdI b2 (0 + 0) .i64 a1) (els := stock_keys_els b2 0 a1) rfl inferInstance stock_keys_1_c 9004 9005 [2, 4, 5, 10] rfl (by decide) (fun n args h => stock_keys_len h) (fun D2 l2 L2 => ⟨fun n σ' => (n = 0 ∧ j114 () = some r ∧ σ' = mkS [(2, .p 2 0 b1 0), (4, .p 4 0 b2 0), (5, .p 5 0 b3 0), (10, .v true (.c 96 [.q [rawp b2 0]]))] [.e 2 0 (some (b1, 1)) (.row 113 [.p 7000 0 b_a0 0]), .e 4 0 (some (b2, 6)) (.row 60 [.v true (vi a1), .v true (vi 0), .v true (vi 0), .v true (vi 0), .v true (vi 0), .v true (vi 0)]), .e 5 0 (some (b3, 1)) (.row 4 [.v true (vb false)]), .e 7000 0 (some (b_a0, 14)) (.row 115 [.v false (V.l 8 (List.map GUnit.e a0.w.tables.source.units)), .v false (V.l 6 (List.map GItem.e a0.w.tables.source.items)), .v false (V.l 1 (List.map V.s a0.w.tables.source.plants)), .v false (V.l 4 (List.map GMachine.e a0.w.tables.source.machines)), .v false (V.l 2 (List.map GOption.e a0.w.tables.source.options)), .v false (V.l 1 (List.map (fun l => V.l 4 (List.map GCond.e l)) a0.w.tables.source.forbids)), .v false (V.l 17 (List.map GRecipe.e a0.w.tables.source.recipes)), .v false (V.l 4 (List.map GSwap.e a0.w.tables.source.swaps)), .v false (V.l 1 (List.map vi a0.w.tables.levels)), .v false (V.l 1 (List.map (fun l => V.l 6 (List.map GInst.e l)) a0.w.tables.codes)), .v false (V.l 8 (List.map GFact.e a0.w.facts)), .v true (vi a0.day), .v true (vi a0.known), .o 7004 0 q0_a0 5 0 a0.reads.length]), .e 7004 0 q0_a0 (.row 100 (els true (List.map GRead.e a0.reads))), .e 9005 0 (some (l2, 0)) (.obj (L2 .ready none)), .e 9004 0 (some (D2, 0)) (.obj (.deferred (some [])))] ({ target := .collected D2, args := #[] } :: []) (0, false)) ∨ (n = 1 ∧ ∃ (p7 : Int) (p8 : Bool) (p9 : List GUnit) (p10 : List GItem) (p11 : List ByteArray) (p12 : List GMachine) (p13 : List GOption) (p14 : List (List GCond)) (p15 : List GRecipe) (p16 : List GSwap) (p17 : List Int) (p18 : List (List GInst)) (p19 : List GFact) (p20 : Int) (p21 : Int) (p22 : List GRead) (q23 : Pl), j115 p7 p8 p9 p10 p11 p12 p13 p14 p15 p16 p17 p18 p19 p20 p21 p22 = some r ∧ σ' = mkS [(2, .p 2 0 b1 0), (4, .p 4 0 b2 0), (5, .p 5 0 b3 0), (10, .v true (.c 96 [.q [rawp b2 0]]))] [.e 2 0 (some (b1, 1)) (.row 113 [.p 7000 0 b_a0 0]), .e 4 0 (some (b2, 6)) (.row 60 [.v true (vi a1), .v true (vi p7), .v true (vi 0), .v true (vi 0), .v true (vi 0), .v true (vi 0)]), .e 5 0 (some (b3, 1)) (.row 4 [.v true (vb p8)]), .e 7000 0 (some (b_a0, 14)) (.row 115 [.v false (V.l 8 (List.map GUnit.e p9)), .v false (V.l 6 (List.map GItem.e p10)), .v false (V.l 1 (List.map V.s p11)), .v false (V.l 4 (List.map GMachine.e p12)), .v false (V.l 2 (List.map GOption.e p13)), .v false (V.l 1 (List.map (fun l => V.l 4 (List.map GCond.e l)) p14)), .v false (V.l 17 (List.map GRecipe.e p15)), .v false (V.l 4 (List.map GSwap.e p16)), .v false (V.l 1 (List.map vi p17)), .v false (V.l 1 (List.map (fun l => V.l 6 (List.map GInst.e l)) p18)), .v false (V.l 8 (List.map GFact.e p19)), .v true (vi p20), .v true (vi p21), .o 7004 0 q23 5 0 p22.length]), .e 7004 0 q23 (.row 100 (els true (List.map GRead.e p22))), .e 9005 0 (some (l2, 0)) (.obj (L2 .ready none)), .e 9004 0 (some (D2, 0)) (.obj (.deferred (some [])))] ({ target := .collected D2, args := #[] } :: []) (0, false)) ∨ (n = 2 ∧ ∃ (p27 : Int) (p28 : Int) (p29 : Bool) (p30 : List GUnit) (p31 : List GItem) (p32 : List ByteArray) (p33 : List GMachine) (p34 : List GOption) (p35 : List (List GCond)) (p36 : List GRecipe) (p37 : List GSwap) (p38 : List Int) (p39 : List (List GInst)) (p40 : List GFact) (p41 : Int) (p42 : Int) (p43 : List GRead) (q44 : Pl), j116 p27 p28 p29 p30 p31 p32 p33 p34 p35 p36 p37 p38 p39 p40 p41 p42 p43 = some r ∧ σ' = mkS [(2, .p 2 0 b1 0), (4, .p 4 0 b2 0), (5, .p 5 0 b3 0), (10, .v true (.c 96 [.q [rawp b2 0]]))] [.e 2 0 (some (b1, 1)) (.row 113 [.p 7000 0 b_a0 0]), .e 4 0 (some (b2, 6)) (.row 60 [.v true (vi a1), .v true (vi p27), .v true (vi p28), .v true (vi 0), .v true (vi 0), .v true (vi 0)]), .e 5 0 (some (b3, 1)) (.row 4 [.v true (vb p29)]), .e 7000 0 (some (b_a0, 14)) (.row 115 [.v false (V.l 8 (List.map GUnit.e p30)), .v false (V.l 6 (List.map GItem.e p31)), .v false (V.l 1 (List.map V.s p32)), .v false (V.l 4 (List.map GMachine.e p33)), .v false (V.l 2 (List.map GOption.e p34)), .v false (V.l 1 (List.map (fun l => V.l 4 (List.map GCond.e l)) p35)), .v false (V.l 17 (List.map GRecipe.e p36)), .v false (V.l 4 (List.map GSwap.e p37)), .v false (V.l 1 (List.map vi p38)), .v false (V.l 1 (List.map (fun l => V.l 6 (List.map GInst.e l)) p39)), .v false (V.l 8 (List.map GFact.e p40)), .v true (vi p41), .v true (vi p42), .o 7004 0 q44 5 0 p43.length]), .e 7004 0 q44 (.row 100 (els true (List.map GRead.e p43))), .e 9005 0 (some (l2, 0)) (.obj (L2 .ready none)), .e 9004 0 (some (D2, 0)) (.obj (.deferred (some [])))] ({ target := .collected D2, args := #[] } :: []) (0, false)) ∨ (n = 3 ∧ ∃ (p48 : Int) (p49 : Int) (p50 : Int) (p51 : Bool) (p52 : List GUnit) (p53 : List GItem) (p54 : List ByteArray) (p55 : List GMachine) (p56 : List GOption) (p57 : List (List GCond)) (p58 : List GRecipe) (p59 : List GSwap) (p60 : List Int) (p61 : List (List GInst)) (p62 : List GFact) (p63 : Int) (p64 : Int) (p65 : List GRead) (q66 : Pl), j117 p48 p49 p50 p51 p52 p53 p54 p55 p56 p57 p58 p59 p60 p61 p62 p63 p64 p65 = some r ∧ σ' = mkS [(2, .p 2 0 b1 0), (4, .p 4 0 b2 0), (5, .p 5 0 b3 0), (10, .v true (.c 96 [.q [rawp b2 0]]))] [.e 2 0 (some (b1, 1)) (.row 113 [.p 7000 0 b_a0 0]), .e 4 0 (some (b2, 6)) (.row 60 [.v true (vi a1), .v true (vi p48), .v true (vi p49), .v true (vi p50), .v true (vi 0), .v true (vi 0)]), .e 5 0 (some (b3, 1)) (.row 4 [.v true (vb p51)]), .e 7000 0 (some (b_a0, 14)) (.row 115 [.v false (V.l 8 (List.map GUnit.e p52)), .v false (V.l 6 (List.map GItem.e p53)), .v false (V.l 1 (List.map V.s p54)), .v false (V.l 4 (List.map GMachine.e p55)), .v false (V.l 2 (List.map GOption.e p56)), .v false (V.l 1 (List.map (fun l => V.l 4 (List.map GCond.e l)) p57)), .v false (V.l 17 (List.map GRecipe.e p58)), .v false (V.l 4 (List.map GSwap.e p59)), .v false (V.l 1 (List.map vi p60)), .v false (V.l 1 (List.map (fun l => V.l 6 (List.map GInst.e l)) p61)), .v false (V.l 8 (List.map GFact.e p62)), .v true (vi p63), .v true (vi p64), .o 7004 0 q66 5 0 p65.length]), .e 7004 0 q66 (.row 100 (els true (List.map GRead.e p65))), .e 9005 0 (some (l2, 0)) (.obj (L2 .ready none)), .e 9004 0 (some (D2, 0)) (.obj (.deferred (some [])))] ({ target := .collected D2, args := #[] } :: []) (0, false)) ∨ (n = 4 ∧ ∃ (p70 : Int) (p71 : Int) (p72 : Int) (p73 : Int) (p74 : Bool) (p75 : List GUnit) (p76 : List GItem) (p77 : List ByteArray) (p78 : List GMachine) (p79 : List GOption) (p80 : List (List GCond)) (p81 : List GRecipe) (p82 : List GSwap) (p83 : List Int) (p84 : List (List GInst)) (p85 : List GFact) (p86 : Int) (p87 : Int) (p88 : List GRead) (q89 : Pl), j118 p70 p71 p72 p73 p74 p75 p76 p77 p78 p79 p80 p81 p82 p83 p84 p85 p86 p87 p88 = some r ∧ σ' = mkS [(2, .p 2 0 b1 0), (4, .p 4 0 b2 0), (5, .p 5 0 b3 0), (10, .v true (.c 96 [.q [rawp b2 0]]))] [.e 2 0 (some (b1, 1)) (.row 113 [.p 7000 0 b_a0 0]), .e 4 0 (some (b2, 6)) (.row 60 [.v true (vi a1), .v true (vi p70), .v true (vi p71), .v true (vi p72), .v true (vi p73), .v true (vi 0)]), .e 5 0 (some (b3, 1)) (.row 4 [.v true (vb p74)]), .e 7000 0 (some (b_a0, 14)) (.row 115 [.v false (V.l 8 (List.map GUnit.e p75)), .v false (V.l 6 (List.map GItem.e p76)), .v false (V.l 1 (List.map V.s p77)), .v false (V.l 4 (List.map GMachine.e p78)), .v false (V.l 2 (List.map GOption.e p79)), .v false (V.l 1 (List.map (fun l => V.l 4 (List.map GCond.e l)) p80)), .v false (V.l 17 (List.map GRecipe.e p81)), .v false (V.l 4 (List.map GSwap.e p82)), .v false (V.l 1 (List.map vi p83)), .v false (V.l 1 (List.map (fun l => V.l 6 (List.map GInst.e l)) p84)), .v false (V.l 8 (List.map GFact.e p85)), .v true (vi p86), .v true (vi p87), .o 7004 0 q89 5 0 p88.length]), .e 7004 0 q89 (.row 100 (els true (List.map GRead.e p88))), .e 9005 0 (some (l2, 0)) (.obj (L2 .ready none)), .e 9004 0 (some (D2, 0)) (.obj (.deferred (some [])))] ({ target := .collected D2, args := #[] } :: []) (0, false)) ∨ (n = 5 ∧ ∃ (p93 : Int) (p94 : Int) (p95 : Int) (p96 : Int) (p97 : Int) (p98 : Bool) (p99 : List GUnit) (p100 : List GItem) (p101 : List ByteArray) (p102 : List GMachine) (p103 : List GOption) (p104 : List (List GCond)) (p105 : List GRecipe) (p106 : List GSwap) (p107 : List Int) (p108 : List (List GInst)) (p109 : List GFact) (p110 : Int) (p111 : Int) (p112 : List GRead) (q113 : Pl), j119 p93 p94 p95 p96 p97 p98 p99 p100 p101 p102 p103 p104 p105 p106 p107 p108 p109 p110 p111 p112 = some r ∧ σ' = mkS [(2, .p 2 0 b1 0), (4, .p 4 0 b2 0), (5, .p 5 0 b3 0), (10, .v true (.c 96 [.q [rawp b2 0]]))] [.e 2 0 (some (b1, 1)) (.row 113 [.p 7000 0 b_a0 0]), .e 4 0 (some (b2, 6)) (.row 60 [.v true (vi a1), .v true (vi p93), .v true (vi p94), .v true (vi p95), .v true (vi p96), .v true (vi p97)]), .e 5 0 (some (b3, 1)) (.row 4 [.v true (vb p98)]), .e 7000 0 (some (b_a0, 14)) (.row 115 [.v false (V.l 8 (List.map GUnit.e p99)), .v false (V.l 6 (List.map GItem.e p100)), .v false (V.l 1 (List.map V.s p101)), .v false (V.l 4 (List.map GMachine.e p102)), .v false (V.l 2 (List.map GOption.e p103)), .v false (V.l 1 (List.map (fun l => V.l 4 (List.map GCond.e l)) p104)), .v false (V.l 17 (List.map GRecipe.e p105)), .v false (V.l 4 (List.map GSwap.e p106)), .v false (V.l 1 (List.map vi p107)), .v false (V.l 1 (List.map (fun l => V.l 6 (List.map GInst.e l)) p108)), .v false (V.l 8 (List.map GFact.e p109)), .v true (vi p110), .v true (vi p111), .o 7004 0 q113 5 0 p112.length]), .e 7004 0 q113 (.row 100 (els true (List.map GRead.e p112))), .e 9005 0 (some (l2, 0)) (.obj (L2 .ready none)), .e 9004 0 (some (D2, 0)) (.obj (.deferred (some [])))] ({ target := .collected D2, args := #[] } :: []) (0, false)), ?_, ?_, ?_, ?_, ?_⟩)
  · exact ⟨_, (.inl ⟨rfl, H, rfl⟩), le_mk ⟨rfl, ⟨rfl, ⟨rfl, ⟨rfl, trivial⟩⟩⟩⟩ ⟨rfl, ⟨rfl, ⟨rfl, ⟨rfl, ⟨rfl, ⟨rfl, ⟨rfl, trivial⟩⟩⟩⟩⟩⟩⟩ rfl rfl⟩
  · rintro n _ (⟨hn, H, rfl⟩ | ⟨hn, p7, p8, p9, p10, p11, p12, p13, p14, p15, p16, p17, p18, p19, p20, p21, p22, q23, H, rfl⟩ | ⟨hn, p27, p28, p29, p30, p31, p32, p33, p34, p35, p36, p37, p38, p39, p40, p41, p42, p43, q44, H, rfl⟩ | ⟨hn, p48, p49, p50, p51, p52, p53, p54, p55, p56, p57, p58, p59, p60, p61, p62, p63, p64, p65, q66, H, rfl⟩ | ⟨hn, p70, p71, p72, p73, p74, p75, p76, p77, p78, p79, p80, p81, p82, p83, p84, p85, p86, p87, p88, q89, H, rfl⟩ | ⟨hn, p93, p94, p95, p96, p97, p98, p99, p100, p101, p102, p103, p104, p105, p106, p107, p108, p109, p110, p111, p112, q113, H, rfl⟩) C I a w hH
    · exact hH.rdI (k := 4) (i := 0) rfl rfl
    · exact hH.rdI (k := 4) (i := 0) rfl rfl
    · exact hH.rdI (k := 4) (i := 0) rfl rfl
    · exact hH.rdI (k := 4) (i := 0) rfl rfl
    · exact hH.rdI (k := 4) (i := 0) rfl rfl
    · exact hH.rdI (k := 4) (i := 0) rfl rfl
  · rintro n _ (⟨hn, H, rfl⟩ | ⟨hn, p7, p8, p9, p10, p11, p12, p13, p14, p15, p16, p17, p18, p19, p20, p21, p22, q23, H, rfl⟩ | ⟨hn, p27, p28, p29, p30, p31, p32, p33, p34, p35, p36, p37, p38, p39, p40, p41, p42, p43, q44, H, rfl⟩ | ⟨hn, p48, p49, p50, p51, p52, p53, p54, p55, p56, p57, p58, p59, p60, p61, p62, p63, p64, p65, q66, H, rfl⟩ | ⟨hn, p70, p71, p72, p73, p74, p75, p76, p77, p78, p79, p80, p81, p82, p83, p84, p85, p86, p87, p88, q89, H, rfl⟩ | ⟨hn, p93, p94, p95, p96, p97, p98, p99, p100, p101, p102, p103, p104, p105, p106, p107, p108, p109, p110, p111, p112, q113, H, rfl⟩)
    · exact ⟨rfl, rfl, rfl⟩
    · exact ⟨rfl, rfl, rfl⟩
    · exact ⟨rfl, rfl, rfl⟩
    · exact ⟨rfl, rfl, rfl⟩
    · exact ⟨rfl, rfl, rfl⟩
    · exact ⟨rfl, rfl, rfl⟩
  · rintro n args _ val is hN he (⟨rfl, H, rfl⟩ | ⟨rfl, p7, p8, p9, p10, p11, p12, p13, p14, p15, p16, p17, p18, p19, p20, p21, p22, q23, H, rfl⟩ | ⟨rfl, p27, p28, p29, p30, p31, p32, p33, p34, p35, p36, p37, p38, p39, p40, p41, p42, p43, q44, H, rfl⟩ | ⟨rfl, p48, p49, p50, p51, p52, p53, p54, p55, p56, p57, p58, p59, p60, p61, p62, p63, p64, p65, q66, H, rfl⟩ | ⟨rfl, p70, p71, p72, p73, p74, p75, p76, p77, p78, p79, p80, p81, p82, p83, p84, p85, p86, p87, p88, q89, H, rfl⟩ | ⟨rfl, p93, p94, p95, p96, p97, p98, p99, p100, p101, p102, p103, p104, p105, p106, p107, p108, p109, p110, p111, p112, q113, H, rfl⟩) hcl
    · obtain rfl := stock_keys_at0 he
      subst j114_e
      refine ev_shift (shift_wkd (s := 12) (d' := .p 4 0 b2 (0 + 1)) rfl .of_rawp) ?_
      refine ev_seq ?_
      refine ev_region ?_
      refine re rfl (e_alloc 6 0 rfl rfl) ?_; rintro _ ⟨b120, rfl⟩
      refine re rfl (e_store rfl rfl rfl rfl rfl (Nat.le_of_ble_eq_true rfl) rfl) ?_; rintro _ rfl
      refine run_nil ?_
      refine ev_region ?_
      refine rq rfl rfl (q_assign rfl) ?_
      refine run_nil ?_
      refine ⟨rfl, ?_⟩
      refine ev_block ?_
      refine ev_seq ?_
      refine ev_region ?_
      refine rq rfl rfl (q_move rfl) ?_
      refine rq rfl rfl (q_load1 rfl rfl rfl) ?_
      refine rq rfl rfl (q_loadN rfl rfl rfl rfl) ?_
      obtain ⟨x121, x121_h, H⟩ := bd_inv H
      refine re rfl (e_callR [7000, 7004] rfl (.v _ _ []) rfl inferInstance (stock_looker_at_c  x121_h) ⟨(.w rfl (.cons .old (.cons .old (.cons .old (.cons .old (.cons .old (.cons .old (.cons .old (.cons .old (.cons .old (.cons .old (.cons .old (.cons (.flat rfl) (.cons (.flat rfl) (.cons .rfl .nil))))))))))))))), ⟨(.e rfl), trivial⟩⟩ rfl rfl) ?_; rintro _ ⟨_, _, ⟨q122, rfl, rfl⟩, rfl⟩
      refine rq rfl rfl (q_move rfl) ?_
      refine rq rfl rfl (q_extractD rfl rfl) ?_
      refine rq rfl rfl (q_extractD rfl rfl) ?_
      refine rq rfl rfl (q_nil rfl) ?_
      refine re rfl (e_store1 rfl rfl rfl rfl rfl (Nat.le_of_ble_eq_true rfl) rfl) ?_; rintro _ rfl
      refine re rfl (e_store1 rfl rfl rfl rfl rfl (Nat.le_of_ble_eq_true rfl) rfl) ?_; rintro _ rfl
      refine run_nil ?_
      refine ev_seq ?_
      refine ev_region ?_
      refine rq rfl rfl (q_load1 rfl rfl rfl) ?_
      refine rq rfl rfl (q_not rfl) ?_
      refine run_nil ?_
      refine ev_cond rfl (fun hc => ?_) (fun hc => ?_)
      · replace H := ct hc H
        refine ev_seq ?_
        refine ev_region ?_
        refine rq rfl rfl (q_build rfl .nil) ?_
        refine re rfl (e_store rfl rfl rfl rfl rfl (Nat.le_of_ble_eq_true rfl) rfl) ?_; rintro _ rfl
        refine re rfl (e_store1 rfl rfl rfl rfl rfl (Nat.le_of_ble_eq_true rfl) rfl) ?_; rintro _ rfl
        refine run_nil ?_
        refine ev_ret ?_
        refine ⟨rfl, mkS [(2, .p 2 0 b1 0), (4, .p 4 0 b2 0), (5, .p 5 0 b3 0), (10, .v true (.c 96 [.q [rawp b2 0]]))] [.e 2 0 (some (b1, 1)) (.row 113 [.p 7000 0 b_a0 0]), .e 4 0 (some (b2, 6)) (.row 60 [.v true (vi ((⟨0, 0, 0, 0, 0, 0⟩ : GLot).no_)), .v true (vi ((⟨0, 0, 0, 0, 0, 0⟩ : GLot).item)), .v true (vi ((⟨0, 0, 0, 0, 0, 0⟩ : GLot).plant)), .v true (vi ((⟨0, 0, 0, 0, 0, 0⟩ : GLot).amount)), .v true (vi ((⟨0, 0, 0, 0, 0, 0⟩ : GLot).expiry)), .v true (vi ((⟨0, 0, 0, 0, 0, 0⟩ : GLot).state))]), .e 5 0 (some (b3, 1)) (.row 4 [.v true (vb false)]), .e 7000 0 (some (b_a0, 14)) (.row 115 [.v false (V.l 8 (List.map GUnit.e x121.2.2.w.tables.source.units)), .v false (V.l 6 (List.map GItem.e x121.2.2.w.tables.source.items)), .v false (V.l 1 (List.map V.s x121.2.2.w.tables.source.plants)), .v false (V.l 4 (List.map GMachine.e x121.2.2.w.tables.source.machines)), .v false (V.l 2 (List.map GOption.e x121.2.2.w.tables.source.options)), .v false (V.l 1 (List.map (fun l => V.l 4 (List.map GCond.e l)) x121.2.2.w.tables.source.forbids)), .v false (V.l 17 (List.map GRecipe.e x121.2.2.w.tables.source.recipes)), .v false (V.l 4 (List.map GSwap.e x121.2.2.w.tables.source.swaps)), .v false (V.l 1 (List.map vi x121.2.2.w.tables.levels)), .v false (V.l 1 (List.map (fun l => V.l 6 (List.map GInst.e l)) x121.2.2.w.tables.codes)), .v false (V.l 8 (List.map GFact.e x121.2.2.w.facts)), .v true (vi x121.2.2.day), .v true (vi x121.2.2.known), .o 7004 0 q122 5 0 x121.2.2.reads.length]), .e 7004 0 q122 (.row 100 (els true (List.map GRead.e x121.2.2.reads))), .e 9004 0 (some (D2, 0)) (.obj (.deferred (some [])))] ({ target := .collected D2, args := #[] } :: []) (0, false), rfl, cov_mk rfl ⟨rfl, ⟨rfl, ⟨rfl, ⟨rfl, trivial⟩⟩⟩⟩ ⟨rfl, ⟨rfl, ⟨rfl, ⟨rfl, ⟨rfl, ⟨rfl, trivial⟩⟩⟩⟩⟩⟩ rfl, ?_⟩
        have hr := Option.some.inj H
        exact retRm [.v true (GLot.e (⟨0, 0, 0, 0, 0, 0⟩ : GLot)), .v true (vb false)] [.e 7000 0 (some (b_a0, 14)) (.row 115 [.v false (V.l 8 (List.map GUnit.e x121.2.2.w.tables.source.units)), .v false (V.l 6 (List.map GItem.e x121.2.2.w.tables.source.items)), .v false (V.l 1 (List.map V.s x121.2.2.w.tables.source.plants)), .v false (V.l 4 (List.map GMachine.e x121.2.2.w.tables.source.machines)), .v false (V.l 2 (List.map GOption.e x121.2.2.w.tables.source.options)), .v false (V.l 1 (List.map (fun l => V.l 4 (List.map GCond.e l)) x121.2.2.w.tables.source.forbids)), .v false (V.l 17 (List.map GRecipe.e x121.2.2.w.tables.source.recipes)), .v false (V.l 4 (List.map GSwap.e x121.2.2.w.tables.source.swaps)), .v false (V.l 1 (List.map vi x121.2.2.w.tables.levels)), .v false (V.l 1 (List.map (fun l => V.l 6 (List.map GInst.e l)) x121.2.2.w.tables.codes)), .v false (V.l 8 (List.map GFact.e x121.2.2.w.facts)), .v true (vi x121.2.2.day), .v true (vi x121.2.2.known), .o 7004 0 q122 5 0 x121.2.2.reads.length]), .e 7004 0 q122 (.row 100 (els true (List.map GRead.e x121.2.2.reads)))] (.cons 9004 0 D2 0 rfl (.nil _)) (.cons (.cellN (z := 6) rfl rfl rfl rfl rfl rfl (.flat rfl)) (.cons (.cell1 rfl rfl rfl rfl (.flat rfl)) .nil)) ⟨q122, by cases hr; rfl, by cases hr; rfl⟩ ⟨(.w rfl (.cons .old (.cons .old (.cons .old (.cons .old (.cons .old (.cons .old (.cons .old (.cons .old (.cons .old (.cons .old (.cons .old (.cons (.flat rfl) (.cons (.flat rfl) (.cons .rfl .nil))))))))))))))), ⟨(.e rfl), trivial⟩⟩
      · replace H := cf hc H
        refine ev_skip ?_
        exact ⟨rfl, _, (.inr (.inl ⟨rfl, x121.1, x121.2.1, x121.2.2.w.tables.source.units, x121.2.2.w.tables.source.items, x121.2.2.w.tables.source.plants, x121.2.2.w.tables.source.machines, x121.2.2.w.tables.source.options, x121.2.2.w.tables.source.forbids, x121.2.2.w.tables.source.recipes, x121.2.2.w.tables.source.swaps, x121.2.2.w.tables.levels, x121.2.2.w.tables.codes, x121.2.2.w.facts, x121.2.2.day, x121.2.2.known, x121.2.2.reads, q122, H, rfl⟩)), cov_mk rfl ⟨rfl, ⟨rfl, ⟨rfl, ⟨rfl, trivial⟩⟩⟩⟩ ⟨rfl, ⟨rfl, ⟨rfl, ⟨rfl, ⟨rfl, ⟨rfl, ⟨rfl, trivial⟩⟩⟩⟩⟩⟩⟩ rfl⟩
    · obtain rfl := stock_keys_at1 he
      subst j115_e
      refine ev_shift (shift_wkd (s := 12) (d' := .p 4 0 b2 (0 + 2)) rfl .of_rawp) ?_
      refine ev_seq ?_
      refine ev_region ?_
      refine re rfl (e_alloc 6 0 rfl rfl) ?_; rintro _ ⟨b123, rfl⟩
      refine re rfl (e_store rfl rfl rfl rfl rfl (Nat.le_of_ble_eq_true rfl) rfl) ?_; rintro _ rfl
      refine run_nil ?_
      refine ev_region ?_
      refine rq rfl rfl (q_assign rfl) ?_
      refine run_nil ?_
      refine ⟨rfl, ?_⟩
      refine ev_block ?_
      refine ev_seq ?_
      refine ev_region ?_
      refine rq rfl rfl (q_move rfl) ?_
      refine rq rfl rfl (q_load1 rfl rfl rfl) ?_
      refine rq rfl rfl (q_loadN rfl rfl rfl rfl) ?_
      obtain ⟨x124, x124_h, H⟩ := bd_inv H
      refine re rfl (e_callR [7000, 7004] rfl (.v _ _ []) rfl inferInstance (stock_looker_at_c  x124_h) ⟨(.w rfl (.cons .old (.cons .old (.cons .old (.cons .old (.cons .old (.cons .old (.cons .old (.cons .old (.cons .old (.cons .old (.cons .old (.cons (.flat rfl) (.cons (.flat rfl) (.cons .rfl .nil))))))))))))))), ⟨(.e rfl), trivial⟩⟩ rfl rfl) ?_; rintro _ ⟨_, _, ⟨q125, rfl, rfl⟩, rfl⟩
      refine rq rfl rfl (q_move rfl) ?_
      refine rq rfl rfl (q_extractD rfl rfl) ?_
      refine rq rfl rfl (q_extractD rfl rfl) ?_
      refine rq rfl rfl (q_nil rfl) ?_
      refine re rfl (e_store1 rfl rfl rfl rfl rfl (Nat.le_of_ble_eq_true rfl) rfl) ?_; rintro _ rfl
      refine re rfl (e_store1 rfl rfl rfl rfl rfl (Nat.le_of_ble_eq_true rfl) rfl) ?_; rintro _ rfl
      refine run_nil ?_
      refine ev_seq ?_
      refine ev_region ?_
      refine rq rfl rfl (q_load1 rfl rfl rfl) ?_
      refine rq rfl rfl (q_not rfl) ?_
      refine run_nil ?_
      refine ev_cond rfl (fun hc => ?_) (fun hc => ?_)
      · replace H := ct hc H
        refine ev_seq ?_
        refine ev_region ?_
        refine rq rfl rfl (q_build rfl .nil) ?_
        refine re rfl (e_store rfl rfl rfl rfl rfl (Nat.le_of_ble_eq_true rfl) rfl) ?_; rintro _ rfl
        refine re rfl (e_store1 rfl rfl rfl rfl rfl (Nat.le_of_ble_eq_true rfl) rfl) ?_; rintro _ rfl
        refine run_nil ?_
        refine ev_ret ?_
        refine ⟨rfl, mkS [(2, .p 2 0 b1 0), (4, .p 4 0 b2 0), (5, .p 5 0 b3 0), (10, .v true (.c 96 [.q [rawp b2 0]]))] [.e 2 0 (some (b1, 1)) (.row 113 [.p 7000 0 b_a0 0]), .e 4 0 (some (b2, 6)) (.row 60 [.v true (vi ((⟨0, 0, 0, 0, 0, 0⟩ : GLot).no_)), .v true (vi ((⟨0, 0, 0, 0, 0, 0⟩ : GLot).item)), .v true (vi ((⟨0, 0, 0, 0, 0, 0⟩ : GLot).plant)), .v true (vi ((⟨0, 0, 0, 0, 0, 0⟩ : GLot).amount)), .v true (vi ((⟨0, 0, 0, 0, 0, 0⟩ : GLot).expiry)), .v true (vi ((⟨0, 0, 0, 0, 0, 0⟩ : GLot).state))]), .e 5 0 (some (b3, 1)) (.row 4 [.v true (vb false)]), .e 7000 0 (some (b_a0, 14)) (.row 115 [.v false (V.l 8 (List.map GUnit.e x124.2.2.w.tables.source.units)), .v false (V.l 6 (List.map GItem.e x124.2.2.w.tables.source.items)), .v false (V.l 1 (List.map V.s x124.2.2.w.tables.source.plants)), .v false (V.l 4 (List.map GMachine.e x124.2.2.w.tables.source.machines)), .v false (V.l 2 (List.map GOption.e x124.2.2.w.tables.source.options)), .v false (V.l 1 (List.map (fun l => V.l 4 (List.map GCond.e l)) x124.2.2.w.tables.source.forbids)), .v false (V.l 17 (List.map GRecipe.e x124.2.2.w.tables.source.recipes)), .v false (V.l 4 (List.map GSwap.e x124.2.2.w.tables.source.swaps)), .v false (V.l 1 (List.map vi x124.2.2.w.tables.levels)), .v false (V.l 1 (List.map (fun l => V.l 6 (List.map GInst.e l)) x124.2.2.w.tables.codes)), .v false (V.l 8 (List.map GFact.e x124.2.2.w.facts)), .v true (vi x124.2.2.day), .v true (vi x124.2.2.known), .o 7004 0 q125 5 0 x124.2.2.reads.length]), .e 7004 0 q125 (.row 100 (els true (List.map GRead.e x124.2.2.reads))), .e 9004 0 (some (D2, 0)) (.obj (.deferred (some [])))] ({ target := .collected D2, args := #[] } :: []) (0, false), rfl, cov_mk rfl ⟨rfl, ⟨rfl, ⟨rfl, ⟨rfl, trivial⟩⟩⟩⟩ ⟨rfl, ⟨rfl, ⟨rfl, ⟨rfl, ⟨rfl, ⟨rfl, trivial⟩⟩⟩⟩⟩⟩ rfl, ?_⟩
        have hr := Option.some.inj H
        exact retRm [.v true (GLot.e (⟨0, 0, 0, 0, 0, 0⟩ : GLot)), .v true (vb false)] [.e 7000 0 (some (b_a0, 14)) (.row 115 [.v false (V.l 8 (List.map GUnit.e x124.2.2.w.tables.source.units)), .v false (V.l 6 (List.map GItem.e x124.2.2.w.tables.source.items)), .v false (V.l 1 (List.map V.s x124.2.2.w.tables.source.plants)), .v false (V.l 4 (List.map GMachine.e x124.2.2.w.tables.source.machines)), .v false (V.l 2 (List.map GOption.e x124.2.2.w.tables.source.options)), .v false (V.l 1 (List.map (fun l => V.l 4 (List.map GCond.e l)) x124.2.2.w.tables.source.forbids)), .v false (V.l 17 (List.map GRecipe.e x124.2.2.w.tables.source.recipes)), .v false (V.l 4 (List.map GSwap.e x124.2.2.w.tables.source.swaps)), .v false (V.l 1 (List.map vi x124.2.2.w.tables.levels)), .v false (V.l 1 (List.map (fun l => V.l 6 (List.map GInst.e l)) x124.2.2.w.tables.codes)), .v false (V.l 8 (List.map GFact.e x124.2.2.w.facts)), .v true (vi x124.2.2.day), .v true (vi x124.2.2.known), .o 7004 0 q125 5 0 x124.2.2.reads.length]), .e 7004 0 q125 (.row 100 (els true (List.map GRead.e x124.2.2.reads)))] (.cons 9004 0 D2 0 rfl (.nil _)) (.cons (.cellN (z := 6) rfl rfl rfl rfl rfl rfl (.flat rfl)) (.cons (.cell1 rfl rfl rfl rfl (.flat rfl)) .nil)) ⟨q125, by cases hr; rfl, by cases hr; rfl⟩ ⟨(.w rfl (.cons .old (.cons .old (.cons .old (.cons .old (.cons .old (.cons .old (.cons .old (.cons .old (.cons .old (.cons .old (.cons .old (.cons (.flat rfl) (.cons (.flat rfl) (.cons .rfl .nil))))))))))))))), ⟨(.e rfl), trivial⟩⟩
      · replace H := cf hc H
        refine ev_skip ?_
        exact ⟨rfl, _, (.inr (.inr (.inl ⟨rfl, p7, x124.1, x124.2.1, x124.2.2.w.tables.source.units, x124.2.2.w.tables.source.items, x124.2.2.w.tables.source.plants, x124.2.2.w.tables.source.machines, x124.2.2.w.tables.source.options, x124.2.2.w.tables.source.forbids, x124.2.2.w.tables.source.recipes, x124.2.2.w.tables.source.swaps, x124.2.2.w.tables.levels, x124.2.2.w.tables.codes, x124.2.2.w.facts, x124.2.2.day, x124.2.2.known, x124.2.2.reads, q125, H, rfl⟩))), cov_mk rfl ⟨rfl, ⟨rfl, ⟨rfl, ⟨rfl, trivial⟩⟩⟩⟩ ⟨rfl, ⟨rfl, ⟨rfl, ⟨rfl, ⟨rfl, ⟨rfl, ⟨rfl, trivial⟩⟩⟩⟩⟩⟩⟩ rfl⟩
    · obtain rfl := stock_keys_at2 he
      subst j116_e
      refine ev_shift (shift_wkd (s := 12) (d' := .p 4 0 b2 (0 + 3)) rfl .of_rawp) ?_
      refine ev_seq ?_
      refine ev_region ?_
      refine re rfl (e_alloc 6 0 rfl rfl) ?_; rintro _ ⟨b126, rfl⟩
      refine re rfl (e_store rfl rfl rfl rfl rfl (Nat.le_of_ble_eq_true rfl) rfl) ?_; rintro _ rfl
      refine run_nil ?_
      refine ev_region ?_
      refine rq rfl rfl (q_assign rfl) ?_
      refine run_nil ?_
      refine ⟨rfl, ?_⟩
      refine ev_block ?_
      refine ev_seq ?_
      refine ev_region ?_
      refine rq rfl rfl (q_move rfl) ?_
      refine rq rfl rfl (q_load1 rfl rfl rfl) ?_
      refine rq rfl rfl (q_loadN rfl rfl rfl rfl) ?_
      obtain ⟨x127, x127_h, H⟩ := bd_inv H
      refine re rfl (e_callR [7000, 7004] rfl (.v _ _ []) rfl inferInstance (stock_looker_at_c  x127_h) ⟨(.w rfl (.cons .old (.cons .old (.cons .old (.cons .old (.cons .old (.cons .old (.cons .old (.cons .old (.cons .old (.cons .old (.cons .old (.cons (.flat rfl) (.cons (.flat rfl) (.cons .rfl .nil))))))))))))))), ⟨(.e rfl), trivial⟩⟩ rfl rfl) ?_; rintro _ ⟨_, _, ⟨q128, rfl, rfl⟩, rfl⟩
      refine rq rfl rfl (q_move rfl) ?_
      refine rq rfl rfl (q_extractD rfl rfl) ?_
      refine rq rfl rfl (q_extractD rfl rfl) ?_
      refine rq rfl rfl (q_nil rfl) ?_
      refine re rfl (e_store1 rfl rfl rfl rfl rfl (Nat.le_of_ble_eq_true rfl) rfl) ?_; rintro _ rfl
      refine re rfl (e_store1 rfl rfl rfl rfl rfl (Nat.le_of_ble_eq_true rfl) rfl) ?_; rintro _ rfl
      refine run_nil ?_
      refine ev_seq ?_
      refine ev_region ?_
      refine rq rfl rfl (q_load1 rfl rfl rfl) ?_
      refine rq rfl rfl (q_not rfl) ?_
      refine run_nil ?_
      refine ev_cond rfl (fun hc => ?_) (fun hc => ?_)
      · replace H := ct hc H
        refine ev_seq ?_
        refine ev_region ?_
        refine rq rfl rfl (q_build rfl .nil) ?_
        refine re rfl (e_store rfl rfl rfl rfl rfl (Nat.le_of_ble_eq_true rfl) rfl) ?_; rintro _ rfl
        refine re rfl (e_store1 rfl rfl rfl rfl rfl (Nat.le_of_ble_eq_true rfl) rfl) ?_; rintro _ rfl
        refine run_nil ?_
        refine ev_ret ?_
        refine ⟨rfl, mkS [(2, .p 2 0 b1 0), (4, .p 4 0 b2 0), (5, .p 5 0 b3 0), (10, .v true (.c 96 [.q [rawp b2 0]]))] [.e 2 0 (some (b1, 1)) (.row 113 [.p 7000 0 b_a0 0]), .e 4 0 (some (b2, 6)) (.row 60 [.v true (vi ((⟨0, 0, 0, 0, 0, 0⟩ : GLot).no_)), .v true (vi ((⟨0, 0, 0, 0, 0, 0⟩ : GLot).item)), .v true (vi ((⟨0, 0, 0, 0, 0, 0⟩ : GLot).plant)), .v true (vi ((⟨0, 0, 0, 0, 0, 0⟩ : GLot).amount)), .v true (vi ((⟨0, 0, 0, 0, 0, 0⟩ : GLot).expiry)), .v true (vi ((⟨0, 0, 0, 0, 0, 0⟩ : GLot).state))]), .e 5 0 (some (b3, 1)) (.row 4 [.v true (vb false)]), .e 7000 0 (some (b_a0, 14)) (.row 115 [.v false (V.l 8 (List.map GUnit.e x127.2.2.w.tables.source.units)), .v false (V.l 6 (List.map GItem.e x127.2.2.w.tables.source.items)), .v false (V.l 1 (List.map V.s x127.2.2.w.tables.source.plants)), .v false (V.l 4 (List.map GMachine.e x127.2.2.w.tables.source.machines)), .v false (V.l 2 (List.map GOption.e x127.2.2.w.tables.source.options)), .v false (V.l 1 (List.map (fun l => V.l 4 (List.map GCond.e l)) x127.2.2.w.tables.source.forbids)), .v false (V.l 17 (List.map GRecipe.e x127.2.2.w.tables.source.recipes)), .v false (V.l 4 (List.map GSwap.e x127.2.2.w.tables.source.swaps)), .v false (V.l 1 (List.map vi x127.2.2.w.tables.levels)), .v false (V.l 1 (List.map (fun l => V.l 6 (List.map GInst.e l)) x127.2.2.w.tables.codes)), .v false (V.l 8 (List.map GFact.e x127.2.2.w.facts)), .v true (vi x127.2.2.day), .v true (vi x127.2.2.known), .o 7004 0 q128 5 0 x127.2.2.reads.length]), .e 7004 0 q128 (.row 100 (els true (List.map GRead.e x127.2.2.reads))), .e 9004 0 (some (D2, 0)) (.obj (.deferred (some [])))] ({ target := .collected D2, args := #[] } :: []) (0, false), rfl, cov_mk rfl ⟨rfl, ⟨rfl, ⟨rfl, ⟨rfl, trivial⟩⟩⟩⟩ ⟨rfl, ⟨rfl, ⟨rfl, ⟨rfl, ⟨rfl, ⟨rfl, trivial⟩⟩⟩⟩⟩⟩ rfl, ?_⟩
        have hr := Option.some.inj H
        exact retRm [.v true (GLot.e (⟨0, 0, 0, 0, 0, 0⟩ : GLot)), .v true (vb false)] [.e 7000 0 (some (b_a0, 14)) (.row 115 [.v false (V.l 8 (List.map GUnit.e x127.2.2.w.tables.source.units)), .v false (V.l 6 (List.map GItem.e x127.2.2.w.tables.source.items)), .v false (V.l 1 (List.map V.s x127.2.2.w.tables.source.plants)), .v false (V.l 4 (List.map GMachine.e x127.2.2.w.tables.source.machines)), .v false (V.l 2 (List.map GOption.e x127.2.2.w.tables.source.options)), .v false (V.l 1 (List.map (fun l => V.l 4 (List.map GCond.e l)) x127.2.2.w.tables.source.forbids)), .v false (V.l 17 (List.map GRecipe.e x127.2.2.w.tables.source.recipes)), .v false (V.l 4 (List.map GSwap.e x127.2.2.w.tables.source.swaps)), .v false (V.l 1 (List.map vi x127.2.2.w.tables.levels)), .v false (V.l 1 (List.map (fun l => V.l 6 (List.map GInst.e l)) x127.2.2.w.tables.codes)), .v false (V.l 8 (List.map GFact.e x127.2.2.w.facts)), .v true (vi x127.2.2.day), .v true (vi x127.2.2.known), .o 7004 0 q128 5 0 x127.2.2.reads.length]), .e 7004 0 q128 (.row 100 (els true (List.map GRead.e x127.2.2.reads)))] (.cons 9004 0 D2 0 rfl (.nil _)) (.cons (.cellN (z := 6) rfl rfl rfl rfl rfl rfl (.flat rfl)) (.cons (.cell1 rfl rfl rfl rfl (.flat rfl)) .nil)) ⟨q128, by cases hr; rfl, by cases hr; rfl⟩ ⟨(.w rfl (.cons .old (.cons .old (.cons .old (.cons .old (.cons .old (.cons .old (.cons .old (.cons .old (.cons .old (.cons .old (.cons .old (.cons (.flat rfl) (.cons (.flat rfl) (.cons .rfl .nil))))))))))))))), ⟨(.e rfl), trivial⟩⟩
      · replace H := cf hc H
        refine ev_skip ?_
        exact ⟨rfl, _, (.inr (.inr (.inr (.inl ⟨rfl, p27, p28, x127.1, x127.2.1, x127.2.2.w.tables.source.units, x127.2.2.w.tables.source.items, x127.2.2.w.tables.source.plants, x127.2.2.w.tables.source.machines, x127.2.2.w.tables.source.options, x127.2.2.w.tables.source.forbids, x127.2.2.w.tables.source.recipes, x127.2.2.w.tables.source.swaps, x127.2.2.w.tables.levels, x127.2.2.w.tables.codes, x127.2.2.w.facts, x127.2.2.day, x127.2.2.known, x127.2.2.reads, q128, H, rfl⟩)))), cov_mk rfl ⟨rfl, ⟨rfl, ⟨rfl, ⟨rfl, trivial⟩⟩⟩⟩ ⟨rfl, ⟨rfl, ⟨rfl, ⟨rfl, ⟨rfl, ⟨rfl, ⟨rfl, trivial⟩⟩⟩⟩⟩⟩⟩ rfl⟩
    · obtain rfl := stock_keys_at3 he
      subst j117_e
      refine ev_shift (shift_wkd (s := 12) (d' := .p 4 0 b2 (0 + 4)) rfl .of_rawp) ?_
      refine ev_seq ?_
      refine ev_region ?_
      refine re rfl (e_alloc 6 0 rfl rfl) ?_; rintro _ ⟨b129, rfl⟩
      refine re rfl (e_store rfl rfl rfl rfl rfl (Nat.le_of_ble_eq_true rfl) rfl) ?_; rintro _ rfl
      refine run_nil ?_
      refine ev_region ?_
      refine rq rfl rfl (q_assign rfl) ?_
      refine run_nil ?_
      refine ⟨rfl, ?_⟩
      refine ev_block ?_
      refine ev_seq ?_
      refine ev_region ?_
      refine rq rfl rfl (q_move rfl) ?_
      refine rq rfl rfl (q_load1 rfl rfl rfl) ?_
      refine rq rfl rfl (q_loadN rfl rfl rfl rfl) ?_
      obtain ⟨x130, x130_h, H⟩ := bd_inv H
      refine re rfl (e_callR [7000, 7004] rfl (.v _ _ []) rfl inferInstance (stock_looker_at_c  x130_h) ⟨(.w rfl (.cons .old (.cons .old (.cons .old (.cons .old (.cons .old (.cons .old (.cons .old (.cons .old (.cons .old (.cons .old (.cons .old (.cons (.flat rfl) (.cons (.flat rfl) (.cons .rfl .nil))))))))))))))), ⟨(.e rfl), trivial⟩⟩ rfl rfl) ?_; rintro _ ⟨_, _, ⟨q131, rfl, rfl⟩, rfl⟩
      refine rq rfl rfl (q_move rfl) ?_
      refine rq rfl rfl (q_extractD rfl rfl) ?_
      refine rq rfl rfl (q_extractD rfl rfl) ?_
      refine rq rfl rfl (q_nil rfl) ?_
      refine re rfl (e_store1 rfl rfl rfl rfl rfl (Nat.le_of_ble_eq_true rfl) rfl) ?_; rintro _ rfl
      refine re rfl (e_store1 rfl rfl rfl rfl rfl (Nat.le_of_ble_eq_true rfl) rfl) ?_; rintro _ rfl
      refine run_nil ?_
      refine ev_seq ?_
      refine ev_region ?_
      refine rq rfl rfl (q_load1 rfl rfl rfl) ?_
      refine rq rfl rfl (q_not rfl) ?_
      refine run_nil ?_
      refine ev_cond rfl (fun hc => ?_) (fun hc => ?_)
      · replace H := ct hc H
        refine ev_seq ?_
        refine ev_region ?_
        refine rq rfl rfl (q_build rfl .nil) ?_
        refine re rfl (e_store rfl rfl rfl rfl rfl (Nat.le_of_ble_eq_true rfl) rfl) ?_; rintro _ rfl
        refine re rfl (e_store1 rfl rfl rfl rfl rfl (Nat.le_of_ble_eq_true rfl) rfl) ?_; rintro _ rfl
        refine run_nil ?_
        refine ev_ret ?_
        refine ⟨rfl, mkS [(2, .p 2 0 b1 0), (4, .p 4 0 b2 0), (5, .p 5 0 b3 0), (10, .v true (.c 96 [.q [rawp b2 0]]))] [.e 2 0 (some (b1, 1)) (.row 113 [.p 7000 0 b_a0 0]), .e 4 0 (some (b2, 6)) (.row 60 [.v true (vi ((⟨0, 0, 0, 0, 0, 0⟩ : GLot).no_)), .v true (vi ((⟨0, 0, 0, 0, 0, 0⟩ : GLot).item)), .v true (vi ((⟨0, 0, 0, 0, 0, 0⟩ : GLot).plant)), .v true (vi ((⟨0, 0, 0, 0, 0, 0⟩ : GLot).amount)), .v true (vi ((⟨0, 0, 0, 0, 0, 0⟩ : GLot).expiry)), .v true (vi ((⟨0, 0, 0, 0, 0, 0⟩ : GLot).state))]), .e 5 0 (some (b3, 1)) (.row 4 [.v true (vb false)]), .e 7000 0 (some (b_a0, 14)) (.row 115 [.v false (V.l 8 (List.map GUnit.e x130.2.2.w.tables.source.units)), .v false (V.l 6 (List.map GItem.e x130.2.2.w.tables.source.items)), .v false (V.l 1 (List.map V.s x130.2.2.w.tables.source.plants)), .v false (V.l 4 (List.map GMachine.e x130.2.2.w.tables.source.machines)), .v false (V.l 2 (List.map GOption.e x130.2.2.w.tables.source.options)), .v false (V.l 1 (List.map (fun l => V.l 4 (List.map GCond.e l)) x130.2.2.w.tables.source.forbids)), .v false (V.l 17 (List.map GRecipe.e x130.2.2.w.tables.source.recipes)), .v false (V.l 4 (List.map GSwap.e x130.2.2.w.tables.source.swaps)), .v false (V.l 1 (List.map vi x130.2.2.w.tables.levels)), .v false (V.l 1 (List.map (fun l => V.l 6 (List.map GInst.e l)) x130.2.2.w.tables.codes)), .v false (V.l 8 (List.map GFact.e x130.2.2.w.facts)), .v true (vi x130.2.2.day), .v true (vi x130.2.2.known), .o 7004 0 q131 5 0 x130.2.2.reads.length]), .e 7004 0 q131 (.row 100 (els true (List.map GRead.e x130.2.2.reads))), .e 9004 0 (some (D2, 0)) (.obj (.deferred (some [])))] ({ target := .collected D2, args := #[] } :: []) (0, false), rfl, cov_mk rfl ⟨rfl, ⟨rfl, ⟨rfl, ⟨rfl, trivial⟩⟩⟩⟩ ⟨rfl, ⟨rfl, ⟨rfl, ⟨rfl, ⟨rfl, ⟨rfl, trivial⟩⟩⟩⟩⟩⟩ rfl, ?_⟩
        have hr := Option.some.inj H
        exact retRm [.v true (GLot.e (⟨0, 0, 0, 0, 0, 0⟩ : GLot)), .v true (vb false)] [.e 7000 0 (some (b_a0, 14)) (.row 115 [.v false (V.l 8 (List.map GUnit.e x130.2.2.w.tables.source.units)), .v false (V.l 6 (List.map GItem.e x130.2.2.w.tables.source.items)), .v false (V.l 1 (List.map V.s x130.2.2.w.tables.source.plants)), .v false (V.l 4 (List.map GMachine.e x130.2.2.w.tables.source.machines)), .v false (V.l 2 (List.map GOption.e x130.2.2.w.tables.source.options)), .v false (V.l 1 (List.map (fun l => V.l 4 (List.map GCond.e l)) x130.2.2.w.tables.source.forbids)), .v false (V.l 17 (List.map GRecipe.e x130.2.2.w.tables.source.recipes)), .v false (V.l 4 (List.map GSwap.e x130.2.2.w.tables.source.swaps)), .v false (V.l 1 (List.map vi x130.2.2.w.tables.levels)), .v false (V.l 1 (List.map (fun l => V.l 6 (List.map GInst.e l)) x130.2.2.w.tables.codes)), .v false (V.l 8 (List.map GFact.e x130.2.2.w.facts)), .v true (vi x130.2.2.day), .v true (vi x130.2.2.known), .o 7004 0 q131 5 0 x130.2.2.reads.length]), .e 7004 0 q131 (.row 100 (els true (List.map GRead.e x130.2.2.reads)))] (.cons 9004 0 D2 0 rfl (.nil _)) (.cons (.cellN (z := 6) rfl rfl rfl rfl rfl rfl (.flat rfl)) (.cons (.cell1 rfl rfl rfl rfl (.flat rfl)) .nil)) ⟨q131, by cases hr; rfl, by cases hr; rfl⟩ ⟨(.w rfl (.cons .old (.cons .old (.cons .old (.cons .old (.cons .old (.cons .old (.cons .old (.cons .old (.cons .old (.cons .old (.cons .old (.cons (.flat rfl) (.cons (.flat rfl) (.cons .rfl .nil))))))))))))))), ⟨(.e rfl), trivial⟩⟩
      · replace H := cf hc H
        refine ev_skip ?_
        exact ⟨rfl, _, (.inr (.inr (.inr (.inr (.inl ⟨rfl, p48, p49, p50, x130.1, x130.2.1, x130.2.2.w.tables.source.units, x130.2.2.w.tables.source.items, x130.2.2.w.tables.source.plants, x130.2.2.w.tables.source.machines, x130.2.2.w.tables.source.options, x130.2.2.w.tables.source.forbids, x130.2.2.w.tables.source.recipes, x130.2.2.w.tables.source.swaps, x130.2.2.w.tables.levels, x130.2.2.w.tables.codes, x130.2.2.w.facts, x130.2.2.day, x130.2.2.known, x130.2.2.reads, q131, H, rfl⟩))))), cov_mk rfl ⟨rfl, ⟨rfl, ⟨rfl, ⟨rfl, trivial⟩⟩⟩⟩ ⟨rfl, ⟨rfl, ⟨rfl, ⟨rfl, ⟨rfl, ⟨rfl, ⟨rfl, trivial⟩⟩⟩⟩⟩⟩⟩ rfl⟩
    · obtain rfl := stock_keys_at4 he
      subst j118_e
      refine ev_shift (shift_wkd (s := 12) (d' := .p 4 0 b2 (0 + 5)) rfl .of_rawp) ?_
      refine ev_seq ?_
      refine ev_region ?_
      refine re rfl (e_alloc 6 0 rfl rfl) ?_; rintro _ ⟨b132, rfl⟩
      refine re rfl (e_store rfl rfl rfl rfl rfl (Nat.le_of_ble_eq_true rfl) rfl) ?_; rintro _ rfl
      refine run_nil ?_
      refine ev_region ?_
      refine rq rfl rfl (q_assign rfl) ?_
      refine run_nil ?_
      refine ⟨rfl, ?_⟩
      refine ev_block ?_
      refine ev_seq ?_
      refine ev_region ?_
      refine rq rfl rfl (q_move rfl) ?_
      refine rq rfl rfl (q_load1 rfl rfl rfl) ?_
      refine rq rfl rfl (q_loadN rfl rfl rfl rfl) ?_
      obtain ⟨x133, x133_h, H⟩ := bd_inv H
      refine re rfl (e_callR [7000, 7004] rfl (.v _ _ []) rfl inferInstance (stock_looker_at_c  x133_h) ⟨(.w rfl (.cons .old (.cons .old (.cons .old (.cons .old (.cons .old (.cons .old (.cons .old (.cons .old (.cons .old (.cons .old (.cons .old (.cons (.flat rfl) (.cons (.flat rfl) (.cons .rfl .nil))))))))))))))), ⟨(.e rfl), trivial⟩⟩ rfl rfl) ?_; rintro _ ⟨_, _, ⟨q134, rfl, rfl⟩, rfl⟩
      refine rq rfl rfl (q_move rfl) ?_
      refine rq rfl rfl (q_extractD rfl rfl) ?_
      refine rq rfl rfl (q_extractD rfl rfl) ?_
      refine rq rfl rfl (q_nil rfl) ?_
      refine re rfl (e_store1 rfl rfl rfl rfl rfl (Nat.le_of_ble_eq_true rfl) rfl) ?_; rintro _ rfl
      refine re rfl (e_store1 rfl rfl rfl rfl rfl (Nat.le_of_ble_eq_true rfl) rfl) ?_; rintro _ rfl
      refine run_nil ?_
      refine ev_seq ?_
      refine ev_region ?_
      refine rq rfl rfl (q_load1 rfl rfl rfl) ?_
      refine rq rfl rfl (q_not rfl) ?_
      refine run_nil ?_
      refine ev_cond rfl (fun hc => ?_) (fun hc => ?_)
      · replace H := ct hc H
        refine ev_seq ?_
        refine ev_region ?_
        refine rq rfl rfl (q_build rfl .nil) ?_
        refine re rfl (e_store rfl rfl rfl rfl rfl (Nat.le_of_ble_eq_true rfl) rfl) ?_; rintro _ rfl
        refine re rfl (e_store1 rfl rfl rfl rfl rfl (Nat.le_of_ble_eq_true rfl) rfl) ?_; rintro _ rfl
        refine run_nil ?_
        refine ev_ret ?_
        refine ⟨rfl, mkS [(2, .p 2 0 b1 0), (4, .p 4 0 b2 0), (5, .p 5 0 b3 0), (10, .v true (.c 96 [.q [rawp b2 0]]))] [.e 2 0 (some (b1, 1)) (.row 113 [.p 7000 0 b_a0 0]), .e 4 0 (some (b2, 6)) (.row 60 [.v true (vi ((⟨0, 0, 0, 0, 0, 0⟩ : GLot).no_)), .v true (vi ((⟨0, 0, 0, 0, 0, 0⟩ : GLot).item)), .v true (vi ((⟨0, 0, 0, 0, 0, 0⟩ : GLot).plant)), .v true (vi ((⟨0, 0, 0, 0, 0, 0⟩ : GLot).amount)), .v true (vi ((⟨0, 0, 0, 0, 0, 0⟩ : GLot).expiry)), .v true (vi ((⟨0, 0, 0, 0, 0, 0⟩ : GLot).state))]), .e 5 0 (some (b3, 1)) (.row 4 [.v true (vb false)]), .e 7000 0 (some (b_a0, 14)) (.row 115 [.v false (V.l 8 (List.map GUnit.e x133.2.2.w.tables.source.units)), .v false (V.l 6 (List.map GItem.e x133.2.2.w.tables.source.items)), .v false (V.l 1 (List.map V.s x133.2.2.w.tables.source.plants)), .v false (V.l 4 (List.map GMachine.e x133.2.2.w.tables.source.machines)), .v false (V.l 2 (List.map GOption.e x133.2.2.w.tables.source.options)), .v false (V.l 1 (List.map (fun l => V.l 4 (List.map GCond.e l)) x133.2.2.w.tables.source.forbids)), .v false (V.l 17 (List.map GRecipe.e x133.2.2.w.tables.source.recipes)), .v false (V.l 4 (List.map GSwap.e x133.2.2.w.tables.source.swaps)), .v false (V.l 1 (List.map vi x133.2.2.w.tables.levels)), .v false (V.l 1 (List.map (fun l => V.l 6 (List.map GInst.e l)) x133.2.2.w.tables.codes)), .v false (V.l 8 (List.map GFact.e x133.2.2.w.facts)), .v true (vi x133.2.2.day), .v true (vi x133.2.2.known), .o 7004 0 q134 5 0 x133.2.2.reads.length]), .e 7004 0 q134 (.row 100 (els true (List.map GRead.e x133.2.2.reads))), .e 9004 0 (some (D2, 0)) (.obj (.deferred (some [])))] ({ target := .collected D2, args := #[] } :: []) (0, false), rfl, cov_mk rfl ⟨rfl, ⟨rfl, ⟨rfl, ⟨rfl, trivial⟩⟩⟩⟩ ⟨rfl, ⟨rfl, ⟨rfl, ⟨rfl, ⟨rfl, ⟨rfl, trivial⟩⟩⟩⟩⟩⟩ rfl, ?_⟩
        have hr := Option.some.inj H
        exact retRm [.v true (GLot.e (⟨0, 0, 0, 0, 0, 0⟩ : GLot)), .v true (vb false)] [.e 7000 0 (some (b_a0, 14)) (.row 115 [.v false (V.l 8 (List.map GUnit.e x133.2.2.w.tables.source.units)), .v false (V.l 6 (List.map GItem.e x133.2.2.w.tables.source.items)), .v false (V.l 1 (List.map V.s x133.2.2.w.tables.source.plants)), .v false (V.l 4 (List.map GMachine.e x133.2.2.w.tables.source.machines)), .v false (V.l 2 (List.map GOption.e x133.2.2.w.tables.source.options)), .v false (V.l 1 (List.map (fun l => V.l 4 (List.map GCond.e l)) x133.2.2.w.tables.source.forbids)), .v false (V.l 17 (List.map GRecipe.e x133.2.2.w.tables.source.recipes)), .v false (V.l 4 (List.map GSwap.e x133.2.2.w.tables.source.swaps)), .v false (V.l 1 (List.map vi x133.2.2.w.tables.levels)), .v false (V.l 1 (List.map (fun l => V.l 6 (List.map GInst.e l)) x133.2.2.w.tables.codes)), .v false (V.l 8 (List.map GFact.e x133.2.2.w.facts)), .v true (vi x133.2.2.day), .v true (vi x133.2.2.known), .o 7004 0 q134 5 0 x133.2.2.reads.length]), .e 7004 0 q134 (.row 100 (els true (List.map GRead.e x133.2.2.reads)))] (.cons 9004 0 D2 0 rfl (.nil _)) (.cons (.cellN (z := 6) rfl rfl rfl rfl rfl rfl (.flat rfl)) (.cons (.cell1 rfl rfl rfl rfl (.flat rfl)) .nil)) ⟨q134, by cases hr; rfl, by cases hr; rfl⟩ ⟨(.w rfl (.cons .old (.cons .old (.cons .old (.cons .old (.cons .old (.cons .old (.cons .old (.cons .old (.cons .old (.cons .old (.cons .old (.cons (.flat rfl) (.cons (.flat rfl) (.cons .rfl .nil))))))))))))))), ⟨(.e rfl), trivial⟩⟩
      · replace H := cf hc H
        refine ev_skip ?_
        exact ⟨rfl, _, (.inr (.inr (.inr (.inr (.inr ⟨rfl, p70, p71, p72, p73, x133.1, x133.2.1, x133.2.2.w.tables.source.units, x133.2.2.w.tables.source.items, x133.2.2.w.tables.source.plants, x133.2.2.w.tables.source.machines, x133.2.2.w.tables.source.options, x133.2.2.w.tables.source.forbids, x133.2.2.w.tables.source.recipes, x133.2.2.w.tables.source.swaps, x133.2.2.w.tables.levels, x133.2.2.w.tables.codes, x133.2.2.w.facts, x133.2.2.day, x133.2.2.known, x133.2.2.reads, q134, H, rfl⟩))))), cov_mk rfl ⟨rfl, ⟨rfl, ⟨rfl, ⟨rfl, trivial⟩⟩⟩⟩ ⟨rfl, ⟨rfl, ⟨rfl, ⟨rfl, ⟨rfl, ⟨rfl, ⟨rfl, trivial⟩⟩⟩⟩⟩⟩⟩ rfl⟩
    · exact (stock_keys_at5 he).elim
  · rintro _ (⟨hn, H, rfl⟩ | ⟨hn, p7, p8, p9, p10, p11, p12, p13, p14, p15, p16, p17, p18, p19, p20, p21, p22, q23, H, rfl⟩ | ⟨hn, p27, p28, p29, p30, p31, p32, p33, p34, p35, p36, p37, p38, p39, p40, p41, p42, p43, q44, H, rfl⟩ | ⟨hn, p48, p49, p50, p51, p52, p53, p54, p55, p56, p57, p58, p59, p60, p61, p62, p63, p64, p65, q66, H, rfl⟩ | ⟨hn, p70, p71, p72, p73, p74, p75, p76, p77, p78, p79, p80, p81, p82, p83, p84, p85, p86, p87, p88, q89, H, rfl⟩ | ⟨hn, p93, p94, p95, p96, p97, p98, p99, p100, p101, p102, p103, p104, p105, p106, p107, p108, p109, p110, p111, p112, q113, H, rfl⟩)
    · exact absurd hn (by rw [stock_keys_length]; decide)
    · exact absurd hn (by rw [stock_keys_length]; decide)
    · exact absurd hn (by rw [stock_keys_length]; decide)
    · exact absurd hn (by rw [stock_keys_length]; decide)
    · exact absurd hn (by rw [stock_keys_length]; decide)
    · subst j119_e
      refine ev_seq ?_
      refine ev_seq ?_
      refine ev_region ?_
      refine rq rfl rfl (q_loadN rfl rfl rfl rfl) ?_
      obtain ⟨x135, x135_h, H⟩ := bd_inv H
      refine rq rfl rfl (q_call rfl (.v _ _ (fun e => nomatch e)) (.v rfl ArgsOk.nil) inferInstance (stock_right_c  x135_h)) ?_
      refine rq rfl rfl (q_not rfl) ?_
      refine run_nil ?_
      refine ev_cond rfl (fun hc => ?_) (fun hc => ?_)
      · replace H := ct hc H
        refine ev_seq ?_
        refine ev_region ?_
        refine rq rfl rfl (q_build rfl .nil) ?_
        refine re rfl (e_store rfl rfl rfl rfl rfl (Nat.le_of_ble_eq_true rfl) rfl) ?_; rintro _ rfl
        refine re rfl (e_store1 rfl rfl rfl rfl rfl (Nat.le_of_ble_eq_true rfl) rfl) ?_; rintro _ rfl
        refine run_nil ?_
        refine ev_ret ?_
        have hr := Option.some.inj H
        exact retRm [.v true (GLot.e (⟨0, 0, 0, 0, 0, 0⟩ : GLot)), .v true (vb false)] [.e 7000 0 (some (b_a0, 14)) (.row 115 [.v false (V.l 8 (List.map GUnit.e ((⟨(⟨(⟨(⟨p99, p100, p101, p102, p103, p104, p105, p106⟩ : GSource), p107, p108⟩ : GTables), p109⟩ : GWorld), p110, p111, p112⟩ : GstockLooker).w.tables.source.units))), .v false (V.l 6 (List.map GItem.e ((⟨(⟨(⟨(⟨p99, p100, p101, p102, p103, p104, p105, p106⟩ : GSource), p107, p108⟩ : GTables), p109⟩ : GWorld), p110, p111, p112⟩ : GstockLooker).w.tables.source.items))), .v false (V.l 1 (List.map V.s ((⟨(⟨(⟨(⟨p99, p100, p101, p102, p103, p104, p105, p106⟩ : GSource), p107, p108⟩ : GTables), p109⟩ : GWorld), p110, p111, p112⟩ : GstockLooker).w.tables.source.plants))), .v false (V.l 4 (List.map GMachine.e ((⟨(⟨(⟨(⟨p99, p100, p101, p102, p103, p104, p105, p106⟩ : GSource), p107, p108⟩ : GTables), p109⟩ : GWorld), p110, p111, p112⟩ : GstockLooker).w.tables.source.machines))), .v false (V.l 2 (List.map GOption.e ((⟨(⟨(⟨(⟨p99, p100, p101, p102, p103, p104, p105, p106⟩ : GSource), p107, p108⟩ : GTables), p109⟩ : GWorld), p110, p111, p112⟩ : GstockLooker).w.tables.source.options))), .v false (V.l 1 (List.map (fun l => V.l 4 (List.map GCond.e l)) ((⟨(⟨(⟨(⟨p99, p100, p101, p102, p103, p104, p105, p106⟩ : GSource), p107, p108⟩ : GTables), p109⟩ : GWorld), p110, p111, p112⟩ : GstockLooker).w.tables.source.forbids))), .v false (V.l 17 (List.map GRecipe.e ((⟨(⟨(⟨(⟨p99, p100, p101, p102, p103, p104, p105, p106⟩ : GSource), p107, p108⟩ : GTables), p109⟩ : GWorld), p110, p111, p112⟩ : GstockLooker).w.tables.source.recipes))), .v false (V.l 4 (List.map GSwap.e ((⟨(⟨(⟨(⟨p99, p100, p101, p102, p103, p104, p105, p106⟩ : GSource), p107, p108⟩ : GTables), p109⟩ : GWorld), p110, p111, p112⟩ : GstockLooker).w.tables.source.swaps))), .v false (V.l 1 (List.map vi ((⟨(⟨(⟨(⟨p99, p100, p101, p102, p103, p104, p105, p106⟩ : GSource), p107, p108⟩ : GTables), p109⟩ : GWorld), p110, p111, p112⟩ : GstockLooker).w.tables.levels))), .v false (V.l 1 (List.map (fun l => V.l 6 (List.map GInst.e l)) ((⟨(⟨(⟨(⟨p99, p100, p101, p102, p103, p104, p105, p106⟩ : GSource), p107, p108⟩ : GTables), p109⟩ : GWorld), p110, p111, p112⟩ : GstockLooker).w.tables.codes))), .v false (V.l 8 (List.map GFact.e ((⟨(⟨(⟨(⟨p99, p100, p101, p102, p103, p104, p105, p106⟩ : GSource), p107, p108⟩ : GTables), p109⟩ : GWorld), p110, p111, p112⟩ : GstockLooker).w.facts))), .v true (vi ((⟨(⟨(⟨(⟨p99, p100, p101, p102, p103, p104, p105, p106⟩ : GSource), p107, p108⟩ : GTables), p109⟩ : GWorld), p110, p111, p112⟩ : GstockLooker).day)), .v true (vi ((⟨(⟨(⟨(⟨p99, p100, p101, p102, p103, p104, p105, p106⟩ : GSource), p107, p108⟩ : GTables), p109⟩ : GWorld), p110, p111, p112⟩ : GstockLooker).known)), .o 7004 0 q113 5 0 (((⟨(⟨(⟨(⟨p99, p100, p101, p102, p103, p104, p105, p106⟩ : GSource), p107, p108⟩ : GTables), p109⟩ : GWorld), p110, p111, p112⟩ : GstockLooker).reads).length)]), .e 7004 0 q113 (.row 100 (els true (List.map GRead.e ((⟨(⟨(⟨(⟨p99, p100, p101, p102, p103, p104, p105, p106⟩ : GSource), p107, p108⟩ : GTables), p109⟩ : GWorld), p110, p111, p112⟩ : GstockLooker).reads))))] (.cons 9004 0 D2 0 rfl (.nil _)) (.cons (.cellN (z := 6) rfl rfl rfl rfl rfl rfl (.flat rfl)) (.cons (.cell1 rfl rfl rfl rfl (.flat rfl)) .nil)) ⟨q113, by cases hr; rfl, by cases hr; rfl⟩ ⟨(.w rfl (.cons .old (.cons .old (.cons .old (.cons .old (.cons .old (.cons .old (.cons .old (.cons .old (.cons .old (.cons .old (.cons .old (.cons (.flat rfl) (.cons (.flat rfl) (.cons .rfl .nil))))))))))))))), ⟨(.e rfl), trivial⟩⟩
      · replace H := cf hc H
        refine ev_skip ?_
        refine ev_seq ?_
        refine ev_region ?_
        refine rq rfl rfl (q_loadN rfl rfl rfl rfl) ?_
        refine re rfl (e_store rfl rfl rfl rfl rfl (Nat.le_of_ble_eq_true rfl) rfl) ?_; rintro _ rfl
        refine re rfl (e_store1 rfl rfl rfl rfl rfl (Nat.le_of_ble_eq_true rfl) rfl) ?_; rintro _ rfl
        refine run_nil ?_
        refine ev_ret ?_
        have hr := Option.some.inj H
        exact retRm [.v true (GLot.e (⟨a1, p93, p94, p95, p96, p97⟩ : GLot)), .v true (vb true)] [.e 7000 0 (some (b_a0, 14)) (.row 115 [.v false (V.l 8 (List.map GUnit.e ((⟨(⟨(⟨(⟨p99, p100, p101, p102, p103, p104, p105, p106⟩ : GSource), p107, p108⟩ : GTables), p109⟩ : GWorld), p110, p111, p112⟩ : GstockLooker).w.tables.source.units))), .v false (V.l 6 (List.map GItem.e ((⟨(⟨(⟨(⟨p99, p100, p101, p102, p103, p104, p105, p106⟩ : GSource), p107, p108⟩ : GTables), p109⟩ : GWorld), p110, p111, p112⟩ : GstockLooker).w.tables.source.items))), .v false (V.l 1 (List.map V.s ((⟨(⟨(⟨(⟨p99, p100, p101, p102, p103, p104, p105, p106⟩ : GSource), p107, p108⟩ : GTables), p109⟩ : GWorld), p110, p111, p112⟩ : GstockLooker).w.tables.source.plants))), .v false (V.l 4 (List.map GMachine.e ((⟨(⟨(⟨(⟨p99, p100, p101, p102, p103, p104, p105, p106⟩ : GSource), p107, p108⟩ : GTables), p109⟩ : GWorld), p110, p111, p112⟩ : GstockLooker).w.tables.source.machines))), .v false (V.l 2 (List.map GOption.e ((⟨(⟨(⟨(⟨p99, p100, p101, p102, p103, p104, p105, p106⟩ : GSource), p107, p108⟩ : GTables), p109⟩ : GWorld), p110, p111, p112⟩ : GstockLooker).w.tables.source.options))), .v false (V.l 1 (List.map (fun l => V.l 4 (List.map GCond.e l)) ((⟨(⟨(⟨(⟨p99, p100, p101, p102, p103, p104, p105, p106⟩ : GSource), p107, p108⟩ : GTables), p109⟩ : GWorld), p110, p111, p112⟩ : GstockLooker).w.tables.source.forbids))), .v false (V.l 17 (List.map GRecipe.e ((⟨(⟨(⟨(⟨p99, p100, p101, p102, p103, p104, p105, p106⟩ : GSource), p107, p108⟩ : GTables), p109⟩ : GWorld), p110, p111, p112⟩ : GstockLooker).w.tables.source.recipes))), .v false (V.l 4 (List.map GSwap.e ((⟨(⟨(⟨(⟨p99, p100, p101, p102, p103, p104, p105, p106⟩ : GSource), p107, p108⟩ : GTables), p109⟩ : GWorld), p110, p111, p112⟩ : GstockLooker).w.tables.source.swaps))), .v false (V.l 1 (List.map vi ((⟨(⟨(⟨(⟨p99, p100, p101, p102, p103, p104, p105, p106⟩ : GSource), p107, p108⟩ : GTables), p109⟩ : GWorld), p110, p111, p112⟩ : GstockLooker).w.tables.levels))), .v false (V.l 1 (List.map (fun l => V.l 6 (List.map GInst.e l)) ((⟨(⟨(⟨(⟨p99, p100, p101, p102, p103, p104, p105, p106⟩ : GSource), p107, p108⟩ : GTables), p109⟩ : GWorld), p110, p111, p112⟩ : GstockLooker).w.tables.codes))), .v false (V.l 8 (List.map GFact.e ((⟨(⟨(⟨(⟨p99, p100, p101, p102, p103, p104, p105, p106⟩ : GSource), p107, p108⟩ : GTables), p109⟩ : GWorld), p110, p111, p112⟩ : GstockLooker).w.facts))), .v true (vi ((⟨(⟨(⟨(⟨p99, p100, p101, p102, p103, p104, p105, p106⟩ : GSource), p107, p108⟩ : GTables), p109⟩ : GWorld), p110, p111, p112⟩ : GstockLooker).day)), .v true (vi ((⟨(⟨(⟨(⟨p99, p100, p101, p102, p103, p104, p105, p106⟩ : GSource), p107, p108⟩ : GTables), p109⟩ : GWorld), p110, p111, p112⟩ : GstockLooker).known)), .o 7004 0 q113 5 0 (((⟨(⟨(⟨(⟨p99, p100, p101, p102, p103, p104, p105, p106⟩ : GSource), p107, p108⟩ : GTables), p109⟩ : GWorld), p110, p111, p112⟩ : GstockLooker).reads).length)]), .e 7004 0 q113 (.row 100 (els true (List.map GRead.e ((⟨(⟨(⟨(⟨p99, p100, p101, p102, p103, p104, p105, p106⟩ : GSource), p107, p108⟩ : GTables), p109⟩ : GWorld), p110, p111, p112⟩ : GstockLooker).reads))))] (.cons 9004 0 D2 0 rfl (.nil _)) (.cons (.cellN (z := 6) rfl rfl rfl rfl rfl rfl (.flat rfl)) (.cons (.cell1 rfl rfl rfl rfl (.flat rfl)) .nil)) ⟨q113, by cases hr; rfl, by cases hr; rfl⟩ ⟨(.w rfl (.cons .old (.cons .old (.cons .old (.cons .old (.cons .old (.cons .old (.cons .old (.cons .old (.cons .old (.cons .old (.cons .old (.cons (.flat rfl) (.cons (.flat rfl) (.cons .rfl .nil))))))))))))))), ⟨(.e rfl), trivial⟩⟩
def stock_Lot_m (a0 : GWorld) (a1 : Int) (a2 : Int) (a3 : Int) : Option (GLot × (List GRead) × Bool) := bd (stock_isDay_m a2) fun x3 => bif !x3 then (some ((⟨0, 0, 0, 0, 0, 0⟩ : GLot), [], false)) else (jn (fun (p6 : Bool) (p7 : Int) (p8 : Int) (p9 : Int) (p10 : Int) (p11 : Int) (p12 : Int) (p13 : List GUnit) (p14 : List GItem) (p15 : List ByteArray) (p16 : List GMachine) (p17 : List GOption) (p18 : List (List GCond)) (p19 : List GRecipe) (p20 : List GSwap) (p21 : List Int) (p22 : List (List GInst)) (p23 : List GFact) (p24 : Int) (p25 : Int) (p26 : List GRead) => some ((⟨p7, p8, p9, p10, p11, p12⟩ : GLot), p26, p6)) fun j5 => bd (stock_looker_many_m (⟨a0, a2, a3, ([] : List GRead)⟩ : GstockLooker)) fun x28 => bif bif decide (0 ≤ a1) then decide (a1 < x28.1) else false then (bd (stock_looker_lot_m x28.2 a1) fun x30 => j5 x30.2.1 x30.1.no_ x30.1.item x30.1.plant x30.1.amount x30.1.expiry x30.1.state x30.2.2.w.tables.source.units x30.2.2.w.tables.source.items x30.2.2.w.tables.source.plants x30.2.2.w.tables.source.machines x30.2.2.w.tables.source.options x30.2.2.w.tables.source.forbids x30.2.2.w.tables.source.recipes x30.2.2.w.tables.source.swaps x30.2.2.w.tables.levels x30.2.2.w.tables.codes x30.2.2.w.facts x30.2.2.day x30.2.2.known x30.2.2.reads) else (j5 false 0 0 0 0 0 0 x28.2.w.tables.source.units x28.2.w.tables.source.items x28.2.w.tables.source.plants x28.2.w.tables.source.machines x28.2.w.tables.source.options x28.2.w.tables.source.forbids x28.2.w.tables.source.recipes x28.2.w.tables.source.swaps x28.2.w.tables.levels x28.2.w.tables.codes x28.2.w.facts x28.2.day x28.2.known x28.2.reads))
theorem stock_Lot_c {a0 : GWorld} {a1 : Int} {a2 : Int} {a3 : Int} {r : GLot × (List GRead) × Bool} (H : stock_Lot_m a0 a1 a2 a3 = some r) : PureC Try.prog true 27 [GWorld.e a0, vi a1, vi a2, vi a3] (V.t [GLot.e r.1, V.l 5 (List.map GRead.e r.2.1), vb r.2.2]) := by
  unfold stock_Lot_m at H
  refine pure_intro (N := 43) Try.func27 rfl rfl rfl rfl fun C hO => ?_
  refine ev_shift (shift_mk (fs := [(0, .v false (GWorld.e a0)), (1, .v true (vi a1)), (2, .v true (vi a2)), (3, .v true (vi a3))]) (es := []) ⟨⟨_, rfl, .rfl⟩, ⟨⟨_, rfl, (.flat rfl)⟩, ⟨⟨_, rfl, (.flat rfl)⟩, ⟨⟨_, rfl, (.flat rfl)⟩, trivial⟩⟩⟩⟩ trivial rfl rfl) ?_
  refine ev_seq ?_
  refine ev_region ?_
  refine re rfl (e_box 4 0 rfl rfl rfl) ?_; rintro _ ⟨b1, rfl⟩
  refine re rfl (e_alloc 8 0 rfl rfl) ?_; rintro _ ⟨b2, rfl⟩
  refine rq rfl rfl (q_assign rfl) ?_
  refine rq rfl rfl (q_assign rfl) ?_
  refine run_nil ?_
  refine ev_seq ?_
  refine ev_seq ?_
  refine ev_region ?_
  refine rq rfl rfl (q_move rfl) ?_
  obtain ⟨x3, x3_h, H⟩ := bd_inv H
  refine rq rfl rfl (q_call rfl (.v _ _ (fun e => nomatch e)) (.v rfl ArgsOk.nil) inferInstance (stock_isDay_c  x3_h)) ?_
  refine rq rfl rfl (q_not rfl) ?_
  refine run_nil ?_
  refine ev_cond rfl (fun hc => ?_) (fun hc => ?_)
  · replace H := ct hc H
    refine ev_seq ?_
    refine ev_region ?_
    refine rq rfl rfl (q_loadN rfl rfl rfl rfl) ?_
    refine re rfl (e_store rfl rfl rfl rfl rfl (Nat.le_of_ble_eq_true rfl) rfl) ?_; rintro _ rfl
    refine rq rfl rfl (q_assign rfl) ?_
    refine rq rfl rfl (q_assign rfl) ?_
    refine run_nil ?_
    refine ev_ret ?_
    exact ret_ok [GLot.e (⟨0, 0, 0, 0, 0, 0⟩ : GLot), V.l 5 (List.map GRead.e []), vb false] (congrArg (fun r : GLot × (List GRead) × Bool => V.t [GLot.e r.1, V.l 5 (List.map GRead.e r.2.1), vb r.2.2]) (Option.some.inj H)) rfl (.cons (.cellN (z := 6) rfl rfl rfl rfl rfl rfl (.v _ _ (fun _ => rfl))) (.cons (.tmp rfl (.nil _ _)) (.cons (.tmp rfl (.v _ _ (fun _ => rfl))) .nil)))
  · replace H := cf hc H
    refine ev_skip ?_
    refine ev_seq ?_
    refine ev_region ?_
    refine rq rfl rfl (q_loadN rfl rfl rfl rfl) ?_
    refine rq rfl rfl (q_move rfl) ?_
    refine rq rfl rfl (q_move rfl) ?_
    refine rq rfl rfl (q_build (r := [V.l 8 (List.map GUnit.e a0.tables.source.units), V.l 6 (List.map GItem.e a0.tables.source.items), V.l 1 (List.map V.s a0.tables.source.plants), V.l 4 (List.map GMachine.e a0.tables.source.machines), V.l 2 (List.map GOption.e a0.tables.source.options), V.l 1 (List.map (fun l => V.l 4 (List.map GCond.e l)) a0.tables.source.forbids), V.l 17 (List.map GRecipe.e a0.tables.source.recipes), V.l 4 (List.map GSwap.e a0.tables.source.swaps), V.l 1 (List.map vi a0.tables.levels), V.l 1 (List.map (fun l => V.l 6 (List.map GInst.e l)) a0.tables.codes), V.l 8 (List.map GFact.e a0.facts), vi a2, vi a3, .raw (.slice none 0 0)]) rfl (.v rfl rfl rfl rfl rfl (.v rfl rfl rfl rfl rfl (.v rfl rfl rfl rfl rfl .nil)))) ?_
    refine re rfl (e_box 7000 0 rfl rfl rfl) ?_; rintro _ ⟨b4, rfl⟩
    refine run_shift (shift_norow 7004 0 100) ?_
    refine run_shift (shift_wk (k := 7000) (i := 0) (ys := [.v false (V.l 8 (List.map GUnit.e a0.tables.source.units)), .v false (V.l 6 (List.map GItem.e a0.tables.source.items)), .v false (V.l 1 (List.map V.s a0.tables.source.plants)), .v false (V.l 4 (List.map GMachine.e a0.tables.source.machines)), .v false (V.l 2 (List.map GOption.e a0.tables.source.options)), .v false (V.l 1 (List.map (fun l => V.l 4 (List.map GCond.e l)) a0.tables.source.forbids)), .v false (V.l 17 (List.map GRecipe.e a0.tables.source.recipes)), .v false (V.l 4 (List.map GSwap.e a0.tables.source.swaps)), .v false (V.l 1 (List.map vi a0.tables.levels)), .v false (V.l 1 (List.map (fun l => V.l 6 (List.map GInst.e l)) a0.tables.codes)), .v false (V.l 8 (List.map GFact.e a0.facts)), .v true (vi a2), .v true (vi a3), .o 7004 0 none 5 0 (([] : List GRead).length)]) rfl (.cons .rfl (.cons .rfl (.cons .rfl (.cons .rfl (.cons .rfl (.cons .rfl (.cons .rfl (.cons .rfl (.cons .rfl (.cons .rfl (.cons .rfl (.cons (.flat rfl) (.cons (.flat rfl) (.cons .nilo .nil))))))))))))))) ?_
    refine rq rfl rfl (q_assign rfl) ?_
    refine run_nil ?_
    obtain ⟨j5, j5_e, H⟩ := jn_inv H
    refine ev_join (fun σ' => ∃ (p6 : Bool) (p7 : Int) (p8 : Int) (p9 : Int) (p10 : Int) (p11 : Int) (p12 : Int) (p13 : List GUnit) (p14 : List GItem) (p15 : List ByteArray) (p16 : List GMachine) (p17 : List GOption) (p18 : List (List GCond)) (p19 : List GRecipe) (p20 : List GSwap) (p21 : List Int) (p22 : List (List GInst)) (p23 : List GFact) (p24 : Int) (p25 : Int) (p26 : List GRead) (q27 : Pl), j5 p6 p7 p8 p9 p10 p11 p12 p13 p14 p15 p16 p17 p18 p19 p20 p21 p22 p23 p24 p25 p26 = some r ∧ σ' = mkS [(8, .p 8 0 b2 0), (9, .v true (.raw (.slice none 0 0))), (10, .v true (vb p6)), (11, .p 7000 0 b4 0)] [.e 8 0 (some (b2, 6)) (.row 60 [.v true (vi p7), .v true (vi p8), .v true (vi p9), .v true (vi p10), .v true (vi p11), .v true (vi p12)]), .e 7000 0 (some (b4, 14)) (.row 115 [.v false (V.l 8 (List.map GUnit.e p13)), .v false (V.l 6 (List.map GItem.e p14)), .v false (V.l 1 (List.map V.s p15)), .v false (V.l 4 (List.map GMachine.e p16)), .v false (V.l 2 (List.map GOption.e p17)), .v false (V.l 1 (List.map (fun l => V.l 4 (List.map GCond.e l)) p18)), .v false (V.l 17 (List.map GRecipe.e p19)), .v false (V.l 4 (List.map GSwap.e p20)), .v false (V.l 1 (List.map vi p21)), .v false (V.l 1 (List.map (fun l => V.l 6 (List.map GInst.e l)) p22)), .v false (V.l 8 (List.map GFact.e p23)), .v true (vi p24), .v true (vi p25), .o 7004 0 q27 5 0 p26.length]), .e 7004 0 q27 (.row 100 (els true (List.map GRead.e p26)))] [] (0, false)) ?_ ?_
    · rintro _ ⟨p6, p7, p8, p9, p10, p11, p12, p13, p14, p15, p16, p17, p18, p19, p20, p21, p22, p23, p24, p25, p26, q27, H, rfl⟩
      subst j5_e
      refine ev_seq ?_
      refine ev_drawX (fun i => (assocN [(6, [8])] i).getD []) rfl ?_
      refine xq (r := some _) [] 0 (.start _) rfl (by kernel_rfl) (by kernel_rfl) ⟨rfl, .inl ⟨rfl, Quiet.norm (q_loadN rfl rfl rfl rfl)⟩⟩ rfl (fun hcl => ?_)
      refine xq (r := some _) [8] 1 hcl rfl (by kernel_rfl) (by kernel_rfl) ⟨rfl, .inl ⟨rfl, Quiet.norm (q_move rfl)⟩⟩ rfl (fun hcl => ?_)
      refine xq (r := some _) [8] 2 hcl rfl (by kernel_rfl) (by kernel_rfl) ⟨rfl, .inl ⟨rfl, Quiet.norm (q_nil rfl)⟩⟩ rfl (fun hcl => ?_)
      refine xq (r := some _) [8] 3 hcl rfl (by kernel_rfl) (by kernel_rfl) ⟨rfl, .inl ⟨rfl, Quiet.norm (q_fld_p rfl)⟩⟩ rfl (fun hcl => ?_)
      refine xq (r := some _) [8] 4 hcl rfl (by kernel_rfl) (by kernel_rfl) ⟨rfl, .inl ⟨rfl, Quiet.norm (q_load1 rfl rfl rfl)⟩⟩ rfl (fun hcl => ?_)
      refine xq (r := some _) [8] 5 hcl rfl (by kernel_rfl) (by kernel_rfl) ⟨rfl, .inl ⟨rfl, Quiet.norm (q_move rfl)⟩⟩ rfl (fun hcl => ?_)
      refine xb hcl (l := [6]) (by kernel_rfl) (by simp) (fun i hi hcl => ?_)
      obtain rfl : i = 6 := by simpa using hi
      refine xe rfl (x_store rfl rfl rfl rfl rfl (Nat.le_of_ble_eq_true rfl) rfl rfl) ?_; rintro _ rfl
      refine xq (r := some _) [] 7 hcl rfl (by kernel_rfl) (by kernel_rfl) ⟨rfl, .inl ⟨rfl, Quiet.norm (q_assign rfl)⟩⟩ rfl (fun hcl => ?_)
      refine xq (r := some _) [] 8 hcl rfl (by kernel_rfl) (by kernel_rfl) ⟨rfl, .inl ⟨rfl, Quiet.norm (q_assign rfl)⟩⟩ rfl (fun hcl => ?_)
      refine xn (by kernel_rfl) ?_
      refine ev_ret ?_
      exact ret_ok [GLot.e (⟨p7, p8, p9, p10, p11, p12⟩ : GLot), V.l 5 (List.map GRead.e p26), vb p6] (congrArg (fun r : GLot × (List GRead) × Bool => V.t [GLot.e r.1, V.l 5 (List.map GRead.e r.2.1), vb r.2.2]) (Option.some.inj H)) rfl (.cons (.cellN (z := 6) rfl rfl rfl rfl rfl rfl (.v _ _ (fun _ => rfl))) (.cons (.tmp rfl (.all rfl (List.length_map _) (els_plain fun _ => ⟨rfl, rfl⟩) (fun _ => rfl))) (.cons (.tmp rfl (.v _ _ (fun _ => rfl))) .nil)))
    · clear j5_e
      refine ev_seq ?_
      refine ev_region ?_
      refine rq rfl rfl (q_move rfl) ?_
      obtain ⟨x28, x28_h, H⟩ := bd_inv H
      refine re rfl (e_callR [7000, 7004] rfl (.v _ _ []) rfl inferInstance (stock_looker_many_c  x28_h) ⟨(.w rfl (.cons .old (.cons .old (.cons .old (.cons .old (.cons .old (.cons .old (.cons .old (.cons .old (.cons .old (.cons .old (.cons .old (.cons (.flat rfl) (.cons (.flat rfl) (.cons .rfl .nil))))))))))))))), ⟨(.e rfl), trivial⟩⟩ rfl rfl) ?_; rintro _ ⟨_, _, ⟨q29, rfl, rfl⟩, rfl⟩
      refine rq rfl rfl (q_assign rfl) ?_
      refine run_nil ?_
      refine ev_seq ?_
      refine ev_region ?_
      refine rq rfl rfl (q_move rfl) ?_
      refine rq rfl rfl (q_geq rfl rfl) ?_
      refine rq rfl rfl (q_move rfl) ?_
      refine rqc (l := []) ⟨⟨_, _, _, rfl, rfl, rfl, rfl⟩, rfl, fun hc => q_move rfl, trivial⟩ rfl ?_
      refine rqc (l := []) ⟨⟨_, _, _, rfl, rfl, rfl, rfl⟩, rfl, fun hc => q_move rfl, trivial⟩ rfl ?_
      refine rqc (l := [27, 28]) ⟨⟨_, _, _, rfl, rfl, rfl, rfl⟩, rfl, fun hc => q_lss rfl rfl, ⟨fun h => h, ⟨fun h => h, trivial⟩⟩⟩ rfl ?_
      refine rq rfl rfl (q_pickb rfl rfl rfl (PB.c (fun hp => hp)) PB.v) ?_
      refine run_nil ?_
      refine ev_cond rfl (fun hc => ?_) (fun hc => ?_)
      · replace H := ct hc H
        refine ev_region ?_
        refine rq rfl rfl (q_move rfl) ?_
        refine rq rfl rfl (q_move rfl) ?_
        obtain ⟨x30, x30_h, H⟩ := bd_inv H
        refine re rfl (e_callR [7000, 7004] rfl (.v _ _ []) rfl inferInstance (stock_looker_lot_c  x30_h) ⟨(.w rfl (.cons .old (.cons .old (.cons .old (.cons .old (.cons .old (.cons .old (.cons .old (.cons .old (.cons .old (.cons .old (.cons .old (.cons (.flat rfl) (.cons (.flat rfl) (.cons .rfl .nil))))))))))))))), ⟨(.e rfl), trivial⟩⟩ rfl rfl) ?_; rintro _ ⟨_, _, ⟨q31, rfl, rfl⟩, rfl⟩
        refine rq rfl rfl (q_move rfl) ?_
        refine rq rfl rfl (q_extractD rfl rfl) ?_
        refine rq rfl rfl (q_extractD rfl rfl) ?_
        refine re rfl (e_store rfl rfl rfl rfl rfl (Nat.le_of_ble_eq_true rfl) rfl) ?_; rintro _ rfl
        refine rq rfl rfl (q_assign rfl) ?_
        refine run_nil ?_
        exact ⟨_, ⟨x30.2.1, x30.1.no_, x30.1.item, x30.1.plant, x30.1.amount, x30.1.expiry, x30.1.state, x30.2.2.w.tables.source.units, x30.2.2.w.tables.source.items, x30.2.2.w.tables.source.plants, x30.2.2.w.tables.source.machines, x30.2.2.w.tables.source.options, x30.2.2.w.tables.source.forbids, x30.2.2.w.tables.source.recipes, x30.2.2.w.tables.source.swaps, x30.2.2.w.tables.levels, x30.2.2.w.tables.codes, x30.2.2.w.facts, x30.2.2.day, x30.2.2.known, x30.2.2.reads, q31, H, rfl⟩, shift_mk ⟨⟨_, rfl, .rfl⟩, ⟨⟨_, rfl, .rfl⟩, ⟨⟨_, rfl, (.flat rfl)⟩, ⟨⟨_, rfl, .rfl⟩, trivial⟩⟩⟩⟩ ⟨(.w rfl (.cons (.flat rfl) (.cons (.flat rfl) (.cons (.flat rfl) (.cons (.flat rfl) (.cons (.flat rfl) (.cons (.flat rfl) .nil))))))), ⟨(.w rfl (.cons .rfl (.cons .rfl (.cons .rfl (.cons .rfl (.cons .rfl (.cons .rfl (.cons .rfl (.cons .rfl (.cons .rfl (.cons .rfl (.cons .rfl (.cons (.flat rfl) (.cons (.flat rfl) (.cons .rfl .nil))))))))))))))), ⟨(.e rfl), trivial⟩⟩⟩ rfl rfl⟩
      · replace H := cf hc H
        refine ev_skip ?_
        exact ⟨_, ⟨false, 0, 0, 0, 0, 0, 0, x28.2.w.tables.source.units, x28.2.w.tables.source.items, x28.2.w.tables.source.plants, x28.2.w.tables.source.machines, x28.2.w.tables.source.options, x28.2.w.tables.source.forbids, x28.2.w.tables.source.recipes, x28.2.w.tables.source.swaps, x28.2.w.tables.levels, x28.2.w.tables.codes, x28.2.w.facts, x28.2.day, x28.2.known, x28.2.reads, q29, H, rfl⟩, shift_mk ⟨⟨_, rfl, .rfl⟩, ⟨⟨_, rfl, .rfl⟩, ⟨⟨_, rfl, (.flat rfl)⟩, ⟨⟨_, rfl, .rfl⟩, trivial⟩⟩⟩⟩ ⟨(.w rfl (.cons (.flat rfl) (.cons (.flat rfl) (.cons (.flat rfl) (.cons (.flat rfl) (.cons (.flat rfl) (.cons (.flat rfl) .nil))))))), ⟨(.w rfl (.cons .rfl (.cons .rfl (.cons .rfl (.cons .rfl (.cons .rfl (.cons .rfl (.cons .rfl (.cons .rfl (.cons .rfl (.cons .rfl (.cons .rfl (.cons (.flat rfl) (.cons (.flat rfl) (.cons .rfl .nil))))))))))))))), ⟨(.e rfl), trivial⟩⟩⟩ rfl rfl⟩
def slices_Clone_Read_m (a0 : List GRead) : Option (List GRead) := gd (decide ((([] : List GRead).length + a0.length) * 41 ≤ 140737488355328)) <| some (([] : List GRead) ++ a0)
theorem slices_Clone_Read_c {a0 : List GRead} {r : (List GRead)} (H : slices_Clone_Read_m a0 = some r) : PureC Try.prog true 45 [V.l 5 (List.map GRead.e a0)] (V.l 5 (List.map GRead.e r)) := by
  unfold slices_Clone_Read_m at H
  refine pure_intro (N := 8) Try.func45 rfl rfl rfl rfl fun C hO => ?_
  refine ev_seq ?_
  refine ev_region ?_
  refine rq rfl rfl (q_assign rfl) ?_
  refine run_nil ?_
  refine ev_seq ?_
  refine ev_seq ?_
  refine ev_region ?_
  refine rq rfl rfl (q_move rfl) ?_
  refine r_eqnil rfl rfl fun q1 q1_h => ?_
  refine run_nil ?_
  refine ev_cond rfl (fun hc => ?_) (fun hc => ?_)
  · replace q1_h := q1_h hc
    replace H : some [] = some r := by rw [q1_h] at H; simpa [gd, bd] using H
    refine ev_seq ?_
    refine ev_region ?_
    refine rq rfl rfl (q_assign rfl) ?_
    refine run_nil ?_
    refine ev_ret ?_
    exact ret_ok [V.l 5 (List.map GRead.e [])] (congrArg (fun r : (List GRead) => V.l 5 (List.map GRead.e r)) (Option.some.inj H)) rfl (.cons (.tmp rfl (.nil _ _)) .nil)
  · refine ev_skip ?_
    refine ev_seq ?_
    refine ev_region ?_
    refine re rfl (e_buildSlice 5 0 rfl rfl rfl rfl) ?_; rintro _ ⟨b2, rfl⟩
    refine rq rfl rfl (q_move rfl) ?_
    obtain ⟨w3, H⟩ := gdd_inv H
    refine re rfl (e_appt_f (f1 := true) rfl rfl rfl (fun _ => ⟨rfl, rfl⟩) (fun _ => rfl) rfl rfl rfl w3 rfl) ?_; rintro _ ⟨q4, rfl⟩
    refine rq rfl rfl (q_assign rfl) ?_
    refine run_nil ?_
    refine ev_ret ?_
    exact ret_ok [V.l 5 (List.map GRead.e (([] : List GRead) ++ a0))] (congrArg (fun r : (List GRead) => V.l 5 (List.map GRead.e r)) (Option.some.inj H)) rfl (.cons (.tmp rfl (.all rfl (List.length_map _) (els_plain fun _ => ⟨rfl, rfl⟩) (fun _ => rfl))) .nil)
theorem slices_Clone_Read_o {a0 : List GRead} {f_a0 : Bool} {r : (List GRead)} (H : slices_Clone_Read_m a0 = some r) : FnR Try.prog 45 [.v f_a0 (V.l 5 (List.map GRead.e a0))] [] (fun d es' => ∃ (q : Pl), d = .o 200045 0 q 5 0 r.length ∧ es' = [.e 200045 0 q (.row 100 (els true (List.map GRead.e r)))]) := by
  unfold slices_Clone_Read_m at H
  refine fnr_intro (N := 8) Try.func45 rfl rfl rfl rfl fun C => ?_
  refine ev_shift (shift_mk (fs := [(0, .v false (V.l 5 (List.map GRead.e a0)))]) (es := []) ⟨⟨_, rfl, .old⟩, trivial⟩ trivial rfl rfl) ?_
  refine ev_seq ?_
  refine ev_region ?_
  refine rq rfl rfl (q_assign rfl) ?_
  refine run_nil ?_
  refine ev_seq ?_
  refine ev_seq ?_
  refine ev_region ?_
  refine rq rfl rfl (q_move rfl) ?_
  refine r_eqnil rfl rfl fun q1 q1_h => ?_
  refine run_nil ?_
  refine ev_cond rfl (fun hc => ?_) (fun hc => ?_)
  · replace q1_h := q1_h hc
    replace H : some ([] : List GRead) = some r := by rw [q1_h] at H; simpa [gd, bd] using H
    refine ev_seq ?_
    refine ev_region ?_
    refine rq rfl rfl (q_assign rfl) ?_
    refine run_nil ?_
    refine ev_ret ?_
    have hr := Option.some.inj H
    exact retR [.o 200045 0 none 5 0 (([] : List GRead)).length] [.e 200045 0 none (.row 100 (els true (List.map GRead.e ([] : List GRead))))] rfl (.cons (.tmp rfl .nilo) .nil) ⟨none, by cases hr; rfl, by cases hr; rfl⟩ ⟨(.nn rfl), trivial⟩
  · refine ev_skip ?_
    refine ev_seq ?_
    refine ev_region ?_
    refine re rfl (e_buildSlice 200045 0 rfl rfl rfl rfl) ?_; rintro _ ⟨b2, rfl⟩
    refine rq rfl rfl (q_move rfl) ?_
    obtain ⟨w3, H⟩ := gdd_inv H
    refine re rfl (e_appt_f (f1 := true) rfl rfl rfl (fun _ => ⟨rfl, rfl⟩) (fun _ => rfl) rfl rfl rfl w3 rfl) ?_; rintro _ ⟨q4, rfl⟩
    refine rq rfl rfl (q_assign rfl) ?_
    refine run_nil ?_
    refine ev_ret ?_
    have hr := Option.some.inj H
    exact retR [.o 200045 0 q4 5 0 (([] : List GRead) ++ a0).length] [.e 200045 0 q4 (.row 100 (els true (List.map GRead.e (([] : List GRead) ++ a0))))] rfl (.cons (.tmp rfl .rfl) .nil) ⟨q4, by cases hr; rfl, by cases hr; rfl⟩ ⟨(.e rfl), trivial⟩
def quality_Certify_m (a0 : GWorld) (a1 : Int) (a2 : Int) (a3 : Int) (a4 : List GSpec) : Option (GCertificate × (List GRead) × Int) := bd (quality_valid_m a4 []) fun x3 => bif !x3 then (some ((⟨0, [], false⟩ : GCertificate), [], 400)) else (bd (stock_Lot_m a0 a1 a2 a3) fun x4 => bif !x4.2.2 then (some ((⟨0, [], false⟩ : GCertificate), [], 400)) else (bd (slices_Clone_Read_m x4.2.1) fun x6 => forL a4 (fun (k10 : Nat) (x17 : GSpec) (s8 : Bool × (List GRead) × (List GPoint)) loop9 => bd (quality_Result_m a0 a1 x17.test a2 a3) fun x21 => gd (decide ((s8.2.1.length + x21.2.1.length) * 41 ≤ 140737488355328)) <| jn (fun (p25 : List GPoint) => loop9 (bif bif bif s8.1 then x21.2.2 else false then decide (x17.lo ≤ x21.1) else false then decide (x21.1 ≤ x17.hi) else false, s8.2.1 ++ x21.2.1, p25)) fun j24 => bif x21.2.2 then (gd (decide ((s8.2.2.length + ([(⟨x17.test, x21.1⟩ : GPoint)] : List GPoint).length) * 17 ≤ 140737488355328)) <| j24 (s8.2.2 ++ ([(⟨x17.test, x21.1⟩ : GPoint)] : List GPoint))) else (j24 s8.2.2)) (fun (s8 : Bool × (List GRead) × (List GPoint)) => some ((⟨a1, s8.2.2, s8.1⟩ : GCertificate), s8.2.1, 0)) (true, x6, ([] : List GPoint))))
theorem quality_Certify_c {a0 : GWorld} {a1 : Int} {a2 : Int} {a3 : Int} {a4 : List GSpec} {r : GCertificate × (List GRead) × Int} (H : quality_Certify_m a0 a1 a2 a3 a4 = some r) : PureC Try.prog true 19 [GWorld.e a0, vi a1, vi a2, vi a3, V.l 3 (List.map GSpec.e a4)] (V.t [GCertificate.e r.1, V.l 5 (List.map GRead.e r.2.1), vi r.2.2]) := by
  unfold quality_Certify_m at H
  refine pure_intro (N := 92) Try.func19 rfl rfl rfl rfl fun C hO => ?_
  refine ev_shift (shift_mk (fs := [(0, .v false (GWorld.e a0)), (1, .v true (vi a1)), (2, .v true (vi a2)), (3, .v true (vi a3)), (4, .v false (V.l 3 (List.map GSpec.e a4)))]) (es := []) ⟨⟨_, rfl, .rfl⟩, ⟨⟨_, rfl, (.flat rfl)⟩, ⟨⟨_, rfl, (.flat rfl)⟩, ⟨⟨_, rfl, (.flat rfl)⟩, ⟨⟨_, rfl, .rfl⟩, trivial⟩⟩⟩⟩⟩ trivial rfl rfl) ?_
  refine ev_seq ?_
  refine ev_region ?_
  refine re rfl (e_box 5 0 rfl rfl rfl) ?_; rintro _ ⟨b1, rfl⟩
  refine re rfl (e_alloc 10 0 rfl rfl) ?_; rintro _ ⟨b2, rfl⟩
  refine rq rfl rfl (q_assign rfl) ?_
  refine rq rfl rfl (q_assign rfl) ?_
  refine run_nil ?_
  refine ev_seq ?_
  refine ev_seq ?_
  refine ev_region ?_
  refine rq rfl rfl (q_move rfl) ?_
  obtain ⟨x3, x3_h, H⟩ := bd_inv H
  refine rq rfl rfl (q_call rfl (.v _ _ (fun e => nomatch e)) (.v rfl (.z rfl ArgsOk.nil)) inferInstance (quality_valid_c  x3_h)) ?_
  refine rq rfl rfl (q_not rfl) ?_
  refine run_nil ?_
  refine ev_cond rfl (fun hc => ?_) (fun hc => ?_)
  · replace H := ct hc H
    refine ev_seq ?_
    refine ev_region ?_
    refine rq rfl rfl (Quiet.wk (d := .v true (GCertificate.e (⟨0, [], false⟩ : GCertificate))) (q_loadN rfl rfl rfl rfl) (Wk.nilLe (NilLe.st (by repeat (first | exact NilLes.nil | refine NilLes.cons (.refl _) ?_ | refine NilLes.cons (.nil _) ?_))))) ?_
    refine re rfl (e_store rfl rfl rfl rfl rfl (Nat.le_of_ble_eq_true rfl) rfl) ?_; rintro _ rfl
    refine rq rfl rfl (q_assign rfl) ?_
    refine rq rfl rfl (q_assign rfl) ?_
    refine run_nil ?_
    refine ev_ret ?_
    exact ret_ok [GCertificate.e (⟨0, [], false⟩ : GCertificate), V.l 5 (List.map GRead.e []), vi 400] (congrArg (fun r : GCertificate × (List GRead) × Int => V.t [GCertificate.e r.1, V.l 5 (List.map GRead.e r.2.1), vi r.2.2]) (Option.some.inj H)) rfl (.cons (.cellN (z := 3) rfl rfl rfl rfl rfl rfl (.v _ _ (fun _ => rfl))) (.cons (.tmp rfl (.nil _ _)) (.cons (.tmp rfl (.v _ _ (fun _ => rfl))) .nil)))
  · replace H := cf hc H
    refine ev_skip ?_
    refine ev_seq ?_
    refine ev_region ?_
    refine rq rfl rfl (q_loadN rfl rfl rfl rfl) ?_
    refine rq rfl rfl (q_move rfl) ?_
    refine rq rfl rfl (q_move rfl) ?_
    refine rq rfl rfl (q_move rfl) ?_
    obtain ⟨x4, x4_h, H⟩ := bd_inv H
    refine rq rfl rfl (q_call rfl (.v _ _ (fun e => nomatch e)) (.v rfl (.v rfl (.v rfl (.v rfl ArgsOk.nil)))) inferInstance (stock_Lot_c  x4_h)) ?_
    refine rq rfl rfl (q_move rfl) ?_
    refine rq rfl rfl (q_extract rfl rfl) ?_
    refine rq rfl rfl (q_extract rfl rfl) ?_
    refine rq rfl rfl (q_extract rfl rfl) ?_
    refine re rfl (e_alloc 13 0 rfl rfl) ?_; rintro _ ⟨b5, rfl⟩
    refine re rfl (e_store rfl rfl rfl rfl rfl (Nat.le_of_ble_eq_true rfl) rfl) ?_; rintro _ rfl
    refine rq rfl rfl (q_assign rfl) ?_
    refine rq rfl rfl (q_assign rfl) ?_
    refine run_nil ?_
    refine ev_seq ?_
    refine ev_seq ?_
    refine ev_region ?_
    refine rq rfl rfl (q_move rfl) ?_
    refine rq rfl rfl (q_not rfl) ?_
    refine run_nil ?_
    refine ev_cond rfl (fun hc => ?_) (fun hc => ?_)
    · replace H := ct hc H
      refine ev_seq ?_
      refine ev_region ?_
      refine rq rfl rfl (Quiet.wk (d := .v true (GCertificate.e (⟨0, [], false⟩ : GCertificate))) (q_loadN rfl rfl rfl rfl) (Wk.nilLe (NilLe.st (by repeat (first | exact NilLes.nil | refine NilLes.cons (.refl _) ?_ | refine NilLes.cons (.nil _) ?_))))) ?_
      refine re rfl (e_store rfl rfl rfl rfl rfl (Nat.le_of_ble_eq_true rfl) rfl) ?_; rintro _ rfl
      refine rq rfl rfl (q_assign rfl) ?_
      refine rq rfl rfl (q_assign rfl) ?_
      refine run_nil ?_
      refine ev_ret ?_
      exact ret_ok [GCertificate.e (⟨0, [], false⟩ : GCertificate), V.l 5 (List.map GRead.e []), vi 400] (congrArg (fun r : GCertificate × (List GRead) × Int => V.t [GCertificate.e r.1, V.l 5 (List.map GRead.e r.2.1), vi r.2.2]) (Option.some.inj H)) rfl (.cons (.cellN (z := 3) rfl rfl rfl rfl rfl rfl (.v _ _ (fun _ => rfl))) (.cons (.tmp rfl (.nil _ _)) (.cons (.tmp rfl (.v _ _ (fun _ => rfl))) .nil)))
    · replace H := cf hc H
      refine ev_skip ?_
      refine ev_seq ?_
      refine ev_region ?_
      refine rq rfl rfl (q_move rfl) ?_
      obtain ⟨x6, x6_h, H⟩ := bd_inv H
      refine re rfl (e_callR [200045] rfl (.v _ _ []) rfl inferInstance (slices_Clone_Read_o x6_h) trivial rfl rfl) ?_; rintro _ ⟨_, _, ⟨q7, rfl, rfl⟩, rfl⟩
      refine run_shift (shift_name 200045 0 38 0 rfl) ?_
      refine run_shift (shift_wkd (s := 38) (d' := .o 38 0 q7 5 0 x6.length) rfl .olab) ?_
      refine rq rfl rfl (q_assign rfl) ?_
      refine run_nil ?_
      refine ev_seq ?_
      refine ev_region ?_
      refine rq rfl rfl (q_move rfl) ?_
      refine rq rfl rfl (q_build rfl (.v rfl rfl rfl rfl rfl (.v rfl rfl rfl rfl rfl .nil))) ?_
      refine re rfl (e_store rfl rfl rfl rfl rfl (Nat.le_of_ble_eq_true rfl) rfl) ?_; rintro _ rfl
      refine run_nil ?_
      refine ev_seq ?_
      refine ev_seq ?_
      refine ev_region ?_
      refine rq rfl rfl (q_move rfl) ?_
      refine rq rfl rfl (q_len_t rfl) ?_
      refine rq rfl rfl (q_move rfl) ?_
      refine run_nil ?_
      refine ev_block ?_
      refine ev_len_l (s := 41) rfl fun w19 => ?_
      rw [List.length_map] at w19
      refine ev_forL H (fun k10 s8 σ' => ∃ (q14 : Pl) (q16 : Pl), σ' = mkS [(1, .v true (vi a1)), (2, .v true (vi a2)), (3, .v true (vi a3)), (5, .p 5 0 b1 0), (10, .p 10 0 b2 0), (11, .o 38 0 q14 5 0 s8.2.1.length), (12, .v true (vi 0)), (41, .v false (V.l 3 (List.map GSpec.e a4))), (42, .v true (vi ((a4.length : Nat) : Int))), (43, .v true (vi ((k10 : Nat) : Int)))] [.e 5 0 (some (b1, 11)) (.row 38 [.v false (V.l 8 (List.map GUnit.e a0.tables.source.units)), .v false (V.l 6 (List.map GItem.e a0.tables.source.items)), .v false (V.l 1 (List.map V.s a0.tables.source.plants)), .v false (V.l 4 (List.map GMachine.e a0.tables.source.machines)), .v false (V.l 2 (List.map GOption.e a0.tables.source.options)), .v false (V.l 1 (List.map (fun l => V.l 4 (List.map GCond.e l)) a0.tables.source.forbids)), .v false (V.l 17 (List.map GRecipe.e a0.tables.source.recipes)), .v false (V.l 4 (List.map GSwap.e a0.tables.source.swaps)), .v false (V.l 1 (List.map vi a0.tables.levels)), .v false (V.l 1 (List.map (fun l => V.l 6 (List.map GInst.e l)) a0.tables.codes)), .v false (V.l 8 (List.map GFact.e a0.facts))]), .e 10 0 (some (b2, 3)) (.row 47 [.v true (vi a1), .o 69 0 q16 2 0 s8.2.2.length, .v true (vb s8.1)]), .e 38 0 q14 (.row 100 (els true (List.map GRead.e s8.2.1))), .e 69 0 q16 (.row 72 (els true (List.map GPoint.e s8.2.2)))] [] (0, false)) ⟨_, ⟨q7, none, rfl⟩, shift_mk ⟨⟨_, rfl, (.flat rfl)⟩, ⟨⟨_, rfl, (.flat rfl)⟩, ⟨⟨_, rfl, (.flat rfl)⟩, ⟨⟨_, rfl, .rfl⟩, ⟨⟨_, rfl, .rfl⟩, ⟨⟨_, rfl, .rfl⟩, ⟨⟨_, rfl, (.flat rfl)⟩, ⟨⟨_, rfl, .rfl⟩, ⟨⟨_, rfl, (.flat rfl)⟩, ⟨⟨_, rfl, .rfl⟩, trivial⟩⟩⟩⟩⟩⟩⟩⟩⟩⟩ ⟨(.e rfl), ⟨(.w rfl (.cons (.flat rfl) (.cons .nilo (.cons (.flat rfl) .nil)))), ⟨(.e rfl), ⟨(.nn rfl), trivial⟩⟩⟩⟩ rfl rfl⟩ ?_
      rintro k10 s8 _ ⟨q14, q16, rfl⟩ _ H
      refine ev_seq ?_
      refine ev_region ?_
      refine rq rfl rfl (q_lss rfl rfl) ?_
      refine run_nil ?_
      refine ev_seq ?_
      refine ev_cond rfl (fun hc => ?_) (fun hc => ?_)
      · obtain ⟨x17, w18, x17_g, H⟩ := forL_in hc H
        have x17_h : idx a4 ((k10 : Nat) : Int) = some x17 := by rw [idx_nat]; exact x17_g
        refine ev_skip ?_
        refine ev_seq ?_
        refine ev_block ?_
        refine ev_seq ?_
        refine ev_region ?_
        refine rq rfl rfl (q_idx_l rfl rfl (idx_inv x17_h).1 (map_get (idx_inv x17_h).2.1) rfl) ?_
        refine rq rfl rfl (q_load_e rfl rfl rfl) ?_
        refine re rfl (e_alloc 17 0 rfl rfl) ?_; rintro _ ⟨b20, rfl⟩
        refine re rfl (e_store rfl rfl rfl rfl rfl (Nat.le_of_ble_eq_true rfl) rfl) ?_; rintro _ rfl
        refine run_nil ?_
        refine ev_seq ?_
        refine ev_region ?_
        refine rq rfl rfl (q_loadN rfl rfl rfl rfl) ?_
        refine rq rfl rfl (q_move rfl) ?_
        refine rq rfl rfl (q_fld_p rfl) ?_
        refine rq rfl rfl (q_load1 rfl rfl rfl) ?_
        refine rq rfl rfl (q_move rfl) ?_
        refine rq rfl rfl (q_move rfl) ?_
        obtain ⟨x21, x21_h, H⟩ := bd_inv H
        refine rq rfl rfl (q_call rfl (.v _ _ (fun e => nomatch e)) (.v rfl (.v rfl (.v rfl (.v rfl (.v rfl ArgsOk.nil))))) inferInstance (quality_Result_c  x21_h)) ?_
        refine rq rfl rfl (q_move rfl) ?_
        refine rq rfl rfl (q_extract rfl rfl) ?_
        refine rq rfl rfl (q_extract rfl rfl) ?_
        refine rq rfl rfl (q_extract rfl rfl) ?_
        refine rq rfl rfl (q_assign rfl) ?_
        refine rq rfl rfl (q_assign rfl) ?_
        refine rq rfl rfl (q_assign rfl) ?_
        refine run_nil ?_
        refine ev_seq ?_
        refine ev_region ?_
        refine rq rfl rfl (q_move rfl) ?_
        refine rq rfl rfl (q_move rfl) ?_
        obtain ⟨w22, H⟩ := gdd_inv H
        refine re rfl (e_appt rfl rfl rfl (fun _ => ⟨rfl, rfl⟩) rfl rfl rfl w22 rfl) ?_; rintro _ ⟨q23, rfl⟩
        refine rq rfl rfl (q_assign rfl) ?_
        refine run_nil ?_
        obtain ⟨j24, j24_e, H⟩ := jn_inv H
        refine ev_join (fun σ' => ∃ (p25 : List GPoint) (q26 : Pl), j24 p25 = some r ∧ σ' = mkS [(1, .v true (vi a1)), (2, .v true (vi a2)), (3, .v true (vi a3)), (5, .p 5 0 b1 0), (10, .p 10 0 b2 0), (11, .o 38 0 q23 5 0 ((s8.2.1 ++ x21.2.1).length)), (12, .v true (vi 0)), (17, .p 17 0 b20 0), (18, .v true (vi x21.1)), (20, .v true (vb x21.2.2)), (41, .v false (V.l 3 (List.map GSpec.e a4))), (42, .v true (vi ((a4.length : Nat) : Int))), (43, .v true (vi ((k10 : Nat) : Int)))] [.e 5 0 (some (b1, 11)) (.row 38 [.v false (V.l 8 (List.map GUnit.e a0.tables.source.units)), .v false (V.l 6 (List.map GItem.e a0.tables.source.items)), .v false (V.l 1 (List.map V.s a0.tables.source.plants)), .v false (V.l 4 (List.map GMachine.e a0.tables.source.machines)), .v false (V.l 2 (List.map GOption.e a0.tables.source.options)), .v false (V.l 1 (List.map (fun l => V.l 4 (List.map GCond.e l)) a0.tables.source.forbids)), .v false (V.l 17 (List.map GRecipe.e a0.tables.source.recipes)), .v false (V.l 4 (List.map GSwap.e a0.tables.source.swaps)), .v false (V.l 1 (List.map vi a0.tables.levels)), .v false (V.l 1 (List.map (fun l => V.l 6 (List.map GInst.e l)) a0.tables.codes)), .v false (V.l 8 (List.map GFact.e a0.facts))]), .e 10 0 (some (b2, 3)) (.row 47 [.v true (vi a1), .o 69 0 q26 2 0 p25.length, .v true (vb s8.1)]), .e 38 0 q23 (.row 100 (els true (List.map GRead.e (s8.2.1 ++ x21.2.1)))), .e 17 0 (some (b20, 3)) (.row 64 [.v true (vi x17.test), .v true (vi x17.lo), .v true (vi x17.hi)]), .e 69 0 q26 (.row 72 (els true (List.map GPoint.e p25)))] [] (0, false)) ?_ ?_
        · rintro _ ⟨p25, q26, H, rfl⟩
          subst j24_e
          refine ev_region ?_
          refine rq rfl rfl (q_fld_p rfl) ?_
          refine rq rfl rfl (q_load1 rfl rfl rfl) ?_
          refine rq rfl rfl (q_move rfl) ?_
          refine rqc (l := []) ⟨⟨_, _, _, rfl, rfl, rfl, rfl⟩, rfl, fun hc => q_move rfl, trivial⟩ rfl ?_
          refine rq rfl rfl (q_pickb rfl rfl rfl (PB.c (fun hp => hp)) PB.v) ?_
          refine rq rfl rfl (q_move rfl) ?_
          refine rqc (l := []) ⟨⟨_, _, _, rfl, rfl, rfl, rfl⟩, rfl, fun hc => q_fld_p rfl, trivial⟩ rfl ?_
          refine rqc (l := [77]) ⟨⟨_, _, _, rfl, rfl, rfl, rfl⟩, rfl, fun hc => q_load1 rfl rfl rfl, ⟨fun h => h, trivial⟩⟩ rfl ?_
          refine rqc (l := []) ⟨⟨_, _, _, rfl, rfl, rfl, rfl⟩, rfl, fun hc => q_move rfl, trivial⟩ rfl ?_
          refine rqc (l := [78, 79]) ⟨⟨_, _, _, rfl, rfl, rfl, rfl⟩, rfl, fun hc => q_leq rfl rfl, ⟨fun h => h, ⟨fun h => h, trivial⟩⟩⟩ rfl ?_
          refine rq rfl rfl (q_pickb rfl rfl rfl (PB.c (fun hp => hp)) PB.v) ?_
          refine rq rfl rfl (q_move rfl) ?_
          refine rqc (l := []) ⟨⟨_, _, _, rfl, rfl, rfl, rfl⟩, rfl, fun hc => q_move rfl, trivial⟩ rfl ?_
          refine rqc (l := []) ⟨⟨_, _, _, rfl, rfl, rfl, rfl⟩, rfl, fun hc => q_fld_p rfl, trivial⟩ rfl ?_
          refine rqc (l := [84]) ⟨⟨_, _, _, rfl, rfl, rfl, rfl⟩, rfl, fun hc => q_load1 rfl rfl rfl, ⟨fun h => h, trivial⟩⟩ rfl ?_
          refine rqc (l := [83, 85]) ⟨⟨_, _, _, rfl, rfl, rfl, rfl⟩, rfl, fun hc => q_leq rfl rfl, ⟨fun h => h, ⟨fun h => h, trivial⟩⟩⟩ rfl ?_
          refine rq rfl rfl (q_pickb rfl rfl rfl (PB.c (fun hp => hp)) PB.v) ?_
          refine rq rfl rfl (q_fld_p rfl) ?_
          refine re rfl (e_store1 rfl rfl rfl rfl rfl (Nat.le_of_ble_eq_true rfl) rfl) ?_; rintro _ rfl
          refine run_nil ?_
          refine ev_region ?_
          refine rq rfl rfl (q_add rfl rfl) ?_
          refine rq rfl rfl (q_move rfl) ?_
          refine run_nil ?_
          exact ⟨_, _, w18, H, ⟨q23, q26, rfl⟩, shift_mk ⟨⟨_, rfl, (.flat rfl)⟩, ⟨⟨_, rfl, (.flat rfl)⟩, ⟨⟨_, rfl, (.flat rfl)⟩, ⟨⟨_, rfl, .rfl⟩, ⟨⟨_, rfl, .rfl⟩, ⟨⟨_, rfl, .rfl⟩, ⟨⟨_, rfl, (.flat rfl)⟩, ⟨⟨_, rfl, .rfl⟩, ⟨⟨_, rfl, (.flat rfl)⟩, ⟨⟨_, rfl, (.eq (congrArg (fun n => D.v true (vi n)) (wrap_succ w18 w19)))⟩, trivial⟩⟩⟩⟩⟩⟩⟩⟩⟩⟩ ⟨(.e rfl), ⟨(.w rfl (.cons (.flat rfl) (.cons .rfl (.cons (.flat rfl) .nil)))), ⟨(.e rfl), ⟨(.e rfl), trivial⟩⟩⟩⟩ rfl rfl⟩
        · clear j24_e
          refine ev_seq ?_
          refine ev_region ?_
          refine rq rfl rfl (q_move rfl) ?_
          refine run_nil ?_
          refine ev_cond rfl (fun hc => ?_) (fun hc => ?_)
          · replace H := ct hc H
            refine ev_region ?_
            refine rq rfl rfl (q_fld_p rfl) ?_
            refine rq rfl rfl (q_load1 rfl rfl rfl) ?_
            refine rq rfl rfl (q_fld_p rfl) ?_
            refine rq rfl rfl (q_load1 rfl rfl rfl) ?_
            refine rq rfl rfl (q_move rfl) ?_
            refine rq rfl rfl (q_build rfl (.v rfl rfl rfl rfl rfl (.v rfl rfl rfl rfl rfl .nil))) ?_
            refine rq rfl rfl (q_buildSlice (z := 2) (xs := List.map GPoint.e ([(⟨x17.test, x21.1⟩ : GPoint)] : List GPoint)) (fl := true) rfl rfl rfl rfl (by simp [V.plain, V.cells, GPoint.e, vi, vb]) rfl) ?_
            obtain ⟨w27, H⟩ := gdd_inv H
            refine re rfl (e_appt rfl rfl rfl (fun _ => ⟨rfl, rfl⟩) rfl rfl rfl w27 rfl) ?_; rintro _ ⟨q28, rfl⟩
            refine rq rfl rfl (q_fld_p rfl) ?_
            refine re rfl (e_store1 rfl rfl rfl rfl rfl (Nat.le_of_ble_eq_true rfl) rfl) ?_; rintro _ rfl
            refine run_nil ?_
            exact ⟨_, ⟨s8.2.2 ++ ([(⟨x17.test, x21.1⟩ : GPoint)] : List GPoint), q28, H, rfl⟩, shift_mk ⟨⟨_, rfl, (.flat rfl)⟩, ⟨⟨_, rfl, (.flat rfl)⟩, ⟨⟨_, rfl, (.flat rfl)⟩, ⟨⟨_, rfl, .rfl⟩, ⟨⟨_, rfl, .rfl⟩, ⟨⟨_, rfl, .rfl⟩, ⟨⟨_, rfl, (.flat rfl)⟩, ⟨⟨_, rfl, .rfl⟩, ⟨⟨_, rfl, (.flat rfl)⟩, ⟨⟨_, rfl, (.flat rfl)⟩, ⟨⟨_, rfl, .rfl⟩, ⟨⟨_, rfl, (.flat rfl)⟩, ⟨⟨_, rfl, (.flat rfl)⟩, trivial⟩⟩⟩⟩⟩⟩⟩⟩⟩⟩⟩⟩⟩ ⟨(.e rfl), ⟨(.w rfl (.cons (.flat rfl) (.cons .rfl (.cons (.flat rfl) .nil)))), ⟨(.e rfl), ⟨(.w rfl (.cons (.flat rfl) (.cons (.flat rfl) (.cons (.flat rfl) .nil)))), ⟨(.e rfl), trivial⟩⟩⟩⟩⟩ rfl rfl⟩
          · replace H := cf hc H
            refine ev_skip ?_
            exact ⟨_, ⟨s8.2.2, q16, H, rfl⟩, shift_mk ⟨⟨_, rfl, (.flat rfl)⟩, ⟨⟨_, rfl, (.flat rfl)⟩, ⟨⟨_, rfl, (.flat rfl)⟩, ⟨⟨_, rfl, .rfl⟩, ⟨⟨_, rfl, .rfl⟩, ⟨⟨_, rfl, .rfl⟩, ⟨⟨_, rfl, (.flat rfl)⟩, ⟨⟨_, rfl, .rfl⟩, ⟨⟨_, rfl, (.flat rfl)⟩, ⟨⟨_, rfl, (.flat rfl)⟩, ⟨⟨_, rfl, .rfl⟩, ⟨⟨_, rfl, (.flat rfl)⟩, ⟨⟨_, rfl, (.flat rfl)⟩, trivial⟩⟩⟩⟩⟩⟩⟩⟩⟩⟩⟩⟩⟩ ⟨(.e rfl), ⟨(.w rfl (.cons (.flat rfl) (.cons .rfl (.cons (.flat rfl) .nil)))), ⟨(.e rfl), ⟨(.w rfl (.cons (.flat rfl) (.cons (.flat rfl) (.cons (.flat rfl) .nil)))), ⟨(.e rfl), trivial⟩⟩⟩⟩⟩ rfl rfl⟩
      · replace H := forL_out hc H
        refine ev_exit ?_
        refine ev_seq ?_
        refine ev_region ?_
        refine rq rfl rfl (q_loadN rfl rfl rfl rfl) ?_
        refine rq rfl rfl (q_move rfl) ?_
        refine re rfl (e_store rfl rfl rfl rfl rfl (Nat.le_of_ble_eq_true rfl) rfl) ?_; rintro _ rfl
        refine rq rfl rfl (q_assign rfl) ?_
        refine rq rfl rfl (q_assign rfl) ?_
        refine run_nil ?_
        refine ev_ret ?_
        exact ret_ok [GCertificate.e (⟨a1, s8.2.2, s8.1⟩ : GCertificate), V.l 5 (List.map GRead.e s8.2.1), vi 0] (congrArg (fun r : GCertificate × (List GRead) × Int => V.t [GCertificate.e r.1, V.l 5 (List.map GRead.e r.2.1), vi r.2.2]) (Option.some.inj H)) rfl (.cons (.cellN (z := 3) rfl rfl rfl rfl rfl rfl (.stl (.cons (.v _ _ (fun _ => rfl)) (.cons (.all rfl (List.length_map _) (els_plain fun _ => ⟨rfl, rfl⟩) (fun _ => rfl)) (.cons (.v _ _ (fun _ => rfl)) .nil))))) (.cons (.tmp rfl (.all rfl (List.length_map _) (els_plain fun _ => ⟨rfl, rfl⟩) (fun _ => rfl))) (.cons (.tmp rfl (.v _ _ (fun _ => rfl))) .nil)))
def slices_Equal_Point_m (a0 : List GPoint) (a1 : List GPoint) : Option Bool := bif ((a0.length : Nat) : Int) != ((a1.length : Nat) : Int) then (some false) else (forL a0 (fun (k3 : Nat) (x5 : GPoint) (s1 : Unit) loop2 => bd (idx a1 ((k3 : Nat) : Int)) fun x8 => bif !(GPoint.eqb x5 x8) then (some false) else (loop2 ())) (fun (s1 : Unit) => some true) ())
theorem slices_Equal_Point_c {a0 : List GPoint} {a1 : List GPoint} {r : Bool} (H : slices_Equal_Point_m a0 a1 = some r) : PureC Try.prog true 59 [V.l 2 (List.map GPoint.e a0), V.l 2 (List.map GPoint.e a1)] (vb r) := by
  unfold slices_Equal_Point_m at H
  refine pure_intro (N := 26) Try.func59 rfl rfl rfl rfl fun C hO => ?_
  refine ev_seq ?_
  refine ev_region ?_
  refine rq rfl rfl (q_assign rfl) ?_
  refine run_nil ?_
  refine ev_seq ?_
  refine ev_seq ?_
  refine ev_region ?_
  refine rq rfl rfl (q_move rfl) ?_
  refine rq rfl rfl (q_len_t rfl) ?_
  refine rq rfl rfl (q_move rfl) ?_
  refine rq rfl rfl (q_len_t rfl) ?_
  refine rq rfl rfl (q_nei rfl rfl) ?_
  refine run_nil ?_
  refine ev_cond rfl (fun hc => ?_) (fun hc => ?_)
  · replace H := ct hc H
    refine ev_seq ?_
    refine ev_region ?_
    refine rq rfl rfl (q_assign rfl) ?_
    refine run_nil ?_
    refine ev_ret ?_
    exact ret_ok [vb false] (congrArg (fun r : Bool => vb r) (Option.some.inj H)) rfl (.cons (.tmp rfl (.v _ _ (fun _ => rfl))) .nil)
  · replace H := cf hc H
    refine ev_skip ?_
    refine ev_seq ?_
    refine ev_seq ?_
    refine ev_region ?_
    refine rq rfl rfl (q_move rfl) ?_
    refine rq rfl rfl (q_len_t rfl) ?_
    refine rq rfl rfl (q_move rfl) ?_
    refine run_nil ?_
    refine ev_block ?_
    refine ev_len_l (s := 0) rfl fun w7 => ?_
    rw [List.length_map] at w7
    refine ev_forL H (fun k3 s1 σ' => σ' = mkS [(0, .v false (V.l 2 (List.map GPoint.e a0))), (1, .v false (V.l 2 (List.map GPoint.e a1))), (4, .v true (vb false)), (12, .v true (vi ((a0.length : Nat) : Int))), (13, .v true (vi ((k3 : Nat) : Int)))] [] [] (0, false)) ⟨_, rfl, shift_mk ⟨⟨_, rfl, .rfl⟩, ⟨⟨_, rfl, .rfl⟩, ⟨⟨_, rfl, (.flat rfl)⟩, ⟨⟨_, rfl, (.flat rfl)⟩, ⟨⟨_, rfl, .rfl⟩, trivial⟩⟩⟩⟩⟩ trivial rfl rfl⟩ ?_
    rintro k3 s1 _ rfl _ H
    refine ev_seq ?_
    refine ev_region ?_
    refine rq rfl rfl (q_lss rfl rfl) ?_
    refine run_nil ?_
    refine ev_seq ?_
    refine ev_cond rfl (fun hc => ?_) (fun hc => ?_)
    · obtain ⟨x5, w6, x5_g, H⟩ := forL_in hc H
      have x5_h : idx a0 ((k3 : Nat) : Int) = some x5 := by rw [idx_nat]; exact x5_g
      refine ev_skip ?_
      refine ev_seq ?_
      refine ev_block ?_
      refine ev_seq ?_
      refine ev_region ?_
      refine rq rfl rfl (q_move rfl) ?_
      refine rq rfl rfl (q_assign rfl) ?_
      refine run_nil ?_
      refine ev_seq ?_
      obtain ⟨x8, x8_h, H⟩ := bd_inv H
      refine ev_draw rfl (by kernel_rfl) ?_
      refine qq rfl rfl (q_move rfl) ?_
      refine qq rfl rfl (q_move rfl) ?_
      refine qq rfl rfl (q_idx_l rfl rfl (idx_inv x5_h).1 (map_get (idx_inv x5_h).2.1) rfl) ?_
      refine qq rfl rfl (q_load_e rfl rfl rfl) ?_
      refine qq rfl rfl (q_move rfl) ?_
      refine qq rfl rfl (q_move rfl) ?_
      refine qq rfl rfl (q_idx_l rfl rfl (idx_inv x8_h).1 (map_get (idx_inv x8_h).2.1) rfl) ?_
      refine qq rfl rfl (q_load_e rfl rfl rfl) ?_
      refine qq rfl rfl (q_nes rfl rfl (r := GPoint.eqb x5 x8) rfl) ?_
      refine qn ?_
      refine ev_cond rfl (fun hc => ?_) (fun hc => ?_)
      · replace H := ct hc H
        refine ev_seq ?_
        refine ev_region ?_
        refine rq rfl rfl (q_assign rfl) ?_
        refine run_nil ?_
        refine ev_ret ?_
        exact ret_ok [vb false] (congrArg (fun r : Bool => vb r) (Option.some.inj H)) rfl (.cons (.tmp rfl (.v _ _ (fun _ => rfl))) .nil)
      · replace H := cf hc H
        refine ev_skip ?_
        refine ev_region ?_
        refine rq rfl rfl (q_add rfl rfl) ?_
        refine rq rfl rfl (q_move rfl) ?_
        refine run_nil ?_
        exact ⟨_, _, w6, H, rfl, shift_mk ⟨⟨_, rfl, .rfl⟩, ⟨⟨_, rfl, .rfl⟩, ⟨⟨_, rfl, (.flat rfl)⟩, ⟨⟨_, rfl, (.flat rfl)⟩, ⟨⟨_, rfl, (.eq (congrArg (fun n => D.v true (vi n)) (wrap_succ w6 w7)))⟩, trivial⟩⟩⟩⟩⟩ trivial rfl rfl⟩
    · replace H := forL_out hc H
      refine ev_exit ?_
      refine ev_seq ?_
      refine ev_region ?_
      refine rq rfl rfl (q_assign rfl) ?_
      refine run_nil ?_
      refine ev_ret ?_
      exact ret_ok [vb true] (congrArg (fun r : Bool => vb r) (Option.some.inj H)) rfl (.cons (.tmp rfl (.v _ _ (fun _ => rfl))) .nil)
def quality_same_Point_m (a0 : List GPoint) (a1 : List GPoint) : Option Bool := bd (slices_Equal_Point_m a0 a1) fun x1 => some x1
theorem quality_same_Point_c {a0 : List GPoint} {a1 : List GPoint} {r : Bool} (H : quality_same_Point_m a0 a1 = some r) : PureC Try.prog true 47 [V.l 2 (List.map GPoint.e a0), V.l 2 (List.map GPoint.e a1)] (vb r) := by
  unfold quality_same_Point_m at H
  refine pure_intro (N := 8) Try.func47 rfl rfl rfl rfl fun C hO => ?_
  refine ev_seq ?_
  refine ev_region ?_
  refine rq rfl rfl (q_assign rfl) ?_
  refine run_nil ?_
  refine ev_seq ?_
  refine ev_region ?_
  refine rq rfl rfl (q_move rfl) ?_
  refine rq rfl rfl (q_move rfl) ?_
  obtain ⟨x1, x1_h, H⟩ := bd_inv H
  refine rq rfl rfl (q_call rfl (.v _ _ (fun e => nomatch e)) (.v rfl (.v rfl ArgsOk.nil)) inferInstance (slices_Equal_Point_c  x1_h)) ?_
  refine rq rfl rfl (q_assign rfl) ?_
  refine run_nil ?_
  refine ev_ret ?_
  exact ret_ok [vb x1] (congrArg (fun r : Bool => vb r) (Option.some.inj H)) rfl (.cons (.tmp rfl (.v _ _ (fun _ => rfl))) .nil)
def quality_Check_m (a0 : GWorld) (a1 : GCertificate) (a2 : Int) (a3 : Int) (a4 : List GSpec) : Option (Bool × Int) := bd (quality_Certify_m a0 a1.lot a2 a3 a4) fun x3 => bif x3.2.2 != 0 then (some (false, x3.2.2)) else (bdc (x3.1.good == a1.good) (quality_same_Point_m x3.1.results a1.results) fun x5 => some (bif x3.1.good == a1.good then x5 else false, 0))
theorem quality_Check_c {a0 : GWorld} {a1 : GCertificate} {a2 : Int} {a3 : Int} {a4 : List GSpec} {r : Bool × Int} (H : quality_Check_m a0 a1 a2 a3 a4 = some r) : PureC Try.prog true 23 [GWorld.e a0, GCertificate.e a1, vi a2, vi a3, V.l 3 (List.map GSpec.e a4)] (V.t [vb r.1, vi r.2]) := by
  unfold quality_Check_m at H
  refine pure_intro (N := 40) Try.func23 rfl rfl rfl rfl fun C hO => ?_
  refine ev_shift (shift_mk (fs := [(0, .v false (GWorld.e a0)), (1, .v false (GCertificate.e a1)), (2, .v true (vi a2)), (3, .v true (vi a3)), (4, .v false (V.l 3 (List.map GSpec.e a4)))]) (es := []) ⟨⟨_, rfl, .rfl⟩, ⟨⟨_, rfl, .rfl⟩, ⟨⟨_, rfl, (.flat rfl)⟩, ⟨⟨_, rfl, (.flat rfl)⟩, ⟨⟨_, rfl, .rfl⟩, trivial⟩⟩⟩⟩⟩ trivial rfl rfl) ?_
  refine ev_seq ?_
  refine ev_region ?_
  refine re rfl (e_box 5 0 rfl rfl rfl) ?_; rintro _ ⟨b1, rfl⟩
  refine re rfl (e_box 6 0 rfl rfl rfl) ?_; rintro _ ⟨b2, rfl⟩
  refine rq rfl rfl (q_assign rfl) ?_
  refine rq rfl rfl (q_assign rfl) ?_
  refine run_nil ?_
  refine ev_seq ?_
  refine ev_region ?_
  refine rq rfl rfl (q_loadN rfl rfl rfl rfl) ?_
  refine rq rfl rfl (q_fld_p rfl) ?_
  refine rq rfl rfl (q_load1 rfl rfl rfl) ?_
  refine rq rfl rfl (q_move rfl) ?_
  refine rq rfl rfl (q_move rfl) ?_
  refine rq rfl rfl (q_move rfl) ?_
  obtain ⟨x3, x3_h, H⟩ := bd_inv H
  refine rq rfl rfl (q_call rfl (.v _ _ (fun e => nomatch e)) (.v rfl (.v rfl (.v rfl (.v rfl (.v rfl ArgsOk.nil))))) inferInstance (quality_Certify_c  x3_h)) ?_
  refine rq rfl rfl (q_move rfl) ?_
  refine rq rfl rfl (q_extract rfl rfl) ?_
  refine rq rfl rfl (q_extract rfl rfl) ?_
  refine rq rfl rfl (q_extract rfl rfl) ?_
  refine re rfl (e_alloc 12 0 rfl rfl) ?_; rintro _ ⟨b4, rfl⟩
  refine re rfl (e_store rfl rfl rfl rfl rfl (Nat.le_of_ble_eq_true rfl) rfl) ?_; rintro _ rfl
  refine rq rfl rfl (q_assign rfl) ?_
  refine rq rfl rfl (q_assign rfl) ?_
  refine run_nil ?_
  refine ev_seq ?_
  refine ev_seq ?_
  refine ev_region ?_
  refine rq rfl rfl (q_move rfl) ?_
  refine rq rfl rfl (q_nei rfl rfl) ?_
  refine run_nil ?_
  refine ev_cond rfl (fun hc => ?_) (fun hc => ?_)
  · replace H := ct hc H
    refine ev_seq ?_
    refine ev_region ?_
    refine rq rfl rfl (q_move rfl) ?_
    refine rq rfl rfl (q_assign rfl) ?_
    refine rq rfl rfl (q_assign rfl) ?_
    refine run_nil ?_
    refine ev_ret ?_
    exact ret_ok [vb false, vi x3.2.2] (congrArg (fun r : Bool × Int => V.t [vb r.1, vi r.2]) (Option.some.inj H)) rfl (.cons (.tmp rfl (.v _ _ (fun _ => rfl))) (.cons (.tmp rfl (.v _ _ (fun _ => rfl))) .nil))
  · replace H := cf hc H
    refine ev_skip ?_
    refine ev_seq ?_
    refine ev_region ?_
    refine rq rfl rfl (q_fld_p rfl) ?_
    refine rq rfl rfl (q_load1 rfl rfl rfl) ?_
    refine rq rfl rfl (q_fld_p rfl) ?_
    refine rq rfl rfl (q_load1 rfl rfl rfl) ?_
    refine rq rfl rfl (q_eqb rfl rfl) ?_
    refine rq rfl rfl (q_move rfl) ?_
    refine rqc (l := []) ⟨⟨_, _, _, rfl, rfl, rfl, rfl⟩, rfl, fun hc => q_fld_p rfl, trivial⟩ rfl ?_
    refine rqc (l := [34]) ⟨⟨_, _, _, rfl, rfl, rfl, rfl⟩, rfl, fun hc => q_load1 rfl rfl rfl, ⟨fun h => h, trivial⟩⟩ rfl ?_
    refine rqc (l := []) ⟨⟨_, _, _, rfl, rfl, rfl, rfl⟩, rfl, fun hc => q_fld_p rfl, trivial⟩ rfl ?_
    refine rqc (l := [36]) ⟨⟨_, _, _, rfl, rfl, rfl, rfl⟩, rfl, fun hc => q_load1 rfl rfl rfl, ⟨fun h => h, trivial⟩⟩ rfl ?_
    obtain ⟨x5, x5_h, _, H⟩ := bdc_inv H
    refine rqc (l := [35, 37]) ⟨⟨_, _, _, rfl, rfl, rfl, rfl⟩, rfl, fun hc => q_call rfl (.v _ _ (fun e => nomatch e)) (.v rfl (.v rfl ArgsOk.nil)) inferInstance (quality_same_Point_c  (x5_h hc)), ⟨fun h => h, ⟨fun h => h, trivial⟩⟩⟩ rfl ?_
    refine rq rfl rfl (q_pickb rfl rfl rfl (PB.c (fun hp => hp)) PB.v) ?_
    refine rq rfl rfl (q_assign rfl) ?_
    refine rq rfl rfl (q_assign rfl) ?_
    refine run_nil ?_
    refine ev_ret ?_
    exact ret_ok [vb (bif x3.1.good == a1.good then x5 else false), vi 0] (congrArg (fun r : Bool × Int => V.t [vb r.1, vi r.2]) (Option.some.inj H)) rfl (.cons (.tmp rfl (.v _ _ (fun _ => rfl))) (.cons (.tmp rfl (.v _ _ (fun _ => rfl))) .nil))
def quality_State_1_m (a0 : GLot) : Option Bool := some (a0.state == 3)
theorem quality_State_1_c {a0 : GLot} {r : Bool} (H : quality_State_1_m a0 = some r) : PureC Try.prog true 48 [.q (V.cells (GLot.e a0))] (vb r) := by
  unfold quality_State_1_m at H
  refine pure_intro (N := 5) Try.func48 rfl rfl rfl rfl fun C hO => ?_
  refine ev_seq ?_
  refine ev_region ?_
  refine rq rfl rfl (q_assign rfl) ?_
  refine run_nil ?_
  refine ev_seq ?_
  refine ev_region ?_
  refine rq rfl rfl (q_fld_q rfl) ?_
  refine rq rfl rfl (q_load1_q rfl) ?_
  refine rq rfl rfl (q_eqi rfl rfl) ?_
  refine rq rfl rfl (q_assign rfl) ?_
  refine run_nil ?_
  refine ev_ret ?_
  exact ret_ok [vb (a0.state == 3)] (congrArg (fun r : Bool => vb r) (Option.some.inj H)) rfl (.cons (.tmp rfl (.v _ _ (fun _ => rfl))) .nil)
end Bf
