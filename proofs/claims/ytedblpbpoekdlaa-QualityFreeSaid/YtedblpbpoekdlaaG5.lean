import Derived.Test.YtedblpbpoekdlaaG4
import Derived.Test.YtedblpbpoekdlaaF27
namespace Bf
open Go Go.RowKit Go.Proofs
attribute [local irreducible] Quiet Eff RunS Ev PureC Shift RunQ RetQ RetR SeqQ
set_option linter.unusedVariables false
set_option maxRecDepth 4000
structure GLine where
  item : Int
  plant : Int
  config : Int
  deriving Inhabited, DecidableEq
def GLine.e (x : GLine) : V := .st [vi x.item, vi x.plant, vi x.config]
def GLot.eqb (x y : GLot) : Bool := (x.no_ == y.no_ && (x.item == y.item && (x.plant == y.plant && (x.amount == y.amount && (x.expiry == y.expiry && (x.state == y.state && true))))))
def stock_Lots_m (a0 : GWorld) (a1 : Int) (a2 : Int) : Option ((List GLot) × (List GRead)) := bd (stock_isDay_m a1) fun x2 => bif !x2 then (some ([], [])) else (bd (stock_looker_many_m (⟨a0, a1, a2, ([] : List GRead)⟩ : GstockLooker)) fun x4 => forN 0 x4.1 (fun (k8 : Int) (s6 : (List GLot) × (List GUnit) × (List GItem) × (List ByteArray) × (List GMachine) × (List GOption) × (List (List GCond)) × (List GRecipe) × (List GSwap) × (List Int) × (List (List GInst)) × (List GFact) × Int × Int × (List GRead)) loop7 => jn (fun (p35 : List GLot) (p37 : List GUnit) (p38 : List GItem) (p39 : List ByteArray) (p40 : List GMachine) (p41 : List GOption) (p42 : List (List GCond)) (p43 : List GRecipe) (p44 : List GSwap) (p45 : List Int) (p46 : List (List GInst)) (p47 : List GFact) (p48 : Int) (p49 : Int) (p50 : List GRead) => loop7 (p35, p37, p38, p39, p40, p41, p42, p43, p44, p45, p46, p47, p48, p49, p50)) fun j34 => bd (stock_looker_lot_m (⟨(⟨(⟨(⟨s6.2.1, s6.2.2.1, s6.2.2.2.1, s6.2.2.2.2.1, s6.2.2.2.2.2.1, s6.2.2.2.2.2.2.1, s6.2.2.2.2.2.2.2.1, s6.2.2.2.2.2.2.2.2.1⟩ : GSource), s6.2.2.2.2.2.2.2.2.2.1, s6.2.2.2.2.2.2.2.2.2.2.1⟩ : GTables), s6.2.2.2.2.2.2.2.2.2.2.2.1⟩ : GWorld), s6.2.2.2.2.2.2.2.2.2.2.2.2.1, s6.2.2.2.2.2.2.2.2.2.2.2.2.2.1, s6.2.2.2.2.2.2.2.2.2.2.2.2.2.2⟩ : GstockLooker) k8) fun x52 => bif x52.2.1 then (gd (decide ((s6.1.length + ([x52.1] : List GLot).length) * 49 ≤ 140737488355328)) <| j34 (s6.1 ++ ([x52.1] : List GLot)) x52.2.2.w.tables.source.units x52.2.2.w.tables.source.items x52.2.2.w.tables.source.plants x52.2.2.w.tables.source.machines x52.2.2.w.tables.source.options x52.2.2.w.tables.source.forbids x52.2.2.w.tables.source.recipes x52.2.2.w.tables.source.swaps x52.2.2.w.tables.levels x52.2.2.w.tables.codes x52.2.2.w.facts x52.2.2.day x52.2.2.known x52.2.2.reads) else (j34 s6.1 x52.2.2.w.tables.source.units x52.2.2.w.tables.source.items x52.2.2.w.tables.source.plants x52.2.2.w.tables.source.machines x52.2.2.w.tables.source.options x52.2.2.w.tables.source.forbids x52.2.2.w.tables.source.recipes x52.2.2.w.tables.source.swaps x52.2.2.w.tables.levels x52.2.2.w.tables.codes x52.2.2.w.facts x52.2.2.day x52.2.2.known x52.2.2.reads)) (fun (s6 : (List GLot) × (List GUnit) × (List GItem) × (List ByteArray) × (List GMachine) × (List GOption) × (List (List GCond)) × (List GRecipe) × (List GSwap) × (List Int) × (List (List GInst)) × (List GFact) × Int × Int × (List GRead)) => some (s6.1, s6.2.2.2.2.2.2.2.2.2.2.2.2.2.2)) (([] : List GLot), x4.2.w.tables.source.units, x4.2.w.tables.source.items, x4.2.w.tables.source.plants, x4.2.w.tables.source.machines, x4.2.w.tables.source.options, x4.2.w.tables.source.forbids, x4.2.w.tables.source.recipes, x4.2.w.tables.source.swaps, x4.2.w.tables.levels, x4.2.w.tables.codes, x4.2.w.facts, x4.2.day, x4.2.known, x4.2.reads))
theorem stock_Lots_c {a0 : GWorld} {a1 : Int} {a2 : Int} {r : (List GLot) × (List GRead)} (H : stock_Lots_m a0 a1 a2 = some r) : PureC Try.prog true 33 [GWorld.e a0, vi a1, vi a2] (V.t [V.l 6 (List.map GLot.e r.1), V.l 5 (List.map GRead.e r.2)]) := by
  unfold stock_Lots_m at H
  refine pure_intro (N := 42) Try.func33 rfl rfl rfl rfl fun C hO => ?_
  refine ev_shift (shift_mk (fs := [(0, .v false (GWorld.e a0)), (1, .v true (vi a1)), (2, .v true (vi a2))]) (es := []) ⟨⟨_, rfl, .rfl⟩, ⟨⟨_, rfl, (.flat rfl)⟩, ⟨⟨_, rfl, (.flat rfl)⟩, trivial⟩⟩⟩ trivial rfl rfl) ?_
  refine ev_seq ?_
  refine ev_region ?_
  refine re rfl (e_box 3 0 rfl rfl rfl) ?_; rintro _ ⟨b1, rfl⟩
  refine rq rfl rfl (q_assign rfl) ?_
  refine rq rfl rfl (q_assign rfl) ?_
  refine run_nil ?_
  refine ev_seq ?_
  refine ev_seq ?_
  refine ev_region ?_
  refine rq rfl rfl (q_move rfl) ?_
  obtain ⟨x2, x2_h, H⟩ := bd_inv H
  refine rq rfl rfl (q_call rfl (.v _ _ (fun e => nomatch e)) (.v rfl ArgsOk.nil) inferInstance (stock_isDay_c  x2_h)) ?_
  refine rq rfl rfl (q_not rfl) ?_
  refine run_nil ?_
  refine ev_cond rfl (fun hc => ?_) (fun hc => ?_)
  · replace H := ct hc H
    refine ev_seq ?_
    refine ev_region ?_
    refine rq rfl rfl (q_assign rfl) ?_
    refine rq rfl rfl (q_assign rfl) ?_
    refine run_nil ?_
    refine ev_ret ?_
    exact ret_ok [V.l 6 (List.map GLot.e []), V.l 5 (List.map GRead.e [])] (congrArg (fun r : (List GLot) × (List GRead) => V.t [V.l 6 (List.map GLot.e r.1), V.l 5 (List.map GRead.e r.2)]) (Option.some.inj H)) rfl (.cons (.tmp rfl (.nil _ _)) (.cons (.tmp rfl (.nil _ _)) .nil))
  · replace H := cf hc H
    refine ev_skip ?_
    refine ev_seq ?_
    refine ev_region ?_
    refine rq rfl rfl (q_loadN rfl rfl rfl rfl) ?_
    refine rq rfl rfl (q_move rfl) ?_
    refine rq rfl rfl (q_move rfl) ?_
    refine rq rfl rfl (q_build (r := [V.l 8 (List.map GUnit.e a0.tables.source.units), V.l 6 (List.map GItem.e a0.tables.source.items), V.l 1 (List.map V.s a0.tables.source.plants), V.l 4 (List.map GMachine.e a0.tables.source.machines), V.l 2 (List.map GOption.e a0.tables.source.options), V.l 1 (List.map (fun l => V.l 4 (List.map GCond.e l)) a0.tables.source.forbids), V.l 17 (List.map GRecipe.e a0.tables.source.recipes), V.l 4 (List.map GSwap.e a0.tables.source.swaps), V.l 1 (List.map vi a0.tables.levels), V.l 1 (List.map (fun l => V.l 6 (List.map GInst.e l)) a0.tables.codes), V.l 8 (List.map GFact.e a0.facts), vi a1, vi a2, .raw (.slice none 0 0)]) rfl (.v rfl rfl rfl rfl rfl (.v rfl rfl rfl rfl rfl (.v rfl rfl rfl rfl rfl .nil)))) ?_
    refine re rfl (e_box 7000 0 rfl rfl rfl) ?_; rintro _ ⟨b3, rfl⟩
    refine run_shift (shift_norow 7004 0 100) ?_
    refine run_shift (shift_wk (k := 7000) (i := 0) (ys := [.v false (V.l 8 (List.map GUnit.e a0.tables.source.units)), .v false (V.l 6 (List.map GItem.e a0.tables.source.items)), .v false (V.l 1 (List.map V.s a0.tables.source.plants)), .v false (V.l 4 (List.map GMachine.e a0.tables.source.machines)), .v false (V.l 2 (List.map GOption.e a0.tables.source.options)), .v false (V.l 1 (List.map (fun l => V.l 4 (List.map GCond.e l)) a0.tables.source.forbids)), .v false (V.l 17 (List.map GRecipe.e a0.tables.source.recipes)), .v false (V.l 4 (List.map GSwap.e a0.tables.source.swaps)), .v false (V.l 1 (List.map vi a0.tables.levels)), .v false (V.l 1 (List.map (fun l => V.l 6 (List.map GInst.e l)) a0.tables.codes)), .v false (V.l 8 (List.map GFact.e a0.facts)), .v true (vi a1), .v true (vi a2), .o 7004 0 none 5 0 (([] : List GRead).length)]) rfl (.cons .rfl (.cons .rfl (.cons .rfl (.cons .rfl (.cons .rfl (.cons .rfl (.cons .rfl (.cons .rfl (.cons .rfl (.cons .rfl (.cons .rfl (.cons (.flat rfl) (.cons (.flat rfl) (.cons .nilo .nil))))))))))))))) ?_
    refine rq rfl rfl (q_assign rfl) ?_
    refine run_nil ?_
    refine ev_seq ?_
    refine ev_seq ?_
    refine ev_region ?_
    refine rq rfl rfl (q_move rfl) ?_
    obtain ⟨x4, x4_h, H⟩ := bd_inv H
    refine re rfl (e_callR [7000, 7004] rfl (.v _ _ []) rfl inferInstance (stock_looker_many_c  x4_h) ⟨(.w rfl (.cons .old (.cons .old (.cons .old (.cons .old (.cons .old (.cons .old (.cons .old (.cons .old (.cons .old (.cons .old (.cons .old (.cons (.flat rfl) (.cons (.flat rfl) (.cons .rfl .nil))))))))))))))), ⟨(.e rfl), trivial⟩⟩ rfl rfl) ?_; rintro _ ⟨_, _, ⟨q5, rfl, rfl⟩, rfl⟩
    refine rq rfl rfl (q_move rfl) ?_
    refine run_nil ?_
    refine ev_block ?_
    refine ev_forN H (fun k8 s6 σ' => ∃ (q11 : Pl) (q26 : Pl), σ' = mkS [(6, .o 35 0 q11 6 0 s6.1.length), (7, .v true (.raw (.slice none 0 0))), (8, .p 7000 0 b3 0), (21, .v true (vi x4.1)), (22, .v true (vi k8))] [.e 35 0 q11 (.row 60 (els true (List.map GLot.e s6.1))), .e 7000 0 (some (b3, 14)) (.row 115 [.v false (V.l 8 (List.map GUnit.e s6.2.1)), .v false (V.l 6 (List.map GItem.e s6.2.2.1)), .v false (V.l 1 (List.map V.s s6.2.2.2.1)), .v false (V.l 4 (List.map GMachine.e s6.2.2.2.2.1)), .v false (V.l 2 (List.map GOption.e s6.2.2.2.2.2.1)), .v false (V.l 1 (List.map (fun l => V.l 4 (List.map GCond.e l)) s6.2.2.2.2.2.2.1)), .v false (V.l 17 (List.map GRecipe.e s6.2.2.2.2.2.2.2.1)), .v false (V.l 4 (List.map GSwap.e s6.2.2.2.2.2.2.2.2.1)), .v false (V.l 1 (List.map vi s6.2.2.2.2.2.2.2.2.2.1)), .v false (V.l 1 (List.map (fun l => V.l 6 (List.map GInst.e l)) s6.2.2.2.2.2.2.2.2.2.2.1)), .v false (V.l 8 (List.map GFact.e s6.2.2.2.2.2.2.2.2.2.2.2.1)), .v true (vi s6.2.2.2.2.2.2.2.2.2.2.2.2.1), .v true (vi s6.2.2.2.2.2.2.2.2.2.2.2.2.2.1), .o 7004 0 q26 5 0 s6.2.2.2.2.2.2.2.2.2.2.2.2.2.2.length]), .e 7004 0 q26 (.row 100 (els true (List.map GRead.e s6.2.2.2.2.2.2.2.2.2.2.2.2.2.2)))] [] (0, false)) ⟨_, ⟨none, q5, rfl⟩, shift_mk ⟨⟨_, rfl, .nilo⟩, ⟨⟨_, rfl, .rfl⟩, ⟨⟨_, rfl, .rfl⟩, ⟨⟨_, rfl, (.flat rfl)⟩, ⟨⟨_, rfl, .rfl⟩, trivial⟩⟩⟩⟩⟩ ⟨(.nn rfl), ⟨(.w rfl (.cons .rfl (.cons .rfl (.cons .rfl (.cons .rfl (.cons .rfl (.cons .rfl (.cons .rfl (.cons .rfl (.cons .rfl (.cons .rfl (.cons .rfl (.cons (.flat rfl) (.cons (.flat rfl) (.cons .rfl .nil))))))))))))))), ⟨(.e rfl), trivial⟩⟩⟩ rfl rfl⟩ ?_
    rintro n27 k8 s6 _ ⟨q11, q26, rfl⟩ w28 w29 w30 w31 H
    refine ev_seq ?_
    refine ev_region ?_
    refine rq rfl rfl (q_lss rfl rfl) ?_
    refine run_nil ?_
    refine ev_seq ?_
    refine ev_cond rfl (fun hc => ?_) (fun hc => ?_)
    · obtain ⟨n33, n33_e, w32, H⟩ := forN_in hc w28 H
      refine ev_skip ?_
      obtain ⟨j34, j34_e, H⟩ := jn_inv H
      refine ev_join (fun σ' => ∃ (p35 : List GLot) (p37 : List GUnit) (p38 : List GItem) (p39 : List ByteArray) (p40 : List GMachine) (p41 : List GOption) (p42 : List (List GCond)) (p43 : List GRecipe) (p44 : List GSwap) (p45 : List Int) (p46 : List (List GInst)) (p47 : List GFact) (p48 : Int) (p49 : Int) (p50 : List GRead) (q36 : Pl) (q51 : Pl), j34 p35 p37 p38 p39 p40 p41 p42 p43 p44 p45 p46 p47 p48 p49 p50 = some r ∧ σ' = mkS [(6, .o 35 0 q36 6 0 p35.length), (7, .v true (.raw (.slice none 0 0))), (8, .p 7000 0 b3 0), (21, .v true (vi x4.1)), (22, .v true (vi k8))] [.e 35 0 q36 (.row 60 (els true (List.map GLot.e p35))), .e 7000 0 (some (b3, 14)) (.row 115 [.v false (V.l 8 (List.map GUnit.e p37)), .v false (V.l 6 (List.map GItem.e p38)), .v false (V.l 1 (List.map V.s p39)), .v false (V.l 4 (List.map GMachine.e p40)), .v false (V.l 2 (List.map GOption.e p41)), .v false (V.l 1 (List.map (fun l => V.l 4 (List.map GCond.e l)) p42)), .v false (V.l 17 (List.map GRecipe.e p43)), .v false (V.l 4 (List.map GSwap.e p44)), .v false (V.l 1 (List.map vi p45)), .v false (V.l 1 (List.map (fun l => V.l 6 (List.map GInst.e l)) p46)), .v false (V.l 8 (List.map GFact.e p47)), .v true (vi p48), .v true (vi p49), .o 7004 0 q51 5 0 p50.length]), .e 7004 0 q51 (.row 100 (els true (List.map GRead.e p50)))] [] (0, false)) ?_ ?_
      · rintro _ ⟨p35, p37, p38, p39, p40, p41, p42, p43, p44, p45, p46, p47, p48, p49, p50, q36, q51, H, rfl⟩
        subst j34_e
        refine ev_region ?_
        refine rq rfl rfl (q_add rfl rfl) ?_
        refine rq rfl rfl (q_move rfl) ?_
        refine run_nil ?_
        exact ⟨_, _, _, n33_e, H, ⟨q36, q51, rfl⟩, shift_mk ⟨⟨_, rfl, .rfl⟩, ⟨⟨_, rfl, .rfl⟩, ⟨⟨_, rfl, .rfl⟩, ⟨⟨_, rfl, (.flat rfl)⟩, ⟨⟨_, rfl, (.eq (congrArg (fun n => D.v true (vi n)) (wrap_succ' (by omega) w32 w31)))⟩, trivial⟩⟩⟩⟩⟩ ⟨(.e rfl), ⟨(.w rfl (.cons .rfl (.cons .rfl (.cons .rfl (.cons .rfl (.cons .rfl (.cons .rfl (.cons .rfl (.cons .rfl (.cons .rfl (.cons .rfl (.cons .rfl (.cons (.flat rfl) (.cons (.flat rfl) (.cons .rfl .nil))))))))))))))), ⟨(.e rfl), trivial⟩⟩⟩ rfl rfl⟩
      · clear j34_e
        refine ev_block ?_
        refine ev_seq ?_
        refine ev_region ?_
        refine rq rfl rfl (q_move rfl) ?_
        refine rq rfl rfl (q_assign rfl) ?_
        refine run_nil ?_
        refine ev_seq ?_
        refine ev_region ?_
        refine rq rfl rfl (q_move rfl) ?_
        refine rq rfl rfl (q_move rfl) ?_
        obtain ⟨x52, x52_h, H⟩ := bd_inv H
        refine re rfl (e_callR [7000, 7004] rfl (.v _ _ []) rfl inferInstance (stock_looker_lot_c  x52_h) ⟨(.w rfl (.cons .old (.cons .old (.cons .old (.cons .old (.cons .old (.cons .old (.cons .old (.cons .old (.cons .old (.cons .old (.cons .old (.cons (.flat rfl) (.cons (.flat rfl) (.cons .rfl .nil))))))))))))))), ⟨(.e rfl), trivial⟩⟩ rfl rfl) ?_; rintro _ ⟨_, _, ⟨q53, rfl, rfl⟩, rfl⟩
        refine rq rfl rfl (q_move rfl) ?_
        refine rq rfl rfl (q_extractD rfl rfl) ?_
        refine rq rfl rfl (q_extractD rfl rfl) ?_
        refine re rfl (e_alloc 10 0 rfl rfl) ?_; rintro _ ⟨b54, rfl⟩
        refine re rfl (e_store rfl rfl rfl rfl rfl (Nat.le_of_ble_eq_true rfl) rfl) ?_; rintro _ rfl
        refine rq rfl rfl (q_assign rfl) ?_
        refine run_nil ?_
        refine ev_seq ?_
        refine ev_region ?_
        refine rq rfl rfl (q_move rfl) ?_
        refine run_nil ?_
        refine ev_cond rfl (fun hc => ?_) (fun hc => ?_)
        · replace H := ct hc H
          refine ev_region ?_
          refine rq rfl rfl (q_move rfl) ?_
          refine rq rfl rfl (q_loadN rfl rfl rfl rfl) ?_
          refine rq rfl rfl (q_buildSlice (z := 6) (xs := List.map GLot.e ([x52.1] : List GLot)) (fl := true) rfl rfl rfl rfl (by simp [V.plain, V.cells, GLot.e, vi, vb]) rfl) ?_
          obtain ⟨w55, H⟩ := gdd_inv H
          refine re rfl (e_appt rfl rfl rfl (fun _ => ⟨rfl, rfl⟩) rfl rfl rfl w55 rfl) ?_; rintro _ ⟨q56, rfl⟩
          refine rq rfl rfl (q_assign rfl) ?_
          refine run_nil ?_
          exact ⟨_, ⟨s6.1 ++ ([x52.1] : List GLot), x52.2.2.w.tables.source.units, x52.2.2.w.tables.source.items, x52.2.2.w.tables.source.plants, x52.2.2.w.tables.source.machines, x52.2.2.w.tables.source.options, x52.2.2.w.tables.source.forbids, x52.2.2.w.tables.source.recipes, x52.2.2.w.tables.source.swaps, x52.2.2.w.tables.levels, x52.2.2.w.tables.codes, x52.2.2.w.facts, x52.2.2.day, x52.2.2.known, x52.2.2.reads, q56, q53, H, rfl⟩, shift_mk ⟨⟨_, rfl, .rfl⟩, ⟨⟨_, rfl, .rfl⟩, ⟨⟨_, rfl, .rfl⟩, ⟨⟨_, rfl, (.flat rfl)⟩, ⟨⟨_, rfl, (.flat rfl)⟩, trivial⟩⟩⟩⟩⟩ ⟨(.e rfl), ⟨(.w rfl (.cons .rfl (.cons .rfl (.cons .rfl (.cons .rfl (.cons .rfl (.cons .rfl (.cons .rfl (.cons .rfl (.cons .rfl (.cons .rfl (.cons .rfl (.cons (.flat rfl) (.cons (.flat rfl) (.cons .rfl .nil))))))))))))))), ⟨(.e rfl), trivial⟩⟩⟩ rfl rfl⟩
        · replace H := cf hc H
          refine ev_skip ?_
          exact ⟨_, ⟨s6.1, x52.2.2.w.tables.source.units, x52.2.2.w.tables.source.items, x52.2.2.w.tables.source.plants, x52.2.2.w.tables.source.machines, x52.2.2.w.tables.source.options, x52.2.2.w.tables.source.forbids, x52.2.2.w.tables.source.recipes, x52.2.2.w.tables.source.swaps, x52.2.2.w.tables.levels, x52.2.2.w.tables.codes, x52.2.2.w.facts, x52.2.2.day, x52.2.2.known, x52.2.2.reads, q11, q53, H, rfl⟩, shift_mk ⟨⟨_, rfl, .rfl⟩, ⟨⟨_, rfl, .rfl⟩, ⟨⟨_, rfl, .rfl⟩, ⟨⟨_, rfl, (.flat rfl)⟩, ⟨⟨_, rfl, (.flat rfl)⟩, trivial⟩⟩⟩⟩⟩ ⟨(.e rfl), ⟨(.w rfl (.cons .rfl (.cons .rfl (.cons .rfl (.cons .rfl (.cons .rfl (.cons .rfl (.cons .rfl (.cons .rfl (.cons .rfl (.cons .rfl (.cons .rfl (.cons (.flat rfl) (.cons (.flat rfl) (.cons .rfl .nil))))))))))))))), ⟨(.e rfl), trivial⟩⟩⟩ rfl rfl⟩
    · replace H := forN_out hc w28 H
      refine ev_exit ?_
      refine ev_seq ?_
      refine ev_draw rfl (by kernel_rfl) ?_
      refine qq rfl rfl (q_move rfl) ?_
      refine qq rfl rfl (q_move rfl) ?_
      refine qq rfl rfl (q_nil rfl) ?_
      refine qq rfl rfl (q_fld_p rfl) ?_
      refine qq rfl rfl (q_load1 rfl rfl rfl) ?_
      refine qq rfl rfl (q_assign rfl) ?_
      refine qq rfl rfl (q_assign rfl) ?_
      refine qn ?_
      refine ev_ret ?_
      exact ret_ok [V.l 6 (List.map GLot.e s6.1), V.l 5 (List.map GRead.e s6.2.2.2.2.2.2.2.2.2.2.2.2.2.2)] (congrArg (fun r : (List GLot) × (List GRead) => V.t [V.l 6 (List.map GLot.e r.1), V.l 5 (List.map GRead.e r.2)]) (Option.some.inj H)) rfl (.cons (.tmp rfl (.all rfl (List.length_map _) (els_plain fun _ => ⟨rfl, rfl⟩) (fun _ => rfl))) (.cons (.tmp rfl (.all rfl (List.length_map _) (els_plain fun _ => ⟨rfl, rfl⟩) (fun _ => rfl))) .nil))
def slices_insertionSortCmpFunc_Lot_m (a0 : List GLot) (a1 : Int) (a2 : Int) (a3 : GLot → GLot → Option Int) : Option (List GLot) := forN (wr (a1 + 1)) a2 (fun (k3 : Int) (s1 : (List GLot)) loop2 => iter (fun (s13 : Int × (List GLot)) loop14 => bdc (decide (a1 < s13.1)) (idx s13.2 s13.1) fun x17 => bdc (decide (a1 < s13.1)) (idx s13.2 (wr (s13.1 - 1))) fun x18 => bdc (decide (a1 < s13.1)) (a3 x17 x18) fun x19 => bif bif decide (a1 < s13.1) then decide (x19 < 0) else false then (bd (idx s13.2 (wr (s13.1 - 1))) fun x20 => bd (idx s13.2 s13.1) fun x21 => bd (idx ((s13.2).set (s13.1).toNat x20) (wr (s13.1 - 1))) fun x22 => loop14 (wr (s13.1 - 1), ((s13.2).set (s13.1).toNat x20).set (wr (s13.1 - 1)).toNat x21)) else (loop2 s13.2)) 1048576 (k3, s1)) (fun (s1 : (List GLot)) => some s1) a0
theorem slices_insertionSortCmpFunc_Lot_c {a0 : List GLot} {q_a0 : Pl} {a1 : Int} {a2 : Int} {a3_g : Nat} {a3_k : List V} {a3 : GLot → GLot → Option Int} [TFn Try.prog a3_g] (a3_h : ∀ y0 y1 r, a3 y0 y1 = some r → PureC Try.prog true a3_g ([GLot.e y0, GLot.e y1] ++ a3_k) (vi r)) {f_a1 : Bool} {f_a2 : Bool} {f_a3 : Bool} {r : (List GLot)} (H : slices_insertionSortCmpFunc_Lot_m a0 a1 a2 a3 = some r) : FnR Try.prog 101 [.o 8000 0 q_a0 6 0 a0.length, .v f_a1 (vi a1), .v f_a2 (vi a2), .v f_a3 (.c a3_g a3_k)] [.e 8000 0 q_a0 (.row 60 (els true (List.map GLot.e a0)))] (fun d es' => d = .t [] ∧ es' = [.e 8000 0 q_a0 (.row 60 (els true (List.map GLot.e r)))]) := by
  unfold slices_insertionSortCmpFunc_Lot_m at H
  refine fnr_intro (N := 53) Try.func101 rfl rfl rfl rfl fun C => ?_
  refine ev_shift (shift_mk (fs := [(0, .o 8000 0 q_a0 6 0 a0.length), (1, .v true (vi a1)), (2, .v true (vi a2)), (3, .v false (.c a3_g a3_k))]) (es := [.e 8000 0 q_a0 (.row 60 (els true (List.map GLot.e a0)))]) ⟨⟨_, rfl, .rfl⟩, ⟨⟨_, rfl, (.flat rfl)⟩, ⟨⟨_, rfl, (.flat rfl)⟩, ⟨⟨_, rfl, .old⟩, trivial⟩⟩⟩⟩ ⟨(.e rfl), trivial⟩ rfl rfl) ?_
  refine ev_seq ?_
  refine ev_region ?_
  refine rq rfl rfl (q_move rfl) ?_
  refine rq rfl rfl (q_add rfl rfl) ?_
  refine rq rfl rfl (q_assign rfl) ?_
  refine run_nil ?_
  refine ev_block ?_
  refine ev_forN H (fun k3 s1 σ' => σ' = mkS [(0, .o 8000 0 q_a0 6 0 s1.length), (1, .v true (vi a1)), (2, .v true (vi a2)), (3, .v false (.c a3_g a3_k)), (8, .v true (vi k3))] [.e 8000 0 q_a0 (.row 60 (els true (List.map GLot.e s1)))] [] (0, false)) ⟨_, rfl, shift_mk ⟨⟨_, rfl, .rfl⟩, ⟨⟨_, rfl, (.flat rfl)⟩, ⟨⟨_, rfl, (.flat rfl)⟩, ⟨⟨_, rfl, .rfl⟩, ⟨⟨_, rfl, .rfl⟩, trivial⟩⟩⟩⟩⟩ ⟨(.e rfl), trivial⟩ rfl rfl⟩ ?_
  rintro n6 k3 s1 _ rfl w7 w8 w9 w10 H
  refine ev_seq ?_
  refine ev_seq ?_
  refine ev_region ?_
  refine rq rfl rfl (q_move rfl) ?_
  refine rq rfl rfl (q_move rfl) ?_
  refine rq rfl rfl (q_lss rfl rfl) ?_
  refine run_nil ?_
  refine ev_cond rfl (fun hc => ?_) (fun hc => ?_)
  · obtain ⟨n12, n12_e, w11, H⟩ := forN_in hc w7 H
    refine ev_skip ?_
    refine ev_seq ?_
    refine ev_block ?_
    refine ev_seq ?_
    refine ev_region ?_
    refine rq rfl rfl (q_move rfl) ?_
    refine rq rfl rfl (q_assign rfl) ?_
    refine run_nil ?_
    refine ev_block ?_
    refine ev_iter H (fun s13 σ' => σ' = mkS [(0, .o 8000 0 q_a0 6 0 s13.2.length), (1, .v true (vi a1)), (2, .v true (vi a2)), (3, .v false (.c a3_g a3_k)), (8, .v true (vi k3)), (9, .v true (vi s13.1))] [.e 8000 0 q_a0 (.row 60 (els true (List.map GLot.e s13.2)))] [] (0, false)) ⟨_, rfl, shift_mk ⟨⟨_, rfl, .rfl⟩, ⟨⟨_, rfl, (.flat rfl)⟩, ⟨⟨_, rfl, (.flat rfl)⟩, ⟨⟨_, rfl, .rfl⟩, ⟨⟨_, rfl, (.flat rfl)⟩, ⟨⟨_, rfl, (.flat rfl)⟩, trivial⟩⟩⟩⟩⟩⟩ ⟨(.e rfl), trivial⟩ rfl rfl⟩ ?_
    rintro n23 s13 _ rfl H
    refine ev_seq ?_
    refine ev_seq ?_
    obtain ⟨x17, x17_h, _, H⟩ := bdc_inv H
    obtain ⟨x18, x18_h, _, H⟩ := bdc_inv H
    obtain ⟨x19, x19_h, _, H⟩ := bdc_inv H
    refine ev_draw rfl (by kernel_rfl) ?_
    refine qq rfl rfl (q_move rfl) ?_
    refine qq rfl rfl (q_move rfl) ?_
    refine qq rfl rfl (q_gtr rfl rfl) ?_
    refine qq rfl rfl (q_move rfl) ?_
    refine qc (l := []) ⟨⟨_, _, _, rfl, rfl, rfl, rfl⟩, rfl, fun hc => q_move rfl, trivial⟩ rfl rfl ?_
    refine qc (l := []) ⟨⟨_, _, _, rfl, rfl, rfl, rfl⟩, rfl, fun hc => q_move rfl, trivial⟩ rfl rfl ?_
    refine qc (l := []) ⟨⟨_, _, _, rfl, rfl, rfl, rfl⟩, rfl, fun hc => q_move rfl, trivial⟩ rfl rfl ?_
    refine qc (l := [23, 24]) ⟨⟨_, _, _, rfl, rfl, rfl, rfl⟩, rfl, fun hc => q_idx_pl rfl rfl (idx_inv (x17_h hc)).1 (idx_inv (x17_h hc)).2.2.2, ⟨fun h => h, ⟨fun h => h, trivial⟩⟩⟩ rfl rfl ?_
    refine qc (l := [25]) ⟨⟨_, _, _, rfl, rfl, rfl, rfl⟩, rfl, fun hc => q_load_eep (E := GLot.e) (z := 6) (fun _ => ⟨rfl, rfl⟩) rfl rfl rfl (idx_inv (x17_h hc)).2.1, ⟨fun h => h, trivial⟩⟩ rfl rfl ?_
    refine qc (l := []) ⟨⟨_, _, _, rfl, rfl, rfl, rfl⟩, rfl, fun hc => q_move rfl, trivial⟩ rfl rfl ?_
    refine qc (l := []) ⟨⟨_, _, _, rfl, rfl, rfl, rfl⟩, rfl, fun hc => q_move rfl, trivial⟩ rfl rfl ?_
    refine qc (l := [28]) ⟨⟨_, _, _, rfl, rfl, rfl, rfl⟩, rfl, fun hc => q_sub rfl rfl, ⟨fun h => h, trivial⟩⟩ rfl rfl ?_
    refine qc (l := [27, 29]) ⟨⟨_, _, _, rfl, rfl, rfl, rfl⟩, rfl, fun hc => q_idx_pl rfl rfl (idx_inv (x18_h hc)).1 (idx_inv (x18_h hc)).2.2.2, ⟨fun h => h, ⟨fun h => h, trivial⟩⟩⟩ rfl rfl ?_
    refine qc (l := [30]) ⟨⟨_, _, _, rfl, rfl, rfl, rfl⟩, rfl, fun hc => q_load_eep (E := GLot.e) (z := 6) (fun _ => ⟨rfl, rfl⟩) rfl rfl rfl (idx_inv (x18_h hc)).2.1, ⟨fun h => h, trivial⟩⟩ rfl rfl ?_
    refine qc (l := [22, 26, 31]) ⟨⟨_, _, _, rfl, rfl, rfl, rfl⟩, rfl, fun hc => q_call rfl (.v _ _ (fun e => nomatch e)) (.v rfl (.v rfl ArgsOk.nil)) inferInstance (a3_h _ _ _ (x19_h hc)), ⟨fun h => h, ⟨fun h => h, ⟨fun h => h, trivial⟩⟩⟩⟩ rfl rfl ?_
    refine qc (l := [32]) ⟨⟨_, _, _, rfl, rfl, rfl, rfl⟩, rfl, fun hc => q_lss rfl rfl, ⟨fun h => h, trivial⟩⟩ rfl rfl ?_
    refine qq rfl rfl (q_pickb rfl rfl rfl (PB.c (fun hp => hp)) PB.v) ?_
    refine qn ?_
    refine ev_cond rfl (fun hc => ?_) (fun hc => ?_)
    · replace H := ct hc H
      refine ev_skip ?_
      refine ev_seq ?_
      refine ev_block ?_
      obtain ⟨x20, x20_h, H⟩ := bd_inv H
      obtain ⟨x21, x21_h, H⟩ := bd_inv H
      obtain ⟨x22, x22_h, H⟩ := bd_inv H
      refine ev_drawX (fun i => (assocN [(15, [8000]), (17, [8000])] i).getD []) rfl ?_
      refine xq (r := some _) [] 0 (.start _) rfl (by kernel_rfl) (by kernel_rfl) ⟨rfl, .inl ⟨rfl, Quiet.norm (q_move rfl)⟩⟩ rfl (fun hcl => ?_)
      refine xq (r := some _) [] 1 hcl rfl (by kernel_rfl) (by kernel_rfl) ⟨rfl, .inl ⟨rfl, Quiet.norm (q_move rfl)⟩⟩ rfl (fun hcl => ?_)
      refine xq (r := some _) [8000] 2 hcl rfl (by kernel_rfl) (by kernel_rfl) ⟨rfl, .inl ⟨rfl, Quiet.norm (q_move rfl)⟩⟩ rfl (fun hcl => ?_)
      refine xq (r := some _) [8000] 3 hcl rfl (by kernel_rfl) (by kernel_rfl) ⟨rfl, .inl ⟨rfl, Quiet.norm (q_move rfl)⟩⟩ rfl (fun hcl => ?_)
      refine xq (r := some _) [8000] 4 hcl rfl (by kernel_rfl) (by kernel_rfl) ⟨rfl, .inl ⟨rfl, Quiet.norm (q_sub rfl rfl)⟩⟩ rfl (fun hcl => ?_)
      refine xq (r := some _) [] 5 hcl rfl (by kernel_rfl) (by kernel_rfl) ⟨rfl, .inl ⟨rfl, Quiet.norm (q_move rfl)⟩⟩ rfl (fun hcl => ?_)
      refine xq (r := some _) [] 6 hcl rfl (by kernel_rfl) (by kernel_rfl) ⟨rfl, .inl ⟨rfl, Quiet.norm (q_move rfl)⟩⟩ rfl (fun hcl => ?_)
      refine xq (r := some _) [] 7 hcl rfl (by kernel_rfl) (by kernel_rfl) ⟨rfl, .inl ⟨rfl, Quiet.norm (q_sub rfl rfl)⟩⟩ rfl (fun hcl => ?_)
      refine xq (r := some _) [] 8 hcl rfl (by kernel_rfl) (by kernel_rfl) ⟨rfl, .inl ⟨rfl, Quiet.norm (q_idx_pl rfl rfl (idx_inv x20_h).1 (idx_inv x20_h).2.2.2)⟩⟩ rfl (fun hcl => ?_)
      refine xq (r := some _) [] 9 hcl rfl (by kernel_rfl) (by kernel_rfl) ⟨rfl, .inl ⟨rfl, Quiet.norm (q_load_eep (E := GLot.e) (z := 6) (fun _ => ⟨rfl, rfl⟩) rfl rfl rfl (idx_inv x20_h).2.1)⟩⟩ rfl (fun hcl => ?_)
      refine xq (r := some _) [] 10 hcl rfl (by kernel_rfl) (by kernel_rfl) ⟨rfl, .inl ⟨rfl, Quiet.norm (q_move rfl)⟩⟩ rfl (fun hcl => ?_)
      refine xq (r := some _) [] 11 hcl rfl (by kernel_rfl) (by kernel_rfl) ⟨rfl, .inl ⟨rfl, Quiet.norm (q_move rfl)⟩⟩ rfl (fun hcl => ?_)
      refine xq (r := some _) [] 12 hcl rfl (by kernel_rfl) (by kernel_rfl) ⟨rfl, .inl ⟨rfl, Quiet.norm (q_idx_pl rfl rfl (idx_inv x21_h).1 (idx_inv x21_h).2.2.2)⟩⟩ rfl (fun hcl => ?_)
      refine xq (r := some _) [] 13 hcl rfl (by kernel_rfl) (by kernel_rfl) ⟨rfl, .inl ⟨rfl, Quiet.norm (q_load_eep (E := GLot.e) (z := 6) (fun _ => ⟨rfl, rfl⟩) rfl rfl rfl (idx_inv x21_h).2.1)⟩⟩ rfl (fun hcl => ?_)
      refine xq (r := some _) [] 14 hcl rfl (by kernel_rfl) (by kernel_rfl) ⟨rfl, .inl ⟨rfl, Quiet.norm (q_idx_pl rfl rfl (idx_inv x21_h).1 (idx_inv x21_h).2.2.2)⟩⟩ rfl (fun hcl => ?_)
      refine xb hcl (l := [15]) (by kernel_rfl) (by simp) (fun i hi hcl => ?_)
      obtain rfl : i = 15 := by simpa using hi
      refine xe rfl (x_store_eep (E := GLot.e) (z := 6) rfl rfl rfl (fun _ => ⟨rfl, rfl⟩) (idx_inv x21_h).2.2.1 rfl rfl rfl) ?_; rintro _ rfl
      refine xq (r := some _) [] 16 hcl rfl (by kernel_rfl) (by kernel_rfl) ⟨rfl, .inl ⟨rfl, Quiet.norm (q_idx_pl rfl rfl (idx_inv x22_h).1 (by simpa using (idx_inv x22_h).2.2.2))⟩⟩ rfl (fun hcl => ?_)
      refine xb hcl (l := [17]) (by kernel_rfl) (by simp) (fun i hi hcl => ?_)
      obtain rfl : i = 17 := by simpa using hi
      refine xe rfl (x_store_eep (E := GLot.e) (z := 6) rfl rfl rfl (fun _ => ⟨rfl, rfl⟩) (idx_inv x22_h).2.2.1 rfl rfl rfl) ?_; rintro _ rfl
      refine xn (by kernel_rfl) ?_
      refine ev_region ?_
      refine rq rfl rfl (q_move rfl) ?_
      refine rq rfl rfl (q_sub rfl rfl) ?_
      refine rq rfl rfl (q_assign rfl) ?_
      refine run_nil ?_
      exact ⟨_, _, H, rfl, shift_mk ⟨⟨_, rfl, (.eq (by simp))⟩, ⟨⟨_, rfl, (.flat rfl)⟩, ⟨⟨_, rfl, (.flat rfl)⟩, ⟨⟨_, rfl, .rfl⟩, ⟨⟨_, rfl, (.flat rfl)⟩, ⟨⟨_, rfl, (.flat rfl)⟩, trivial⟩⟩⟩⟩⟩⟩ ⟨(.e rfl), trivial⟩ rfl rfl⟩
    · replace H := cf hc H
      refine ev_exit ?_
      refine ev_region ?_
      refine rq rfl rfl (q_move rfl) ?_
      refine rq rfl rfl (q_add rfl rfl) ?_
      refine rq rfl rfl (q_assign rfl) ?_
      refine run_nil ?_
      exact ⟨_, _, _, n12_e, H, rfl, shift_mk ⟨⟨_, rfl, .rfl⟩, ⟨⟨_, rfl, (.flat rfl)⟩, ⟨⟨_, rfl, (.flat rfl)⟩, ⟨⟨_, rfl, .rfl⟩, ⟨⟨_, rfl, (.eq (congrArg (fun n => D.v true (vi n)) (wrap_succ' (by omega) w11 w10)))⟩, trivial⟩⟩⟩⟩⟩ ⟨(.e rfl), trivial⟩ rfl rfl⟩
  · replace H := forN_out hc w7 H
    refine ev_exit ?_
    have hr := Option.some.inj H
    exact endR [] [.e 8000 0 q_a0 (.row 60 (els true (List.map GLot.e s1)))] rfl .nil ⟨by cases hr; rfl, by cases hr; rfl⟩ ⟨(.e rfl), trivial⟩
def slices_swapRangeCmpFunc_Lot_m (a0 : List GLot) (a1 : Int) (a2 : Int) (a3 : Int) (a4 : GLot → GLot → Option Int) : Option (List GLot) := forN 0 a3 (fun (k3 : Int) (s1 : (List GLot)) loop2 => bd (idx s1 (wr (a2 + k3))) fun x13 => bd (idx s1 (wr (a1 + k3))) fun x14 => bd (idx ((s1).set (wr (a1 + k3)).toNat x13) (wr (a2 + k3))) fun x15 => loop2 (((s1).set (wr (a1 + k3)).toNat x13).set (wr (a2 + k3)).toNat x14)) (fun (s1 : (List GLot)) => some s1) a0
theorem slices_swapRangeCmpFunc_Lot_c {a0 : List GLot} {q_a0 : Pl} {a1 : Int} {a2 : Int} {a3 : Int} {a4_g : Nat} {a4_k : List V} {a4 : GLot → GLot → Option Int} [TFn Try.prog a4_g] (a4_h : ∀ y0 y1 r, a4 y0 y1 = some r → PureC Try.prog true a4_g ([GLot.e y0, GLot.e y1] ++ a4_k) (vi r)) {f_a1 : Bool} {f_a2 : Bool} {f_a3 : Bool} {f_a4 : Bool} {r : (List GLot)} (H : slices_swapRangeCmpFunc_Lot_m a0 a1 a2 a3 a4 = some r) : FnR Try.prog 109 [.o 8000 0 q_a0 6 0 a0.length, .v f_a1 (vi a1), .v f_a2 (vi a2), .v f_a3 (vi a3), .v f_a4 (.c a4_g a4_k)] [.e 8000 0 q_a0 (.row 60 (els true (List.map GLot.e a0)))] (fun d es' => d = .t [] ∧ es' = [.e 8000 0 q_a0 (.row 60 (els true (List.map GLot.e r)))]) := by
  unfold slices_swapRangeCmpFunc_Lot_m at H
  refine fnr_intro (N := 38) Try.func109 rfl rfl rfl rfl fun C => ?_
  refine ev_shift (shift_mk (fs := [(0, .o 8000 0 q_a0 6 0 a0.length), (1, .v true (vi a1)), (2, .v true (vi a2)), (3, .v true (vi a3)), (4, .v false (.c a4_g a4_k))]) (es := [.e 8000 0 q_a0 (.row 60 (els true (List.map GLot.e a0)))]) ⟨⟨_, rfl, .rfl⟩, ⟨⟨_, rfl, (.flat rfl)⟩, ⟨⟨_, rfl, (.flat rfl)⟩, ⟨⟨_, rfl, (.flat rfl)⟩, ⟨⟨_, rfl, .old⟩, trivial⟩⟩⟩⟩⟩ ⟨(.e rfl), trivial⟩ rfl rfl) ?_
  refine ev_seq ?_
  refine ev_region ?_
  refine rq rfl rfl (q_assign rfl) ?_
  refine run_nil ?_
  refine ev_block ?_
  refine ev_forN H (fun k3 s1 σ' => σ' = mkS [(0, .o 8000 0 q_a0 6 0 s1.length), (1, .v true (vi a1)), (2, .v true (vi a2)), (3, .v true (vi a3)), (10, .v true (vi k3))] [.e 8000 0 q_a0 (.row 60 (els true (List.map GLot.e s1)))] [] (0, false)) ⟨_, rfl, shift_mk ⟨⟨_, rfl, .rfl⟩, ⟨⟨_, rfl, (.flat rfl)⟩, ⟨⟨_, rfl, (.flat rfl)⟩, ⟨⟨_, rfl, (.flat rfl)⟩, ⟨⟨_, rfl, .rfl⟩, trivial⟩⟩⟩⟩⟩ ⟨(.e rfl), trivial⟩ rfl rfl⟩ ?_
  rintro n6 k3 s1 _ rfl w7 w8 w9 w10 H
  refine ev_seq ?_
  refine ev_seq ?_
  refine ev_region ?_
  refine rq rfl rfl (q_move rfl) ?_
  refine rq rfl rfl (q_move rfl) ?_
  refine rq rfl rfl (q_lss rfl rfl) ?_
  refine run_nil ?_
  refine ev_cond rfl (fun hc => ?_) (fun hc => ?_)
  · obtain ⟨n12, n12_e, w11, H⟩ := forN_in hc w7 H
    refine ev_skip ?_
    refine ev_seq ?_
    refine ev_block ?_
    obtain ⟨x13, x13_h, H⟩ := bd_inv H
    obtain ⟨x14, x14_h, H⟩ := bd_inv H
    obtain ⟨x15, x15_h, H⟩ := bd_inv H
    refine ev_drawX (fun i => (assocN [(21, [8000]), (23, [8000])] i).getD []) rfl ?_
    refine xq (r := some _) [] 0 (.start _) rfl (by kernel_rfl) (by kernel_rfl) ⟨rfl, .inl ⟨rfl, Quiet.norm (q_move rfl)⟩⟩ rfl (fun hcl => ?_)
    refine xq (r := some _) [] 1 hcl rfl (by kernel_rfl) (by kernel_rfl) ⟨rfl, .inl ⟨rfl, Quiet.norm (q_move rfl)⟩⟩ rfl (fun hcl => ?_)
    refine xq (r := some _) [] 2 hcl rfl (by kernel_rfl) (by kernel_rfl) ⟨rfl, .inl ⟨rfl, Quiet.norm (q_move rfl)⟩⟩ rfl (fun hcl => ?_)
    refine xq (r := some _) [] 3 hcl rfl (by kernel_rfl) (by kernel_rfl) ⟨rfl, .inl ⟨rfl, Quiet.norm (q_add rfl rfl)⟩⟩ rfl (fun hcl => ?_)
    refine xq (r := some _) [8000] 4 hcl rfl (by kernel_rfl) (by kernel_rfl) ⟨rfl, .inl ⟨rfl, Quiet.norm (q_move rfl)⟩⟩ rfl (fun hcl => ?_)
    refine xq (r := some _) [8000] 5 hcl rfl (by kernel_rfl) (by kernel_rfl) ⟨rfl, .inl ⟨rfl, Quiet.norm (q_move rfl)⟩⟩ rfl (fun hcl => ?_)
    refine xq (r := some _) [8000] 6 hcl rfl (by kernel_rfl) (by kernel_rfl) ⟨rfl, .inl ⟨rfl, Quiet.norm (q_move rfl)⟩⟩ rfl (fun hcl => ?_)
    refine xq (r := some _) [8000] 7 hcl rfl (by kernel_rfl) (by kernel_rfl) ⟨rfl, .inl ⟨rfl, Quiet.norm (q_add rfl rfl)⟩⟩ rfl (fun hcl => ?_)
    refine xq (r := some _) [] 8 hcl rfl (by kernel_rfl) (by kernel_rfl) ⟨rfl, .inl ⟨rfl, Quiet.norm (q_move rfl)⟩⟩ rfl (fun hcl => ?_)
    refine xq (r := some _) [] 9 hcl rfl (by kernel_rfl) (by kernel_rfl) ⟨rfl, .inl ⟨rfl, Quiet.norm (q_move rfl)⟩⟩ rfl (fun hcl => ?_)
    refine xq (r := some _) [] 10 hcl rfl (by kernel_rfl) (by kernel_rfl) ⟨rfl, .inl ⟨rfl, Quiet.norm (q_move rfl)⟩⟩ rfl (fun hcl => ?_)
    refine xq (r := some _) [] 11 hcl rfl (by kernel_rfl) (by kernel_rfl) ⟨rfl, .inl ⟨rfl, Quiet.norm (q_add rfl rfl)⟩⟩ rfl (fun hcl => ?_)
    refine xq (r := some _) [] 12 hcl rfl (by kernel_rfl) (by kernel_rfl) ⟨rfl, .inl ⟨rfl, Quiet.norm (q_idx_pl rfl rfl (idx_inv x13_h).1 (idx_inv x13_h).2.2.2)⟩⟩ rfl (fun hcl => ?_)
    refine xq (r := some _) [] 13 hcl rfl (by kernel_rfl) (by kernel_rfl) ⟨rfl, .inl ⟨rfl, Quiet.norm (q_load_eep (E := GLot.e) (z := 6) (fun _ => ⟨rfl, rfl⟩) rfl rfl rfl (idx_inv x13_h).2.1)⟩⟩ rfl (fun hcl => ?_)
    refine xq (r := some _) [] 14 hcl rfl (by kernel_rfl) (by kernel_rfl) ⟨rfl, .inl ⟨rfl, Quiet.norm (q_move rfl)⟩⟩ rfl (fun hcl => ?_)
    refine xq (r := some _) [] 15 hcl rfl (by kernel_rfl) (by kernel_rfl) ⟨rfl, .inl ⟨rfl, Quiet.norm (q_move rfl)⟩⟩ rfl (fun hcl => ?_)
    refine xq (r := some _) [] 16 hcl rfl (by kernel_rfl) (by kernel_rfl) ⟨rfl, .inl ⟨rfl, Quiet.norm (q_move rfl)⟩⟩ rfl (fun hcl => ?_)
    refine xq (r := some _) [] 17 hcl rfl (by kernel_rfl) (by kernel_rfl) ⟨rfl, .inl ⟨rfl, Quiet.norm (q_add rfl rfl)⟩⟩ rfl (fun hcl => ?_)
    refine xq (r := some _) [] 18 hcl rfl (by kernel_rfl) (by kernel_rfl) ⟨rfl, .inl ⟨rfl, Quiet.norm (q_idx_pl rfl rfl (idx_inv x14_h).1 (idx_inv x14_h).2.2.2)⟩⟩ rfl (fun hcl => ?_)
    refine xq (r := some _) [] 19 hcl rfl (by kernel_rfl) (by kernel_rfl) ⟨rfl, .inl ⟨rfl, Quiet.norm (q_load_eep (E := GLot.e) (z := 6) (fun _ => ⟨rfl, rfl⟩) rfl rfl rfl (idx_inv x14_h).2.1)⟩⟩ rfl (fun hcl => ?_)
    refine xq (r := some _) [] 20 hcl rfl (by kernel_rfl) (by kernel_rfl) ⟨rfl, .inl ⟨rfl, Quiet.norm (q_idx_pl rfl rfl (idx_inv x14_h).1 (idx_inv x14_h).2.2.2)⟩⟩ rfl (fun hcl => ?_)
    refine xb hcl (l := [21]) (by kernel_rfl) (by simp) (fun i hi hcl => ?_)
    obtain rfl : i = 21 := by simpa using hi
    refine xe rfl (x_store_eep (E := GLot.e) (z := 6) rfl rfl rfl (fun _ => ⟨rfl, rfl⟩) (idx_inv x14_h).2.2.1 rfl rfl rfl) ?_; rintro _ rfl
    refine xq (r := some _) [] 22 hcl rfl (by kernel_rfl) (by kernel_rfl) ⟨rfl, .inl ⟨rfl, Quiet.norm (q_idx_pl rfl rfl (idx_inv x15_h).1 (by simpa using (idx_inv x15_h).2.2.2))⟩⟩ rfl (fun hcl => ?_)
    refine xb hcl (l := [23]) (by kernel_rfl) (by simp) (fun i hi hcl => ?_)
    obtain rfl : i = 23 := by simpa using hi
    refine xe rfl (x_store_eep (E := GLot.e) (z := 6) rfl rfl rfl (fun _ => ⟨rfl, rfl⟩) (idx_inv x15_h).2.2.1 rfl rfl rfl) ?_; rintro _ rfl
    refine xn (by kernel_rfl) ?_
    refine ev_region ?_
    refine rq rfl rfl (q_move rfl) ?_
    refine rq rfl rfl (q_add rfl rfl) ?_
    refine rq rfl rfl (q_assign rfl) ?_
    refine run_nil ?_
    exact ⟨_, _, _, n12_e, H, rfl, shift_mk ⟨⟨_, rfl, (.eq (by simp))⟩, ⟨⟨_, rfl, (.flat rfl)⟩, ⟨⟨_, rfl, (.flat rfl)⟩, ⟨⟨_, rfl, (.flat rfl)⟩, ⟨⟨_, rfl, (.eq (congrArg (fun n => D.v true (vi n)) (wrap_succ' (by omega) w11 w10)))⟩, trivial⟩⟩⟩⟩⟩ ⟨(.e rfl), trivial⟩ rfl rfl⟩
  · replace H := forN_out hc w7 H
    refine ev_exit ?_
    have hr := Option.some.inj H
    exact endR [] [.e 8000 0 q_a0 (.row 60 (els true (List.map GLot.e s1)))] rfl .nil ⟨by cases hr; rfl, by cases hr; rfl⟩ ⟨(.e rfl), trivial⟩
def slices_rotateCmpFunc_Lot_m (a0 : List GLot) (a1 : Int) (a2 : Int) (a3 : Int) (a4 : GLot → GLot → Option Int) : Option (List GLot) := iter (fun (s1 : Int × Int × (List GLot)) loop2 => bif s1.1 != s1.2.1 then (bif decide (s1.2.1 < s1.1) then (bd (slices_swapRangeCmpFunc_Lot_m s1.2.2 (wr (a2 - s1.1)) a2 s1.2.1 a4) fun x6 => gd (decide (x6.length = s1.2.2.length)) <| loop2 (wr (s1.1 - s1.2.1), s1.2.1, x6)) else (bd (slices_swapRangeCmpFunc_Lot_m s1.2.2 (wr (a2 - s1.1)) (wr ((wr (a2 + s1.2.1)) - s1.1)) s1.1 a4) fun x8 => gd (decide (x8.length = s1.2.2.length)) <| loop2 (s1.1, wr (s1.2.1 - s1.1), x8))) else (bd (slices_swapRangeCmpFunc_Lot_m s1.2.2 (wr (a2 - s1.1)) a2 s1.1 a4) fun x10 => gd (decide (x10.length = s1.2.2.length)) <| some x10)) 1048576 (wr (a2 - a1), wr (a3 - a2), a0)
theorem slices_rotateCmpFunc_Lot_c {a0 : List GLot} {q_a0 : Pl} {a1 : Int} {a2 : Int} {a3 : Int} {a4_g : Nat} {a4_k : List V} {a4 : GLot → GLot → Option Int} [TFn Try.prog a4_g] (a4_h : ∀ y0 y1 r, a4 y0 y1 = some r → PureC Try.prog true a4_g ([GLot.e y0, GLot.e y1] ++ a4_k) (vi r)) {f_a1 : Bool} {f_a2 : Bool} {f_a3 : Bool} {f_a4 : Bool} {r : (List GLot)} (H : slices_rotateCmpFunc_Lot_m a0 a1 a2 a3 a4 = some r) : FnR Try.prog 108 [.o 8000 0 q_a0 6 0 a0.length, .v f_a1 (vi a1), .v f_a2 (vi a2), .v f_a3 (vi a3), .v f_a4 (.c a4_g a4_k)] [.e 8000 0 q_a0 (.row 60 (els true (List.map GLot.e a0)))] (fun d es' => d = .t [] ∧ es' = [.e 8000 0 q_a0 (.row 60 (els true (List.map GLot.e r)))]) := by
  unfold slices_rotateCmpFunc_Lot_m at H
  refine fnr_intro (N := 58) Try.func108 rfl rfl rfl rfl fun C => ?_
  refine ev_shift (shift_mk (fs := [(0, .o 8000 0 q_a0 6 0 a0.length), (1, .v true (vi a1)), (2, .v true (vi a2)), (3, .v true (vi a3)), (4, .v false (.c a4_g a4_k))]) (es := [.e 8000 0 q_a0 (.row 60 (els true (List.map GLot.e a0)))]) ⟨⟨_, rfl, .rfl⟩, ⟨⟨_, rfl, (.flat rfl)⟩, ⟨⟨_, rfl, (.flat rfl)⟩, ⟨⟨_, rfl, (.flat rfl)⟩, ⟨⟨_, rfl, .old⟩, trivial⟩⟩⟩⟩⟩ ⟨(.e rfl), trivial⟩ rfl rfl) ?_
  refine ev_seq ?_
  refine ev_region ?_
  refine rq rfl rfl (q_move rfl) ?_
  refine rq rfl rfl (q_move rfl) ?_
  refine rq rfl rfl (q_sub rfl rfl) ?_
  refine rq rfl rfl (q_assign rfl) ?_
  refine run_nil ?_
  refine ev_seq ?_
  refine ev_region ?_
  refine rq rfl rfl (q_move rfl) ?_
  refine rq rfl rfl (q_move rfl) ?_
  refine rq rfl rfl (q_sub rfl rfl) ?_
  refine rq rfl rfl (q_assign rfl) ?_
  refine run_nil ?_
  refine ev_seq ?_
  refine ev_block ?_
  refine ev_iter H (fun s1 σ' => σ' = mkS [(0, .o 8000 0 q_a0 6 0 s1.2.2.length), (2, .v true (vi a2)), (4, .v false (.c a4_g a4_k)), (10, .v true (vi s1.1)), (11, .v true (vi s1.2.1))] [.e 8000 0 q_a0 (.row 60 (els true (List.map GLot.e s1.2.2)))] [] (0, false)) ⟨_, rfl, shift_mk ⟨⟨_, rfl, .rfl⟩, ⟨⟨_, rfl, (.flat rfl)⟩, ⟨⟨_, rfl, .rfl⟩, ⟨⟨_, rfl, (.flat rfl)⟩, ⟨⟨_, rfl, (.flat rfl)⟩, trivial⟩⟩⟩⟩⟩ ⟨(.e rfl), trivial⟩ rfl rfl⟩ ?_
  rintro n12 s1 _ rfl H
  refine ev_seq ?_
  refine ev_seq ?_
  refine ev_region ?_
  refine rq rfl rfl (q_move rfl) ?_
  refine rq rfl rfl (q_move rfl) ?_
  refine rq rfl rfl (q_nei rfl rfl) ?_
  refine run_nil ?_
  refine ev_cond rfl (fun hc => ?_) (fun hc => ?_)
  · replace H := ct hc H
    refine ev_skip ?_
    refine ev_block ?_
    refine ev_seq ?_
    refine ev_region ?_
    refine rq rfl rfl (q_move rfl) ?_
    refine rq rfl rfl (q_move rfl) ?_
    refine rq rfl rfl (q_gtr rfl rfl) ?_
    refine run_nil ?_
    refine ev_cond rfl (fun hc => ?_) (fun hc => ?_)
    · replace H := ct hc H
      refine ev_seq ?_
      refine ev_region ?_
      refine rq rfl rfl (q_move rfl) ?_
      refine rq rfl rfl (q_move rfl) ?_
      refine rq rfl rfl (q_move rfl) ?_
      refine rq rfl rfl (q_sub rfl rfl) ?_
      refine rq rfl rfl (q_move rfl) ?_
      refine rq rfl rfl (q_move rfl) ?_
      refine rq rfl rfl (q_move rfl) ?_
      obtain ⟨x6, x6_h, H⟩ := bd_inv H
      obtain ⟨w7, H⟩ := gdd_inv H
      refine re rfl (e_callR [8000] rfl (.v _ _ []) rfl inferInstance (slices_swapRangeCmpFunc_Lot_c (a4_h := a4_h) x6_h) ⟨(.e rfl), trivial⟩ rfl rfl) ?_; rintro _ ⟨_, _, ⟨rfl, rfl⟩, rfl⟩
      refine run_shift (shift_as (s := 0) (d' := .o 8000 0 q_a0 6 0 x6.length) rfl (by rw [w7]; first | done | rfl | simp [normD])) ?_
      refine run_shift (shift_as (s := 24) (d' := .o 8000 0 q_a0 6 0 x6.length) rfl (by rw [w7]; first | done | rfl | simp [normD])) ?_
      refine run_nil ?_
      refine ev_region ?_
      refine rq rfl rfl (q_move rfl) ?_
      refine rq rfl rfl (q_move rfl) ?_
      refine rq rfl rfl (q_sub rfl rfl) ?_
      refine rq rfl rfl (q_assign rfl) ?_
      refine run_nil ?_
      exact ⟨_, _, H, rfl, shift_mk ⟨⟨_, rfl, .rfl⟩, ⟨⟨_, rfl, (.flat rfl)⟩, ⟨⟨_, rfl, .rfl⟩, ⟨⟨_, rfl, (.flat rfl)⟩, ⟨⟨_, rfl, (.flat rfl)⟩, trivial⟩⟩⟩⟩⟩ ⟨(.e rfl), trivial⟩ rfl rfl⟩
    · replace H := cf hc H
      refine ev_seq ?_
      refine ev_region ?_
      refine rq rfl rfl (q_move rfl) ?_
      refine rq rfl rfl (q_move rfl) ?_
      refine rq rfl rfl (q_move rfl) ?_
      refine rq rfl rfl (q_sub rfl rfl) ?_
      refine rq rfl rfl (q_move rfl) ?_
      refine rq rfl rfl (q_move rfl) ?_
      refine rq rfl rfl (q_add rfl rfl) ?_
      refine rq rfl rfl (q_move rfl) ?_
      refine rq rfl rfl (q_sub rfl rfl) ?_
      refine rq rfl rfl (q_move rfl) ?_
      refine rq rfl rfl (q_move rfl) ?_
      obtain ⟨x8, x8_h, H⟩ := bd_inv H
      obtain ⟨w9, H⟩ := gdd_inv H
      refine re rfl (e_callR [8000] rfl (.v _ _ []) rfl inferInstance (slices_swapRangeCmpFunc_Lot_c (a4_h := a4_h) x8_h) ⟨(.e rfl), trivial⟩ rfl rfl) ?_; rintro _ ⟨_, _, ⟨rfl, rfl⟩, rfl⟩
      refine run_shift (shift_as (s := 0) (d' := .o 8000 0 q_a0 6 0 x8.length) rfl (by rw [w9]; first | done | rfl | simp [normD])) ?_
      refine run_shift (shift_as (s := 35) (d' := .o 8000 0 q_a0 6 0 x8.length) rfl (by rw [w9]; first | done | rfl | simp [normD])) ?_
      refine run_nil ?_
      refine ev_region ?_
      refine rq rfl rfl (q_move rfl) ?_
      refine rq rfl rfl (q_move rfl) ?_
      refine rq rfl rfl (q_sub rfl rfl) ?_
      refine rq rfl rfl (q_assign rfl) ?_
      refine run_nil ?_
      exact ⟨_, _, H, rfl, shift_mk ⟨⟨_, rfl, .rfl⟩, ⟨⟨_, rfl, (.flat rfl)⟩, ⟨⟨_, rfl, .rfl⟩, ⟨⟨_, rfl, (.flat rfl)⟩, ⟨⟨_, rfl, (.flat rfl)⟩, trivial⟩⟩⟩⟩⟩ ⟨(.e rfl), trivial⟩ rfl rfl⟩
  · replace H := cf hc H
    refine ev_exit ?_
    refine ev_region ?_
    refine rq rfl rfl (q_move rfl) ?_
    refine rq rfl rfl (q_move rfl) ?_
    refine rq rfl rfl (q_move rfl) ?_
    refine rq rfl rfl (q_sub rfl rfl) ?_
    refine rq rfl rfl (q_move rfl) ?_
    refine rq rfl rfl (q_move rfl) ?_
    refine rq rfl rfl (q_move rfl) ?_
    obtain ⟨x10, x10_h, H⟩ := bd_inv H
    obtain ⟨w11, H⟩ := gdd_inv H
    refine re rfl (e_callR [8000] rfl (.v _ _ []) rfl inferInstance (slices_swapRangeCmpFunc_Lot_c (a4_h := a4_h) x10_h) ⟨(.e rfl), trivial⟩ rfl rfl) ?_; rintro _ ⟨_, _, ⟨rfl, rfl⟩, rfl⟩
    refine run_shift (shift_as (s := 0) (d' := .o 8000 0 q_a0 6 0 x10.length) rfl (by rw [w11]; first | done | rfl | simp [normD])) ?_
    refine run_shift (shift_as (s := 50) (d' := .o 8000 0 q_a0 6 0 x10.length) rfl (by rw [w11]; first | done | rfl | simp [normD])) ?_
    refine run_nil ?_
    have hr := Option.some.inj H
    exact endR [] [.e 8000 0 q_a0 (.row 60 (els true (List.map GLot.e x10)))] rfl .nil ⟨by cases hr; rfl, by cases hr; rfl⟩ ⟨(.e rfl), trivial⟩
def slices_stableCmpFunc_Lot_m (a0 : List GLot) (a1 : Int) (a2 : GLot → GLot → Option Int) : Option (List GLot) := iter (fun (s1 : Int × Int × (List GLot)) loop2 => bif decide (s1.2.1 ≤ a1) then (bd (slices_insertionSortCmpFunc_Lot_m s1.2.2 s1.1 s1.2.1 a2) fun x6 => gd (decide (x6.length = s1.2.2.length)) <| loop2 (s1.2.1, wr (s1.2.1 + 20), x6)) else (bd (slices_insertionSortCmpFunc_Lot_m s1.2.2 s1.1 a1 a2) fun x8 => gd (decide (x8.length = s1.2.2.length)) <| iter (fun (s10 : Int) loop11 => bif decide (s10 < a1) then (iter (fun (s13 : Unit) loop14 => bif decide ((wr (2 * s10)) ≤ a1) then (none) else (bif decide ((wr (0 + s10)) < a1) then (none) else (loop11 (wr (s10 * 2))))) 1048576 ()) else (some x8)) 1048576 20)) 1048576 (0, 20, a0)
theorem slices_stableCmpFunc_Lot_c {a0 : List GLot} {q_a0 : Pl} {a1 : Int} {a2_g : Nat} {a2_k : List V} {a2 : GLot → GLot → Option Int} [TFn Try.prog a2_g] (a2_h : ∀ y0 y1 r, a2 y0 y1 = some r → PureC Try.prog true a2_g ([GLot.e y0, GLot.e y1] ++ a2_k) (vi r)) {f_a1 : Bool} {f_a2 : Bool} {r : (List GLot)} (H : slices_stableCmpFunc_Lot_m a0 a1 a2 = some r) : FnR Try.prog 92 [.o 8000 0 q_a0 6 0 a0.length, .v f_a1 (vi a1), .v f_a2 (.c a2_g a2_k)] [.e 8000 0 q_a0 (.row 60 (els true (List.map GLot.e a0)))] (fun d es' => d = .t [] ∧ es' = [.e 8000 0 q_a0 (.row 60 (els true (List.map GLot.e r)))]) := by
  unfold slices_stableCmpFunc_Lot_m at H
  refine fnr_intro (N := 63) Try.func92 rfl rfl rfl rfl fun C => ?_
  refine ev_shift (shift_mk (fs := [(0, .o 8000 0 q_a0 6 0 a0.length), (1, .v true (vi a1)), (2, .v false (.c a2_g a2_k))]) (es := [.e 8000 0 q_a0 (.row 60 (els true (List.map GLot.e a0)))]) ⟨⟨_, rfl, .rfl⟩, ⟨⟨_, rfl, (.flat rfl)⟩, ⟨⟨_, rfl, .old⟩, trivial⟩⟩⟩ ⟨(.e rfl), trivial⟩ rfl rfl) ?_
  refine ev_seq ?_
  refine ev_region ?_
  refine rq rfl rfl (q_assign rfl) ?_
  refine run_nil ?_
  refine ev_seq ?_
  refine ev_region ?_
  refine rq rfl rfl (q_move rfl) ?_
  refine rq rfl rfl (q_assign rfl) ?_
  refine rq rfl rfl (q_assign rfl) ?_
  refine run_nil ?_
  refine ev_seq ?_
  refine ev_block ?_
  refine ev_iter H (fun s1 σ' => σ' = mkS [(0, .o 8000 0 q_a0 6 0 s1.2.2.length), (1, .v true (vi a1)), (2, .v false (.c a2_g a2_k)), (6, .v true (vi 20)), (7, .v true (vi s1.1)), (8, .v true (vi s1.2.1))] [.e 8000 0 q_a0 (.row 60 (els true (List.map GLot.e s1.2.2)))] [] (0, false)) ⟨_, rfl, shift_mk ⟨⟨_, rfl, .rfl⟩, ⟨⟨_, rfl, (.flat rfl)⟩, ⟨⟨_, rfl, .rfl⟩, ⟨⟨_, rfl, (.flat rfl)⟩, ⟨⟨_, rfl, (.flat rfl)⟩, ⟨⟨_, rfl, (.flat rfl)⟩, trivial⟩⟩⟩⟩⟩⟩ ⟨(.e rfl), trivial⟩ rfl rfl⟩ ?_
  rintro n17 s1 _ rfl H
  refine ev_seq ?_
  refine ev_seq ?_
  refine ev_region ?_
  refine rq rfl rfl (q_move rfl) ?_
  refine rq rfl rfl (q_move rfl) ?_
  refine rq rfl rfl (q_leq rfl rfl) ?_
  refine run_nil ?_
  refine ev_cond rfl (fun hc => ?_) (fun hc => ?_)
  · replace H := ct hc H
    refine ev_skip ?_
    refine ev_block ?_
    refine ev_seq ?_
    refine ev_region ?_
    refine rq rfl rfl (q_move rfl) ?_
    refine rq rfl rfl (q_move rfl) ?_
    refine rq rfl rfl (q_move rfl) ?_
    refine rq rfl rfl (q_move rfl) ?_
    obtain ⟨x6, x6_h, H⟩ := bd_inv H
    obtain ⟨w7, H⟩ := gdd_inv H
    refine re rfl (e_callR [8000] rfl (.v _ _ []) rfl inferInstance (slices_insertionSortCmpFunc_Lot_c (a3_h := a2_h) x6_h) ⟨(.e rfl), trivial⟩ rfl rfl) ?_; rintro _ ⟨_, _, ⟨rfl, rfl⟩, rfl⟩
    refine run_shift (shift_as (s := 0) (d' := .o 8000 0 q_a0 6 0 x6.length) rfl (by rw [w7]; first | done | rfl | simp [normD])) ?_
    refine run_shift (shift_as (s := 14) (d' := .o 8000 0 q_a0 6 0 x6.length) rfl (by rw [w7]; first | done | rfl | simp [normD])) ?_
    refine run_nil ?_
    refine ev_seq ?_
    refine ev_region ?_
    refine rq rfl rfl (q_move rfl) ?_
    refine rq rfl rfl (q_assign rfl) ?_
    refine run_nil ?_
    refine ev_region ?_
    refine rq rfl rfl (q_move rfl) ?_
    refine rq rfl rfl (q_move rfl) ?_
    refine rq rfl rfl (q_add rfl rfl) ?_
    refine rq rfl rfl (q_assign rfl) ?_
    refine run_nil ?_
    exact ⟨_, _, H, rfl, shift_mk ⟨⟨_, rfl, .rfl⟩, ⟨⟨_, rfl, (.flat rfl)⟩, ⟨⟨_, rfl, .rfl⟩, ⟨⟨_, rfl, (.flat rfl)⟩, ⟨⟨_, rfl, (.flat rfl)⟩, ⟨⟨_, rfl, (.flat rfl)⟩, trivial⟩⟩⟩⟩⟩⟩ ⟨(.e rfl), trivial⟩ rfl rfl⟩
  · replace H := cf hc H
    refine ev_exit ?_
    refine ev_seq ?_
    refine ev_region ?_
    refine rq rfl rfl (q_move rfl) ?_
    refine rq rfl rfl (q_move rfl) ?_
    refine rq rfl rfl (q_move rfl) ?_
    refine rq rfl rfl (q_move rfl) ?_
    obtain ⟨x8, x8_h, H⟩ := bd_inv H
    obtain ⟨w9, H⟩ := gdd_inv H
    refine re rfl (e_callR [8000] rfl (.v _ _ []) rfl inferInstance (slices_insertionSortCmpFunc_Lot_c (a3_h := a2_h) x8_h) ⟨(.e rfl), trivial⟩ rfl rfl) ?_; rintro _ ⟨_, _, ⟨rfl, rfl⟩, rfl⟩
    refine run_shift (shift_as (s := 0) (d' := .o 8000 0 q_a0 6 0 x8.length) rfl (by rw [w9]; first | done | rfl | simp [normD])) ?_
    refine run_shift (shift_as (s := 23) (d' := .o 8000 0 q_a0 6 0 x8.length) rfl (by rw [w9]; first | done | rfl | simp [normD])) ?_
    refine run_nil ?_
    refine ev_block ?_
    refine ev_iter H (fun s10 σ' => σ' = mkS [(0, .o 8000 0 q_a0 6 0 x8.length), (1, .v true (vi a1)), (2, .v false (.c a2_g a2_k)), (6, .v true (vi s10))] [.e 8000 0 q_a0 (.row 60 (els true (List.map GLot.e x8)))] [] (0, false)) ⟨_, rfl, shift_mk ⟨⟨_, rfl, .rfl⟩, ⟨⟨_, rfl, (.flat rfl)⟩, ⟨⟨_, rfl, .rfl⟩, ⟨⟨_, rfl, (.flat rfl)⟩, trivial⟩⟩⟩⟩ ⟨(.e rfl), trivial⟩ rfl rfl⟩ ?_
    rintro n16 s10 _ rfl H
    refine ev_seq ?_
    refine ev_seq ?_
    refine ev_region ?_
    refine rq rfl rfl (q_move rfl) ?_
    refine rq rfl rfl (q_move rfl) ?_
    refine rq rfl rfl (q_lss rfl rfl) ?_
    refine run_nil ?_
    refine ev_cond rfl (fun hc => ?_) (fun hc => ?_)
    · replace H := ct hc H
      refine ev_skip ?_
      refine ev_block ?_
      refine ev_seq ?_
      refine ev_region ?_
      refine rq rfl rfl (q_move rfl) ?_
      refine rq rfl rfl (q_mul rfl rfl) ?_
      refine rq rfl rfl (q_assign rfl) ?_
      refine rq rfl rfl (q_assign rfl) ?_
      refine run_nil ?_
      refine ev_seq ?_
      refine ev_block ?_
      refine ev_iter H (fun s13 σ' => σ' = mkS [(0, .o 8000 0 q_a0 6 0 x8.length), (1, .v true (vi a1)), (2, .v false (.c a2_g a2_k)), (6, .v true (vi s10)), (7, .v true (vi 0)), (8, .v true (vi (wr (2 * s10))))] [.e 8000 0 q_a0 (.row 60 (els true (List.map GLot.e x8)))] [] (0, false)) ⟨_, rfl, shift_mk ⟨⟨_, rfl, .rfl⟩, ⟨⟨_, rfl, (.flat rfl)⟩, ⟨⟨_, rfl, .rfl⟩, ⟨⟨_, rfl, (.flat rfl)⟩, ⟨⟨_, rfl, (.flat rfl)⟩, ⟨⟨_, rfl, (.flat rfl)⟩, trivial⟩⟩⟩⟩⟩⟩ ⟨(.e rfl), trivial⟩ rfl rfl⟩ ?_
      rintro n15 s13 _ rfl H
      refine ev_seq ?_
      refine ev_seq ?_
      refine ev_region ?_
      refine rq rfl rfl (q_move rfl) ?_
      refine rq rfl rfl (q_move rfl) ?_
      refine rq rfl rfl (q_leq rfl rfl) ?_
      refine run_nil ?_
      refine ev_cond rfl (fun hc => ?_) (fun hc => ?_)
      · replace H := ct hc H
        refine ev_skip ?_
        refine ev_block ?_
        refine ev_seq ?_
        refine ev_region ?_
        refine rq rfl rfl (q_move rfl) ?_
        refine rq rfl rfl (q_move rfl) ?_
        refine rq rfl rfl (q_move rfl) ?_
        refine rq rfl rfl (q_move rfl) ?_
        refine rq rfl rfl (q_add rfl rfl) ?_
        refine rq rfl rfl (q_move rfl) ?_
        refine rq rfl rfl (q_move rfl) ?_
        cases H
      · replace H := cf hc H
        refine ev_exit ?_
        refine ev_seq ?_
        refine ev_seq ?_
        refine ev_region ?_
        refine rq rfl rfl (q_move rfl) ?_
        refine rq rfl rfl (q_move rfl) ?_
        refine rq rfl rfl (q_add rfl rfl) ?_
        refine rq rfl rfl (q_assign rfl) ?_
        refine run_nil ?_
        refine ev_seq ?_
        refine ev_region ?_
        refine rq rfl rfl (q_move rfl) ?_
        refine rq rfl rfl (q_move rfl) ?_
        refine rq rfl rfl (q_lss rfl rfl) ?_
        refine run_nil ?_
        refine ev_cond rfl (fun hc => ?_) (fun hc => ?_)
        · replace H := ct hc H
          refine ev_region ?_
          refine rq rfl rfl (q_move rfl) ?_
          refine rq rfl rfl (q_move rfl) ?_
          refine rq rfl rfl (q_move rfl) ?_
          refine rq rfl rfl (q_move rfl) ?_
          refine rq rfl rfl (q_move rfl) ?_
          cases H
        · replace H := cf hc H
          refine ev_skip ?_
          refine ev_region ?_
          refine rq rfl rfl (q_move rfl) ?_
          refine rq rfl rfl (q_mul rfl rfl) ?_
          refine rq rfl rfl (q_assign rfl) ?_
          refine run_nil ?_
          exact ⟨_, _, H, rfl, shift_mk ⟨⟨_, rfl, .rfl⟩, ⟨⟨_, rfl, (.flat rfl)⟩, ⟨⟨_, rfl, .rfl⟩, ⟨⟨_, rfl, (.flat rfl)⟩, trivial⟩⟩⟩⟩ ⟨(.e rfl), trivial⟩ rfl rfl⟩
    · replace H := cf hc H
      refine ev_exit ?_
      have hr := Option.some.inj H
      exact endR [] [.e 8000 0 q_a0 (.row 60 (els true (List.map GLot.e x8)))] rfl .nil ⟨by cases hr; rfl, by cases hr; rfl⟩ ⟨(.e rfl), trivial⟩
def slices_SortStableFunc_Lot_m (a0 : List GLot) (a1 : GLot → GLot → Option Int) : Option (List GLot) := bd (slices_stableCmpFunc_Lot_m a0 ((a0.length : Nat) : Int) a1) fun x1 => gd (decide (x1.length = a0.length)) <| some x1
theorem slices_SortStableFunc_Lot_c {a0 : List GLot} {q_a0 : Pl} {a1_g : Nat} {a1_k : List V} {a1 : GLot → GLot → Option Int} [TFn Try.prog a1_g] (a1_h : ∀ y0 y1 r, a1 y0 y1 = some r → PureC Try.prog true a1_g ([GLot.e y0, GLot.e y1] ++ a1_k) (vi r)) {f_a1 : Bool} {r : (List GLot)} (H : slices_SortStableFunc_Lot_m a0 a1 = some r) : FnR Try.prog 65 [.o 8000 0 q_a0 6 0 a0.length, .v f_a1 (.c a1_g a1_k)] [.e 8000 0 q_a0 (.row 60 (els true (List.map GLot.e a0)))] (fun d es' => d = .t [] ∧ es' = [.e 8000 0 q_a0 (.row 60 (els true (List.map GLot.e r)))]) := by
  unfold slices_SortStableFunc_Lot_m at H
  refine fnr_intro (N := 9) Try.func65 rfl rfl rfl rfl fun C => ?_
  refine ev_shift (shift_mk (fs := [(0, .o 8000 0 q_a0 6 0 a0.length), (1, .v false (.c a1_g a1_k))]) (es := [.e 8000 0 q_a0 (.row 60 (els true (List.map GLot.e a0)))]) ⟨⟨_, rfl, .rfl⟩, ⟨⟨_, rfl, .old⟩, trivial⟩⟩ ⟨(.e rfl), trivial⟩ rfl rfl) ?_
  refine ev_region ?_
  refine rq rfl rfl (q_move rfl) ?_
  refine rq rfl rfl (q_move rfl) ?_
  refine rq rfl rfl (q_len_o rfl) ?_
  refine rq rfl rfl (q_move rfl) ?_
  obtain ⟨x1, x1_h, H⟩ := bd_inv H
  obtain ⟨w2, H⟩ := gdd_inv H
  refine re rfl (e_callR [8000] rfl (.v _ _ []) rfl inferInstance (slices_stableCmpFunc_Lot_c (a2_h := a1_h) x1_h) ⟨(.e rfl), trivial⟩ rfl rfl) ?_; rintro _ ⟨_, _, ⟨rfl, rfl⟩, rfl⟩
  refine run_shift (shift_as (s := 0) (d' := .o 8000 0 q_a0 6 0 x1.length) rfl (by rw [w2]; first | done | rfl | simp [normD])) ?_
  refine run_shift (shift_as (s := 4) (d' := .o 8000 0 q_a0 6 0 x1.length) rfl (by rw [w2]; first | done | rfl | simp [normD])) ?_
  refine run_shift (shift_as (s := 5) (d' := .o 8000 0 q_a0 6 0 x1.length) rfl (by rw [w2]; first | done | rfl | simp [normD])) ?_
  refine run_nil ?_
  have hr := Option.some.inj H
  exact endR [] [.e 8000 0 q_a0 (.row 60 (els true (List.map GLot.e x1)))] rfl .nil ⟨by cases hr; rfl, by cases hr; rfl⟩ ⟨(.e rfl), trivial⟩
def stock_Usable_1_m (a0 : GLot) (a1 : GLot) : Option Int := bd (cmp_Compare_int_m a0.expiry a1.expiry) fun x3 => some x3
theorem stock_Usable_1_c {a0 : GLot} {a1 : GLot} {r : Int} (H : stock_Usable_1_m a0 a1 = some r) : PureC Try.prog true 66 [GLot.e a0, GLot.e a1] (vi r) := by
  unfold stock_Usable_1_m at H
  refine pure_intro (N := 10) Try.func66 rfl rfl rfl rfl fun C hO => ?_
  refine ev_shift (shift_mk (fs := [(0, .v true (GLot.e a0)), (1, .v true (GLot.e a1))]) (es := []) ⟨⟨_, rfl, (.flat rfl)⟩, ⟨⟨_, rfl, (.flat rfl)⟩, trivial⟩⟩ trivial rfl rfl) ?_
  refine ev_seq ?_
  refine ev_region ?_
  refine re rfl (e_box 2 0 rfl rfl rfl) ?_; rintro _ ⟨b1, rfl⟩
  refine re rfl (e_box 3 0 rfl rfl rfl) ?_; rintro _ ⟨b2, rfl⟩
  refine rq rfl rfl (q_assign rfl) ?_
  refine run_nil ?_
  refine ev_seq ?_
  refine ev_region ?_
  refine rq rfl rfl (q_fld_p rfl) ?_
  refine rq rfl rfl (q_load1 rfl rfl rfl) ?_
  refine rq rfl rfl (q_fld_p rfl) ?_
  refine rq rfl rfl (q_load1 rfl rfl rfl) ?_
  obtain ⟨x3, x3_h, H⟩ := bd_inv H
  refine rq rfl rfl (q_call rfl (.v _ _ (fun e => nomatch e)) (.v rfl (.v rfl ArgsOk.nil)) inferInstance (cmp_Compare_int_c  x3_h)) ?_
  refine rq rfl rfl (q_assign rfl) ?_
  refine run_nil ?_
  refine ev_ret ?_
  exact ret_ok [vi x3] (congrArg (fun r : Int => vi r) (Option.some.inj H)) rfl (.cons (.tmp rfl (.v _ _ (fun _ => rfl))) .nil)
def stock_Usable_m (a0 : GWorld) (a1 : GLine) (a2 : Int) (a3 : Int) : Option ((List GLot) × (List GRead)) := bif a1.config != 0 then (some ([], [])) else (bd (stock_Lots_m a0 a2 a3) fun x3 => forL x3.1 (fun (k6 : Nat) (x10 : GLot) (s4 : (List GLot)) loop5 => jn (fun (p14 : List GLot) => loop5 p14) fun j13 => bif bif bif bif x10.item == a1.item then x10.plant == a1.plant else false then x10.state == 0 else false then decide (a2 < x10.expiry) else false then (gd (decide ((s4.length + ([x10] : List GLot).length) * 49 ≤ 140737488355328)) <| j13 (s4 ++ ([x10] : List GLot))) else (j13 s4)) (fun (s4 : (List GLot)) => bd (slices_SortStableFunc_Lot_m s4 (fun y0 y1 => stock_Usable_1_m y0 y1)) fun x19 => gd (decide (x19.length = s4.length)) <| some (x19, x3.2)) ([] : List GLot))
theorem stock_Usable_c {a0 : GWorld} {a1 : GLine} {a2 : Int} {a3 : Int} {r : (List GLot) × (List GRead)} (H : stock_Usable_m a0 a1 a2 a3 = some r) : PureC Try.prog true 35 [GWorld.e a0, GLine.e a1, vi a2, vi a3] (V.t [V.l 6 (List.map GLot.e r.1), V.l 5 (List.map GRead.e r.2)]) := by
  unfold stock_Usable_m at H
  refine pure_intro (N := 61) Try.func35 rfl rfl rfl rfl fun C hO => ?_
  refine ev_shift (shift_mk (fs := [(0, .v false (GWorld.e a0)), (1, .v true (GLine.e a1)), (2, .v true (vi a2)), (3, .v true (vi a3))]) (es := []) ⟨⟨_, rfl, .rfl⟩, ⟨⟨_, rfl, (.flat rfl)⟩, ⟨⟨_, rfl, (.flat rfl)⟩, ⟨⟨_, rfl, (.flat rfl)⟩, trivial⟩⟩⟩⟩ trivial rfl rfl) ?_
  refine ev_seq ?_
  refine ev_region ?_
  refine re rfl (e_box 4 0 rfl rfl rfl) ?_; rintro _ ⟨b1, rfl⟩
  refine re rfl (e_box 5 0 rfl rfl rfl) ?_; rintro _ ⟨b2, rfl⟩
  refine rq rfl rfl (q_assign rfl) ?_
  refine rq rfl rfl (q_assign rfl) ?_
  refine run_nil ?_
  refine ev_seq ?_
  refine ev_seq ?_
  refine ev_region ?_
  refine rq rfl rfl (q_fld_p rfl) ?_
  refine rq rfl rfl (q_load1 rfl rfl rfl) ?_
  refine rq rfl rfl (q_nei rfl rfl) ?_
  refine run_nil ?_
  refine ev_cond rfl (fun hc => ?_) (fun hc => ?_)
  · replace H := ct hc H
    refine ev_seq ?_
    refine ev_region ?_
    refine rq rfl rfl (q_assign rfl) ?_
    refine rq rfl rfl (q_assign rfl) ?_
    refine run_nil ?_
    refine ev_ret ?_
    exact ret_ok [V.l 6 (List.map GLot.e []), V.l 5 (List.map GRead.e [])] (congrArg (fun r : (List GLot) × (List GRead) => V.t [V.l 6 (List.map GLot.e r.1), V.l 5 (List.map GRead.e r.2)]) (Option.some.inj H)) rfl (.cons (.tmp rfl (.nil _ _)) (.cons (.tmp rfl (.nil _ _)) .nil))
  · replace H := cf hc H
    refine ev_skip ?_
    refine ev_seq ?_
    refine ev_region ?_
    refine rq rfl rfl (q_loadN rfl rfl rfl rfl) ?_
    refine rq rfl rfl (q_move rfl) ?_
    refine rq rfl rfl (q_move rfl) ?_
    obtain ⟨x3, x3_h, H⟩ := bd_inv H
    refine rq rfl rfl (q_call rfl (.v _ _ (fun e => nomatch e)) (.v rfl (.v rfl (.v rfl ArgsOk.nil))) inferInstance (stock_Lots_c  x3_h)) ?_
    refine rq rfl rfl (q_move rfl) ?_
    refine rq rfl rfl (q_extract rfl rfl) ?_
    refine rq rfl rfl (q_extract rfl rfl) ?_
    refine rq rfl rfl (q_assign rfl) ?_
    refine rq rfl rfl (q_assign rfl) ?_
    refine run_nil ?_
    refine ev_seq ?_
    refine ev_seq ?_
    refine ev_region ?_
    refine rq rfl rfl (q_move rfl) ?_
    refine rq rfl rfl (q_len_t rfl) ?_
    refine rq rfl rfl (q_move rfl) ?_
    refine run_nil ?_
    refine ev_block ?_
    refine ev_len_l (s := 23) rfl fun w12 => ?_
    rw [List.length_map] at w12
    refine ev_forL H (fun k6 s4 σ' => ∃ (q9 : Pl), σ' = mkS [(2, .v true (vi a2)), (5, .p 5 0 b2 0), (8, .o 55 0 q9 6 0 s4.length), (9, .v true (V.l 5 (List.map GRead.e x3.2))), (23, .v true (V.l 6 (List.map GLot.e x3.1))), (24, .v true (vi ((x3.1.length : Nat) : Int))), (25, .v true (vi ((k6 : Nat) : Int)))] [.e 5 0 (some (b2, 3)) (.row 77 [.v true (vi a1.item), .v true (vi a1.plant), .v true (vi a1.config)]), .e 55 0 q9 (.row 60 (els true (List.map GLot.e s4)))] [] (0, false)) ⟨_, ⟨none, rfl⟩, shift_mk ⟨⟨_, rfl, (.flat rfl)⟩, ⟨⟨_, rfl, .rfl⟩, ⟨⟨_, rfl, .nilo⟩, ⟨⟨_, rfl, .rfl⟩, ⟨⟨_, rfl, .rfl⟩, ⟨⟨_, rfl, (.flat rfl)⟩, ⟨⟨_, rfl, .rfl⟩, trivial⟩⟩⟩⟩⟩⟩⟩ ⟨(.w rfl (.cons (.flat rfl) (.cons (.flat rfl) (.cons (.flat rfl) .nil)))), ⟨(.nn rfl), trivial⟩⟩ rfl rfl⟩ ?_
    rintro k6 s4 _ ⟨q9, rfl⟩ _ H
    refine ev_seq ?_
    refine ev_region ?_
    refine rq rfl rfl (q_lss rfl rfl) ?_
    refine run_nil ?_
    refine ev_seq ?_
    refine ev_cond rfl (fun hc => ?_) (fun hc => ?_)
    · obtain ⟨x10, w11, x10_g, H⟩ := forL_in hc H
      have x10_h : idx x3.1 ((k6 : Nat) : Int) = some x10 := by rw [idx_nat]; exact x10_g
      refine ev_skip ?_
      obtain ⟨j13, j13_e, H⟩ := jn_inv H
      refine ev_join (fun σ' => ∃ (p14 : List GLot) (q15 : Pl), j13 p14 = some r ∧ σ' = mkS [(2, .v true (vi a2)), (5, .p 5 0 b2 0), (8, .o 55 0 q15 6 0 p14.length), (9, .v true (V.l 5 (List.map GRead.e x3.2))), (23, .v true (V.l 6 (List.map GLot.e x3.1))), (24, .v true (vi ((x3.1.length : Nat) : Int))), (25, .v true (vi ((k6 : Nat) : Int)))] [.e 5 0 (some (b2, 3)) (.row 77 [.v true (vi a1.item), .v true (vi a1.plant), .v true (vi a1.config)]), .e 55 0 q15 (.row 60 (els true (List.map GLot.e p14)))] [] (0, false)) ?_ ?_
      · rintro _ ⟨p14, q15, H, rfl⟩
        subst j13_e
        refine ev_region ?_
        refine rq rfl rfl (q_add rfl rfl) ?_
        refine rq rfl rfl (q_move rfl) ?_
        refine run_nil ?_
        exact ⟨_, _, w11, H, ⟨q15, rfl⟩, shift_mk ⟨⟨_, rfl, (.flat rfl)⟩, ⟨⟨_, rfl, .rfl⟩, ⟨⟨_, rfl, .rfl⟩, ⟨⟨_, rfl, .rfl⟩, ⟨⟨_, rfl, .rfl⟩, ⟨⟨_, rfl, (.flat rfl)⟩, ⟨⟨_, rfl, (.eq (congrArg (fun n => D.v true (vi n)) (wrap_succ w11 w12)))⟩, trivial⟩⟩⟩⟩⟩⟩⟩ ⟨(.w rfl (.cons (.flat rfl) (.cons (.flat rfl) (.cons (.flat rfl) .nil)))), ⟨(.e rfl), trivial⟩⟩ rfl rfl⟩
      · clear j13_e
        refine ev_block ?_
        refine ev_seq ?_
        refine ev_region ?_
        refine rq rfl rfl (q_idx_l rfl rfl (idx_inv x10_h).1 (map_get (idx_inv x10_h).2.1) rfl) ?_
        refine rq rfl rfl (q_load_e rfl rfl rfl) ?_
        refine re rfl (e_alloc 12 0 rfl rfl) ?_; rintro _ ⟨b16, rfl⟩
        refine re rfl (e_store rfl rfl rfl rfl rfl (Nat.le_of_ble_eq_true rfl) rfl) ?_; rintro _ rfl
        refine run_nil ?_
        refine ev_seq ?_
        refine ev_region ?_
        refine rq rfl rfl (q_fld_p rfl) ?_
        refine rq rfl rfl (q_load1 rfl rfl rfl) ?_
        refine rq rfl rfl (q_fld_p rfl) ?_
        refine rq rfl rfl (q_load1 rfl rfl rfl) ?_
        refine rq rfl rfl (q_eqi rfl rfl) ?_
        refine rq rfl rfl (q_move rfl) ?_
        refine rqc (l := []) ⟨⟨_, _, _, rfl, rfl, rfl, rfl⟩, rfl, fun hc => q_fld_p rfl, trivial⟩ rfl ?_
        refine rqc (l := [35]) ⟨⟨_, _, _, rfl, rfl, rfl, rfl⟩, rfl, fun hc => q_load1 rfl rfl rfl, ⟨fun h => h, trivial⟩⟩ rfl ?_
        refine rqc (l := []) ⟨⟨_, _, _, rfl, rfl, rfl, rfl⟩, rfl, fun hc => q_fld_p rfl, trivial⟩ rfl ?_
        refine rqc (l := [37]) ⟨⟨_, _, _, rfl, rfl, rfl, rfl⟩, rfl, fun hc => q_load1 rfl rfl rfl, ⟨fun h => h, trivial⟩⟩ rfl ?_
        refine rqc (l := [36, 38]) ⟨⟨_, _, _, rfl, rfl, rfl, rfl⟩, rfl, fun hc => q_eqi rfl rfl, ⟨fun h => h, ⟨fun h => h, trivial⟩⟩⟩ rfl ?_
        refine rq rfl rfl (q_pickb rfl rfl rfl (PB.c (fun hp => hp)) PB.v) ?_
        refine rq rfl rfl (q_move rfl) ?_
        refine rqc (l := []) ⟨⟨_, _, _, rfl, rfl, rfl, rfl⟩, rfl, fun hc => q_fld_p rfl, trivial⟩ rfl ?_
        refine rqc (l := [42]) ⟨⟨_, _, _, rfl, rfl, rfl, rfl⟩, rfl, fun hc => q_load1 rfl rfl rfl, ⟨fun h => h, trivial⟩⟩ rfl ?_
        refine rqc (l := [43]) ⟨⟨_, _, _, rfl, rfl, rfl, rfl⟩, rfl, fun hc => q_eqi rfl rfl, ⟨fun h => h, trivial⟩⟩ rfl ?_
        refine rq rfl rfl (q_pickb rfl rfl rfl (PB.c (fun hp => hp)) PB.v) ?_
        refine rq rfl rfl (q_move rfl) ?_
        refine rqc (l := []) ⟨⟨_, _, _, rfl, rfl, rfl, rfl⟩, rfl, fun hc => q_fld_p rfl, trivial⟩ rfl ?_
        refine rqc (l := [47]) ⟨⟨_, _, _, rfl, rfl, rfl, rfl⟩, rfl, fun hc => q_load1 rfl rfl rfl, ⟨fun h => h, trivial⟩⟩ rfl ?_
        refine rqc (l := []) ⟨⟨_, _, _, rfl, rfl, rfl, rfl⟩, rfl, fun hc => q_move rfl, trivial⟩ rfl ?_
        refine rqc (l := [48, 49]) ⟨⟨_, _, _, rfl, rfl, rfl, rfl⟩, rfl, fun hc => q_gtr rfl rfl, ⟨fun h => h, ⟨fun h => h, trivial⟩⟩⟩ rfl ?_
        refine rq rfl rfl (q_pickb rfl rfl rfl (PB.c (fun hp => hp)) PB.v) ?_
        refine run_nil ?_
        refine ev_cond rfl (fun hc => ?_) (fun hc => ?_)
        · replace H := ct hc H
          refine ev_region ?_
          refine rq rfl rfl (q_move rfl) ?_
          refine rq rfl rfl (q_loadN rfl rfl rfl rfl) ?_
          refine rq rfl rfl (q_buildSlice (z := 6) (xs := List.map GLot.e ([x10] : List GLot)) (fl := true) rfl rfl rfl rfl (by simp [V.plain, V.cells, GLot.e, vi, vb]) rfl) ?_
          obtain ⟨w17, H⟩ := gdd_inv H
          refine re rfl (e_appt rfl rfl rfl (fun _ => ⟨rfl, rfl⟩) rfl rfl rfl w17 rfl) ?_; rintro _ ⟨q18, rfl⟩
          refine rq rfl rfl (q_assign rfl) ?_
          refine run_nil ?_
          exact ⟨_, ⟨s4 ++ ([x10] : List GLot), q18, H, rfl⟩, shift_mk ⟨⟨_, rfl, (.flat rfl)⟩, ⟨⟨_, rfl, .rfl⟩, ⟨⟨_, rfl, .rfl⟩, ⟨⟨_, rfl, .rfl⟩, ⟨⟨_, rfl, .rfl⟩, ⟨⟨_, rfl, (.flat rfl)⟩, ⟨⟨_, rfl, (.flat rfl)⟩, trivial⟩⟩⟩⟩⟩⟩⟩ ⟨(.w rfl (.cons (.flat rfl) (.cons (.flat rfl) (.cons (.flat rfl) .nil)))), ⟨(.e rfl), trivial⟩⟩ rfl rfl⟩
        · replace H := cf hc H
          refine ev_skip ?_
          exact ⟨_, ⟨s4, q9, H, rfl⟩, shift_mk ⟨⟨_, rfl, (.flat rfl)⟩, ⟨⟨_, rfl, .rfl⟩, ⟨⟨_, rfl, .rfl⟩, ⟨⟨_, rfl, .rfl⟩, ⟨⟨_, rfl, .rfl⟩, ⟨⟨_, rfl, (.flat rfl)⟩, ⟨⟨_, rfl, (.flat rfl)⟩, trivial⟩⟩⟩⟩⟩⟩⟩ ⟨(.w rfl (.cons (.flat rfl) (.cons (.flat rfl) (.cons (.flat rfl) .nil)))), ⟨(.e rfl), trivial⟩⟩ rfl rfl⟩
    · replace H := forL_out hc H
      refine ev_exit ?_
      refine ev_seq ?_
      refine ev_region ?_
      refine rq rfl rfl (q_move rfl) ?_
      obtain ⟨x19, x19_h, H⟩ := bd_inv H
      obtain ⟨w20, H⟩ := gdd_inv H
      refine run_shift (shift_name 55 0 8000 0 rfl) ?_
      refine run_shift (shift_wkd (s := 57) (d' := .o 8000 0 q9 6 0 s4.length) rfl .olab) ?_
      refine re rfl (e_callR [8000] rfl (.v _ _ []) rfl inferInstance (slices_SortStableFunc_Lot_c (a1_h := fun _ _ _ h => stock_Usable_1_c h) x19_h) ⟨(.e rfl), trivial⟩ rfl rfl) ?_; rintro _ ⟨_, _, ⟨rfl, rfl⟩, rfl⟩
      refine run_shift (shift_name 8000 0 55 0 rfl) ?_
      refine run_shift (shift_as (s := 8) (d' := .o 55 0 q9 6 0 x19.length) rfl (by rw [w20]; first | done | rfl | simp [normD])) ?_
      refine run_nil ?_
      refine ev_seq ?_
      refine ev_region ?_
      refine rq rfl rfl (q_move rfl) ?_
      refine rq rfl rfl (q_move rfl) ?_
      refine rq rfl rfl (q_assign rfl) ?_
      refine rq rfl rfl (q_assign rfl) ?_
      refine run_nil ?_
      refine ev_ret ?_
      exact ret_ok [V.l 6 (List.map GLot.e x19), V.l 5 (List.map GRead.e x3.2)] (congrArg (fun r : (List GLot) × (List GRead) => V.t [V.l 6 (List.map GLot.e r.1), V.l 5 (List.map GRead.e r.2)]) (Option.some.inj H)) rfl (.cons (.tmp rfl (.all rfl (List.length_map _) (els_plain fun _ => ⟨rfl, rfl⟩) (fun _ => rfl))) (.cons (.tmp rfl (.v _ _ (fun _ => rfl))) .nil))
def backflushref18_Same_m (a0 : List GLot) (a1 : List GLot) : Option Bool := bif ((a0.length : Nat) : Int) != ((a1.length : Nat) : Int) then (some false) else (forL a0 (fun (k3 : Nat) (x5 : GLot) (s1 : Unit) loop2 => bd (idx a1 ((k3 : Nat) : Int)) fun x8 => bif !(GLot.eqb x5 x8) then (some false) else (loop2 ())) (fun (s1 : Unit) => some true) ())
theorem backflushref18_Same_c {a0 : List GLot} {a1 : List GLot} {r : Bool} (H : backflushref18_Same_m a0 a1 = some r) : PureC Try.prog true 37 [V.l 6 (List.map GLot.e a0), V.l 6 (List.map GLot.e a1)] (vb r) := by
  unfold backflushref18_Same_m at H
  refine pure_intro (N := 26) Try.func37 rfl rfl rfl rfl fun C hO => ?_
  refine ev_seq ?_
  refine ev_region ?_
  refine rq rfl rfl (q_assign rfl) ?_
  refine run_nil ?_
  refine ev_seq ?_
  refine ev_seq ?_
  refine ev_region ?_
  refine rq rfl rfl (q_move rfl) ?_
  refine rq rfl rfl (q_len_t rfl) ?_
  refine rq rfl rfl (q_move rfl) ?_
  refine rq rfl rfl (q_len_t rfl) ?_
  refine rq rfl rfl (q_nei rfl rfl) ?_
  refine run_nil ?_
  refine ev_cond rfl (fun hc => ?_) (fun hc => ?_)
  · replace H := ct hc H
    refine ev_seq ?_
    refine ev_region ?_
    refine rq rfl rfl (q_assign rfl) ?_
    refine run_nil ?_
    refine ev_ret ?_
    exact ret_ok [vb false] (congrArg (fun r : Bool => vb r) (Option.some.inj H)) rfl (.cons (.tmp rfl (.v _ _ (fun _ => rfl))) .nil)
  · replace H := cf hc H
    refine ev_skip ?_
    refine ev_seq ?_
    refine ev_seq ?_
    refine ev_region ?_
    refine rq rfl rfl (q_assign rfl) ?_
    refine run_nil ?_
    refine ev_block ?_
    refine ev_len_l (s := 0) rfl fun w7 => ?_
    rw [List.length_map] at w7
    refine ev_forL H (fun k3 s1 σ' => σ' = mkS [(0, .v false (V.l 6 (List.map GLot.e a0))), (1, .v false (V.l 6 (List.map GLot.e a1))), (4, .v true (vb false)), (5, .v true (vi ((k3 : Nat) : Int)))] [] [] (0, false)) ⟨_, rfl, shift_mk ⟨⟨_, rfl, .rfl⟩, ⟨⟨_, rfl, .rfl⟩, ⟨⟨_, rfl, (.flat rfl)⟩, ⟨⟨_, rfl, .rfl⟩, trivial⟩⟩⟩⟩ trivial rfl rfl⟩ ?_
    rintro k3 s1 _ rfl _ H
    refine ev_seq ?_
    refine ev_seq ?_
    refine ev_region ?_
    refine rq rfl rfl (q_move rfl) ?_
    refine rq rfl rfl (q_move rfl) ?_
    refine rq rfl rfl (q_len_t rfl) ?_
    refine rq rfl rfl (q_lss rfl rfl) ?_
    refine run_nil ?_
    refine ev_cond rfl (fun hc => ?_) (fun hc => ?_)
    · obtain ⟨x5, w6, x5_g, H⟩ := forL_in hc H
      have x5_h : idx a0 ((k3 : Nat) : Int) = some x5 := by rw [idx_nat]; exact x5_g
      refine ev_skip ?_
      refine ev_seq ?_
      refine ev_block ?_
      refine ev_seq ?_
      obtain ⟨x8, x8_h, H⟩ := bd_inv H
      refine ev_draw rfl (by kernel_rfl) ?_
      refine qq rfl rfl (q_move rfl) ?_
      refine qq rfl rfl (q_move rfl) ?_
      refine qq rfl rfl (q_idx_l rfl rfl (idx_inv x5_h).1 (map_get (idx_inv x5_h).2.1) rfl) ?_
      refine qq rfl rfl (q_load_e rfl rfl rfl) ?_
      refine qq rfl rfl (q_move rfl) ?_
      refine qq rfl rfl (q_move rfl) ?_
      refine qq rfl rfl (q_idx_l rfl rfl (idx_inv x8_h).1 (map_get (idx_inv x8_h).2.1) rfl) ?_
      refine qq rfl rfl (q_load_e rfl rfl rfl) ?_
      refine qq rfl rfl (q_nes rfl rfl (r := GLot.eqb x5 x8) rfl) ?_
      refine qn ?_
      refine ev_cond rfl (fun hc => ?_) (fun hc => ?_)
      · replace H := ct hc H
        refine ev_seq ?_
        refine ev_region ?_
        refine rq rfl rfl (q_assign rfl) ?_
        refine run_nil ?_
        refine ev_ret ?_
        exact ret_ok [vb false] (congrArg (fun r : Bool => vb r) (Option.some.inj H)) rfl (.cons (.tmp rfl (.v _ _ (fun _ => rfl))) .nil)
      · replace H := cf hc H
        refine ev_skip ?_
        refine ev_region ?_
        refine rq rfl rfl (q_move rfl) ?_
        refine rq rfl rfl (q_add rfl rfl) ?_
        refine rq rfl rfl (q_assign rfl) ?_
        refine run_nil ?_
        exact ⟨_, _, w6, H, rfl, shift_mk ⟨⟨_, rfl, .rfl⟩, ⟨⟨_, rfl, .rfl⟩, ⟨⟨_, rfl, (.flat rfl)⟩, ⟨⟨_, rfl, (.eq (congrArg (fun n => D.v true (vi n)) (wrap_succ w6 w7)))⟩, trivial⟩⟩⟩⟩ trivial rfl rfl⟩
    · replace H := forL_out hc H
      refine ev_exit ?_
      refine ev_seq ?_
      refine ev_region ?_
      refine rq rfl rfl (q_assign rfl) ?_
      refine run_nil ?_
      refine ev_ret ?_
      exact ret_ok [vb true] (congrArg (fun r : Bool => vb r) (Option.some.inj H)) rfl (.cons (.tmp rfl (.v _ _ (fun _ => rfl))) .nil)
def backflushref18_Few_m (a0 : GWorld) : Option Bool := forN 0 ((a0.facts.length : Nat) : Int) (fun (k4 : Int) (s2 : Unit) loop3 => bd (idx a0.facts k4) fun x13 => bif bif x13.key.kind == 0 then decide (8 < x13.value) else false then (some false) else (loop3 ())) (fun (s2 : Unit) => some (decide (((a0.facts.length : Nat) : Int) ≤ 60))) ()
theorem backflushref18_Few_c {a0 : GWorld} {r : Bool} (H : backflushref18_Few_m a0 = some r) : PureC Try.prog true 31 [GWorld.e a0] (vb r) := by
  unfold backflushref18_Few_m at H
  refine pure_intro (N := 32) Try.func31 rfl rfl rfl rfl fun C hO => ?_
  refine ev_seq ?_
  refine ev_region ?_
  refine re rfl (e_box 1 0 rfl rfl rfl) ?_; rintro _ ⟨b1, rfl⟩
  refine rq rfl rfl (q_assign rfl) ?_
  refine run_nil ?_
  refine ev_seq ?_
  refine ev_seq ?_
  refine ev_region ?_
  refine rq rfl rfl (q_assign rfl) ?_
  refine run_nil ?_
  refine ev_block ?_
  refine ev_forN H (fun k4 s2 σ' => σ' = mkS [(1, .p 1 0 b1 0), (2, .v true (vb false)), (3, .v true (vi k4))] [.e 1 0 (some (b1, 11)) (.row 38 [.v false (V.l 8 (List.map GUnit.e a0.tables.source.units)), .v false (V.l 6 (List.map GItem.e a0.tables.source.items)), .v false (V.l 1 (List.map V.s a0.tables.source.plants)), .v false (V.l 4 (List.map GMachine.e a0.tables.source.machines)), .v false (V.l 2 (List.map GOption.e a0.tables.source.options)), .v false (V.l 1 (List.map (fun l => V.l 4 (List.map GCond.e l)) a0.tables.source.forbids)), .v false (V.l 17 (List.map GRecipe.e a0.tables.source.recipes)), .v false (V.l 4 (List.map GSwap.e a0.tables.source.swaps)), .v false (V.l 1 (List.map vi a0.tables.levels)), .v false (V.l 1 (List.map (fun l => V.l 6 (List.map GInst.e l)) a0.tables.codes)), .v false (V.l 8 (List.map GFact.e a0.facts))])] [] (0, false)) ⟨_, rfl, shift_mk ⟨⟨_, rfl, .rfl⟩, ⟨⟨_, rfl, (.flat rfl)⟩, ⟨⟨_, rfl, .rfl⟩, trivial⟩⟩⟩ ⟨(.e rfl), trivial⟩ rfl rfl⟩ ?_
  rintro n6 k4 s2 _ rfl w7 w8 w9 w10 H
  refine ev_seq ?_
  refine ev_seq ?_
  refine ev_region ?_
  refine rq rfl rfl (q_move rfl) ?_
  refine rq rfl rfl (q_fld_p rfl) ?_
  refine rq rfl rfl (q_load1 rfl rfl rfl) ?_
  refine rq rfl rfl (q_len_t rfl) ?_
  refine rq rfl rfl (q_lss rfl rfl) ?_
  refine run_nil ?_
  refine ev_cond rfl (fun hc => ?_) (fun hc => ?_)
  · obtain ⟨n12, n12_e, w11, H⟩ := forN_in hc w7 H
    refine ev_skip ?_
    refine ev_seq ?_
    refine ev_block ?_
    refine ev_seq ?_
    refine ev_region ?_
    refine rq rfl rfl (q_fld_p rfl) ?_
    refine rq rfl rfl (q_load1 rfl rfl rfl) ?_
    refine rq rfl rfl (q_move rfl) ?_
    obtain ⟨x13, x13_h, H⟩ := bd_inv H
    refine rq rfl rfl (q_idx_l rfl rfl (idx_inv x13_h).1 (map_get (idx_inv x13_h).2.1) rfl) ?_
    refine rq rfl rfl (q_fld_q rfl) ?_
    refine rq rfl rfl (q_fld_q rfl) ?_
    refine rq rfl rfl (q_load1_q rfl) ?_
    refine rq rfl rfl (q_eqi rfl rfl) ?_
    refine rq rfl rfl (q_move rfl) ?_
    refine rqc (l := []) ⟨⟨_, _, _, rfl, rfl, rfl, rfl⟩, rfl, fun hc => q_fld_p rfl, trivial⟩ rfl ?_
    refine rqc (l := [20]) ⟨⟨_, _, _, rfl, rfl, rfl, rfl⟩, rfl, fun hc => q_load1 rfl rfl rfl, ⟨fun h => h, trivial⟩⟩ rfl ?_
    refine rqc (l := []) ⟨⟨_, _, _, rfl, rfl, rfl, rfl⟩, rfl, fun hc => q_move rfl, trivial⟩ rfl ?_
    refine rqc (l := [21, 22]) ⟨⟨_, _, _, rfl, rfl, rfl, rfl⟩, rfl, fun hc => q_idx_l rfl rfl (idx_inv x13_h).1 (map_get (idx_inv x13_h).2.1) rfl, ⟨fun h => h, ⟨fun h => h, trivial⟩⟩⟩ rfl ?_
    refine rqc (l := [23]) ⟨⟨_, _, _, rfl, rfl, rfl, rfl⟩, rfl, fun hc => q_fld_q rfl, ⟨fun h => h, trivial⟩⟩ rfl ?_
    refine rqc (l := [24]) ⟨⟨_, _, _, rfl, rfl, rfl, rfl⟩, rfl, fun hc => q_load1_q rfl, ⟨fun h => h, trivial⟩⟩ rfl ?_
    refine rqc (l := [25]) ⟨⟨_, _, _, rfl, rfl, rfl, rfl⟩, rfl, fun hc => q_gtr rfl rfl, ⟨fun h => h, trivial⟩⟩ rfl ?_
    refine rq rfl rfl (q_pickb rfl rfl rfl (PB.c (fun hp => hp)) PB.v) ?_
    refine run_nil ?_
    refine ev_cond rfl (fun hc => ?_) (fun hc => ?_)
    · replace H := ct hc H
      refine ev_seq ?_
      refine ev_region ?_
      refine rq rfl rfl (q_assign rfl) ?_
      refine run_nil ?_
      refine ev_ret ?_
      exact ret_ok [vb false] (congrArg (fun r : Bool => vb r) (Option.some.inj H)) rfl (.cons (.tmp rfl (.v _ _ (fun _ => rfl))) .nil)
    · replace H := cf hc H
      refine ev_skip ?_
      refine ev_region ?_
      refine rq rfl rfl (q_move rfl) ?_
      refine rq rfl rfl (q_add rfl rfl) ?_
      refine rq rfl rfl (q_assign rfl) ?_
      refine run_nil ?_
      exact ⟨_, _, _, n12_e, H, rfl, shift_mk ⟨⟨_, rfl, .rfl⟩, ⟨⟨_, rfl, (.flat rfl)⟩, ⟨⟨_, rfl, (.eq (congrArg (fun n => D.v true (vi n)) (wrap_succ' (by omega) w11 w10)))⟩, trivial⟩⟩⟩ ⟨(.e rfl), trivial⟩ rfl rfl⟩
  · replace H := forN_out hc w7 H
    refine ev_exit ?_
    refine ev_seq ?_
    refine ev_region ?_
    refine rq rfl rfl (q_fld_p rfl) ?_
    refine rq rfl rfl (q_load1 rfl rfl rfl) ?_
    refine rq rfl rfl (q_len_t rfl) ?_
    refine rq rfl rfl (q_leq rfl rfl) ?_
    refine rq rfl rfl (q_assign rfl) ?_
    refine run_nil ?_
    refine ev_ret ?_
    exact ret_ok [vb (decide (((a0.facts.length : Nat) : Int) ≤ 60))] (congrArg (fun r : Bool => vb r) (Option.some.inj H)) rfl (.cons (.tmp rfl (.v _ _ (fun _ => rfl))) .nil)
def backflushref18_Lots_m (a0 : GWorld) (a1 : Int) (a2 : Int) : Option ((List GLot) × (List GRead)) := bd (backflushref18_Day_m a1) fun x3 => bif !x3 then (some (([] : List GLot), [])) else (bd (backflushref18_head_m) fun x4 => bd (backflushref18_many_m a0 a1 a2) fun x6 => forN 0 x6 (fun (k9 : Int) (s7 : (List GLot) × (List GRead)) loop8 => jn (fun (p23 : List GLot) (p25 : List GRead) => loop8 (p23, p25)) fun j22 => bd (backflushref18_lot_m a0 k9 a1 a2) fun x27 => gd (decide ((s7.2.length + x27.2.1.length) * 41 ≤ 140737488355328)) <| bif x27.2.2 then (gd (decide ((s7.1.length + ([x27.1] : List GLot).length) * 49 ≤ 140737488355328)) <| j22 (s7.1 ++ ([x27.1] : List GLot)) (s7.2 ++ x27.2.1)) else (j22 s7.1 (s7.2 ++ x27.2.1))) (fun (s7 : (List GLot) × (List GRead)) => some (s7.1, s7.2)) (([] : List GLot), ([(⟨x4, a1, wr (a1 + 1)⟩ : GRead)] : List GRead)))
theorem backflushref18_Lots_c {a0 : GWorld} {a1 : Int} {a2 : Int} {r : (List GLot) × (List GRead)} (H : backflushref18_Lots_m a0 a1 a2 = some r) : PureC Try.prog true 34 [GWorld.e a0, vi a1, vi a2] (V.t [V.l 6 (List.map GLot.e r.1), V.l 5 (List.map GRead.e r.2)]) := by
  unfold backflushref18_Lots_m at H
  refine pure_intro (N := 54) Try.func34 rfl rfl rfl rfl fun C hO => ?_
  refine ev_shift (shift_mk (fs := [(0, .v false (GWorld.e a0)), (1, .v true (vi a1)), (2, .v true (vi a2))]) (es := []) ⟨⟨_, rfl, .rfl⟩, ⟨⟨_, rfl, (.flat rfl)⟩, ⟨⟨_, rfl, (.flat rfl)⟩, trivial⟩⟩⟩ trivial rfl rfl) ?_
  refine ev_seq ?_
  refine ev_region ?_
  refine re rfl (e_box 3 0 rfl rfl rfl) ?_; rintro _ ⟨b1, rfl⟩
  refine rq rfl rfl (q_assign rfl) ?_
  refine rq rfl rfl (q_assign rfl) ?_
  refine run_nil ?_
  refine ev_seq ?_
  refine ev_region ?_
  refine re rfl (e_buildSlice 15 0 rfl rfl rfl rfl) ?_; rintro _ ⟨b2, rfl⟩
  refine rq rfl rfl (q_assign rfl) ?_
  refine run_nil ?_
  refine ev_seq ?_
  refine ev_seq ?_
  refine ev_region ?_
  refine rq rfl rfl (q_move rfl) ?_
  obtain ⟨x3, x3_h, H⟩ := bd_inv H
  refine rq rfl rfl (q_call rfl (.v _ _ (fun e => nomatch e)) (.v rfl ArgsOk.nil) inferInstance (backflushref18_Day_c  x3_h)) ?_
  refine rq rfl rfl (q_not rfl) ?_
  refine run_nil ?_
  refine ev_cond rfl (fun hc => ?_) (fun hc => ?_)
  · replace H := ct hc H
    refine ev_seq ?_
    refine ev_region ?_
    refine rq rfl rfl (q_move rfl) ?_
    refine rq rfl rfl (q_assign rfl) ?_
    refine rq rfl rfl (q_assign rfl) ?_
    refine run_nil ?_
    refine ev_ret ?_
    exact ret_ok [V.l 6 (List.map GLot.e ([] : List GLot)), V.l 5 (List.map GRead.e [])] (congrArg (fun r : (List GLot) × (List GRead) => V.t [V.l 6 (List.map GLot.e r.1), V.l 5 (List.map GRead.e r.2)]) (Option.some.inj H)) rfl (.cons (.tmp rfl (.all rfl (List.length_map _) (els_plain fun _ => ⟨rfl, rfl⟩) (fun _ => rfl))) (.cons (.tmp rfl (.nil _ _)) .nil))
  · replace H := cf hc H
    refine ev_skip ?_
    refine ev_seq ?_
    refine ev_region ?_
    obtain ⟨x4, x4_h, H⟩ := bd_inv H
    refine rq rfl rfl (q_call rfl (.v _ _ (fun e => nomatch e)) ArgsOk.nil inferInstance (backflushref18_head_c  x4_h)) ?_
    refine rq rfl rfl (q_move rfl) ?_
    refine rq rfl rfl (q_move rfl) ?_
    refine rq rfl rfl (q_add rfl rfl) ?_
    refine rq rfl rfl (q_build rfl (.v rfl rfl rfl rfl rfl (.v rfl rfl rfl rfl rfl (.v rfl rfl rfl rfl rfl .nil)))) ?_
    refine re rfl (e_buildSlice 25 0 rfl rfl rfl rfl) ?_; rintro _ ⟨b5, rfl⟩
    refine rq rfl rfl (q_assign rfl) ?_
    refine run_nil ?_
    refine ev_seq ?_
    refine ev_region ?_
    refine rq rfl rfl (q_loadN rfl rfl rfl rfl) ?_
    refine rq rfl rfl (q_move rfl) ?_
    refine rq rfl rfl (q_move rfl) ?_
    obtain ⟨x6, x6_h, H⟩ := bd_inv H
    refine rq rfl rfl (q_call rfl (.v _ _ (fun e => nomatch e)) (.v rfl (.v rfl (.v rfl ArgsOk.nil))) inferInstance (backflushref18_many_c  x6_h)) ?_
    refine rq rfl rfl (q_assign rfl) ?_
    refine run_nil ?_
    refine ev_seq ?_
    refine ev_seq ?_
    refine ev_region ?_
    refine rq rfl rfl (q_assign rfl) ?_
    refine run_nil ?_
    refine ev_block ?_
    refine ev_forN H (fun k9 s7 σ' => ∃ (q12 : Pl) (q14 : Pl), σ' = mkS [(1, .v true (vi a1)), (2, .v true (vi a2)), (3, .p 3 0 b1 0), (6, .v true (.raw (.slice none 0 0))), (7, .v true (.raw (.slice none 0 0))), (8, .o 15 0 q12 6 0 s7.1.length), (9, .o 25 0 q14 5 0 s7.2.length), (10, .v true (vi x6)), (11, .v true (vi k9))] [.e 3 0 (some (b1, 11)) (.row 38 [.v false (V.l 8 (List.map GUnit.e a0.tables.source.units)), .v false (V.l 6 (List.map GItem.e a0.tables.source.items)), .v false (V.l 1 (List.map V.s a0.tables.source.plants)), .v false (V.l 4 (List.map GMachine.e a0.tables.source.machines)), .v false (V.l 2 (List.map GOption.e a0.tables.source.options)), .v false (V.l 1 (List.map (fun l => V.l 4 (List.map GCond.e l)) a0.tables.source.forbids)), .v false (V.l 17 (List.map GRecipe.e a0.tables.source.recipes)), .v false (V.l 4 (List.map GSwap.e a0.tables.source.swaps)), .v false (V.l 1 (List.map vi a0.tables.levels)), .v false (V.l 1 (List.map (fun l => V.l 6 (List.map GInst.e l)) a0.tables.codes)), .v false (V.l 8 (List.map GFact.e a0.facts))]), .e 15 0 q12 (.row 60 (els true (List.map GLot.e s7.1))), .e 25 0 q14 (.row 100 (els true (List.map GRead.e s7.2)))] [] (0, false)) ⟨_, ⟨(some (b2, 0 * 6)), (some (b5, 1 * 5)), rfl⟩, shift_mk ⟨⟨_, rfl, (.flat rfl)⟩, ⟨⟨_, rfl, (.flat rfl)⟩, ⟨⟨_, rfl, .rfl⟩, ⟨⟨_, rfl, .rfl⟩, ⟨⟨_, rfl, .rfl⟩, ⟨⟨_, rfl, .rfl⟩, ⟨⟨_, rfl, .rfl⟩, ⟨⟨_, rfl, (.flat rfl)⟩, ⟨⟨_, rfl, .rfl⟩, trivial⟩⟩⟩⟩⟩⟩⟩⟩⟩ ⟨(.e rfl), ⟨(.e rfl), ⟨(.e rfl), trivial⟩⟩⟩ rfl rfl⟩ ?_
    rintro n15 k9 s7 _ ⟨q12, q14, rfl⟩ w16 w17 w18 w19 H
    refine ev_seq ?_
    refine ev_seq ?_
    refine ev_region ?_
    refine rq rfl rfl (q_move rfl) ?_
    refine rq rfl rfl (q_move rfl) ?_
    refine rq rfl rfl (q_lss rfl rfl) ?_
    refine run_nil ?_
    refine ev_cond rfl (fun hc => ?_) (fun hc => ?_)
    · obtain ⟨n21, n21_e, w20, H⟩ := forN_in hc w16 H
      refine ev_skip ?_
      obtain ⟨j22, j22_e, H⟩ := jn_inv H
      refine ev_join (fun σ' => ∃ (p23 : List GLot) (p25 : List GRead) (q24 : Pl) (q26 : Pl), j22 p23 p25 = some r ∧ σ' = mkS [(1, .v true (vi a1)), (2, .v true (vi a2)), (3, .p 3 0 b1 0), (6, .v true (.raw (.slice none 0 0))), (7, .v true (.raw (.slice none 0 0))), (8, .o 15 0 q24 6 0 p23.length), (9, .o 25 0 q26 5 0 p25.length), (10, .v true (vi x6)), (11, .v true (vi k9))] [.e 3 0 (some (b1, 11)) (.row 38 [.v false (V.l 8 (List.map GUnit.e a0.tables.source.units)), .v false (V.l 6 (List.map GItem.e a0.tables.source.items)), .v false (V.l 1 (List.map V.s a0.tables.source.plants)), .v false (V.l 4 (List.map GMachine.e a0.tables.source.machines)), .v false (V.l 2 (List.map GOption.e a0.tables.source.options)), .v false (V.l 1 (List.map (fun l => V.l 4 (List.map GCond.e l)) a0.tables.source.forbids)), .v false (V.l 17 (List.map GRecipe.e a0.tables.source.recipes)), .v false (V.l 4 (List.map GSwap.e a0.tables.source.swaps)), .v false (V.l 1 (List.map vi a0.tables.levels)), .v false (V.l 1 (List.map (fun l => V.l 6 (List.map GInst.e l)) a0.tables.codes)), .v false (V.l 8 (List.map GFact.e a0.facts))]), .e 15 0 q24 (.row 60 (els true (List.map GLot.e p23))), .e 25 0 q26 (.row 100 (els true (List.map GRead.e p25)))] [] (0, false)) ?_ ?_
      · rintro _ ⟨p23, p25, q24, q26, H, rfl⟩
        subst j22_e
        refine ev_region ?_
        refine rq rfl rfl (q_move rfl) ?_
        refine rq rfl rfl (q_add rfl rfl) ?_
        refine rq rfl rfl (q_assign rfl) ?_
        refine run_nil ?_
        exact ⟨_, _, _, n21_e, H, ⟨q24, q26, rfl⟩, shift_mk ⟨⟨_, rfl, (.flat rfl)⟩, ⟨⟨_, rfl, (.flat rfl)⟩, ⟨⟨_, rfl, .rfl⟩, ⟨⟨_, rfl, .rfl⟩, ⟨⟨_, rfl, .rfl⟩, ⟨⟨_, rfl, .rfl⟩, ⟨⟨_, rfl, .rfl⟩, ⟨⟨_, rfl, (.flat rfl)⟩, ⟨⟨_, rfl, (.eq (congrArg (fun n => D.v true (vi n)) (wrap_succ' (by omega) w20 w19)))⟩, trivial⟩⟩⟩⟩⟩⟩⟩⟩⟩ ⟨(.e rfl), ⟨(.e rfl), ⟨(.e rfl), trivial⟩⟩⟩ rfl rfl⟩
      · clear j22_e
        refine ev_block ?_
        refine ev_seq ?_
        refine ev_region ?_
        refine rq rfl rfl (q_loadN rfl rfl rfl rfl) ?_
        refine rq rfl rfl (q_move rfl) ?_
        refine rq rfl rfl (q_move rfl) ?_
        refine rq rfl rfl (q_move rfl) ?_
        obtain ⟨x27, x27_h, H⟩ := bd_inv H
        refine rq rfl rfl (q_call rfl (.v _ _ (fun e => nomatch e)) (.v rfl (.v rfl (.v rfl (.v rfl ArgsOk.nil)))) inferInstance (backflushref18_lot_c  x27_h)) ?_
        refine rq rfl rfl (q_move rfl) ?_
        refine rq rfl rfl (q_extract rfl rfl) ?_
        refine rq rfl rfl (q_extract rfl rfl) ?_
        refine rq rfl rfl (q_extract rfl rfl) ?_
        refine re rfl (e_alloc 12 0 rfl rfl) ?_; rintro _ ⟨b28, rfl⟩
        refine re rfl (e_store rfl rfl rfl rfl rfl (Nat.le_of_ble_eq_true rfl) rfl) ?_; rintro _ rfl
        refine rq rfl rfl (q_assign rfl) ?_
        refine rq rfl rfl (q_assign rfl) ?_
        refine run_nil ?_
        refine ev_seq ?_
        refine ev_region ?_
        refine rq rfl rfl (q_move rfl) ?_
        refine rq rfl rfl (q_move rfl) ?_
        obtain ⟨w29, H⟩ := gdd_inv H
        refine re rfl (e_appt rfl rfl rfl (fun _ => ⟨rfl, rfl⟩) rfl rfl rfl w29 rfl) ?_; rintro _ ⟨q30, rfl⟩
        refine rq rfl rfl (q_assign rfl) ?_
        refine run_nil ?_
        refine ev_seq ?_
        refine ev_region ?_
        refine rq rfl rfl (q_move rfl) ?_
        refine run_nil ?_
        refine ev_cond rfl (fun hc => ?_) (fun hc => ?_)
        · replace H := ct hc H
          refine ev_region ?_
          refine rq rfl rfl (q_move rfl) ?_
          refine rq rfl rfl (q_loadN rfl rfl rfl rfl) ?_
          refine rq rfl rfl (q_buildSlice (z := 6) (xs := List.map GLot.e ([x27.1] : List GLot)) (fl := true) rfl rfl rfl rfl (by simp [V.plain, V.cells, GLot.e, vi, vb]) rfl) ?_
          obtain ⟨w31, H⟩ := gdd_inv H
          refine re rfl (e_appt rfl rfl rfl (fun _ => ⟨rfl, rfl⟩) rfl rfl rfl w31 rfl) ?_; rintro _ ⟨q32, rfl⟩
          refine rq rfl rfl (q_assign rfl) ?_
          refine run_nil ?_
          exact ⟨_, ⟨s7.1 ++ ([x27.1] : List GLot), s7.2 ++ x27.2.1, q32, q30, H, rfl⟩, shift_mk ⟨⟨_, rfl, (.flat rfl)⟩, ⟨⟨_, rfl, (.flat rfl)⟩, ⟨⟨_, rfl, .rfl⟩, ⟨⟨_, rfl, .rfl⟩, ⟨⟨_, rfl, .rfl⟩, ⟨⟨_, rfl, .rfl⟩, ⟨⟨_, rfl, .rfl⟩, ⟨⟨_, rfl, (.flat rfl)⟩, ⟨⟨_, rfl, (.flat rfl)⟩, trivial⟩⟩⟩⟩⟩⟩⟩⟩⟩ ⟨(.e rfl), ⟨(.e rfl), ⟨(.e rfl), trivial⟩⟩⟩ rfl rfl⟩
        · replace H := cf hc H
          refine ev_skip ?_
          exact ⟨_, ⟨s7.1, s7.2 ++ x27.2.1, q12, q30, H, rfl⟩, shift_mk ⟨⟨_, rfl, (.flat rfl)⟩, ⟨⟨_, rfl, (.flat rfl)⟩, ⟨⟨_, rfl, .rfl⟩, ⟨⟨_, rfl, .rfl⟩, ⟨⟨_, rfl, .rfl⟩, ⟨⟨_, rfl, .rfl⟩, ⟨⟨_, rfl, .rfl⟩, ⟨⟨_, rfl, (.flat rfl)⟩, ⟨⟨_, rfl, (.flat rfl)⟩, trivial⟩⟩⟩⟩⟩⟩⟩⟩⟩ ⟨(.e rfl), ⟨(.e rfl), ⟨(.e rfl), trivial⟩⟩⟩ rfl rfl⟩
    · replace H := forN_out hc w16 H
      refine ev_exit ?_
      refine ev_seq ?_
      refine ev_region ?_
      refine rq rfl rfl (q_move rfl) ?_
      refine rq rfl rfl (q_move rfl) ?_
      refine rq rfl rfl (q_assign rfl) ?_
      refine rq rfl rfl (q_assign rfl) ?_
      refine run_nil ?_
      refine ev_ret ?_
      exact ret_ok [V.l 6 (List.map GLot.e s7.1), V.l 5 (List.map GRead.e s7.2)] (congrArg (fun r : (List GLot) × (List GRead) => V.t [V.l 6 (List.map GLot.e r.1), V.l 5 (List.map GRead.e r.2)]) (Option.some.inj H)) rfl (.cons (.tmp rfl (.all rfl (List.length_map _) (els_plain fun _ => ⟨rfl, rfl⟩) (fun _ => rfl))) (.cons (.tmp rfl (.all rfl (List.length_map _) (els_plain fun _ => ⟨rfl, rfl⟩) (fun _ => rfl))) .nil))
end Bf
