import Derived.Test.YtedblpbpoekdlaaS3
import Derived.Test.YtedblpbpoekdlaaF28
namespace Bf
open Go Go.RowKit Go.Proofs
attribute [local irreducible] Quiet Eff RunS Ev PureC Shift RunQ RetQ RetR SeqQ
set_option linter.unusedVariables false
set_option maxRecDepth 4000
def backflushref18_Lot_m (a0 : GWorld) (a1 : Int) (a2 : Int) (a3 : Int) : Option (GLot × (List GRead) × Bool) := bd (backflushref18_Day_m a2) fun x3 => bif !x3 then (some ((⟨0, 0, 0, 0, 0, 0⟩ : GLot), [], false)) else (bd (backflushref18_head_m) fun x4 => bdc (!(decide (a1 < 0))) (backflushref18_many_m a0 a2 a3) fun x6 => bif bif decide (a1 < 0) then true else decide (x6 ≤ a1) then (some ((⟨0, 0, 0, 0, 0, 0⟩ : GLot), ([(⟨x4, a2, wr (a2 + 1)⟩ : GRead)] : List GRead), false)) else (bd (backflushref18_lot_m a0 a1 a2 a3) fun x7 => gd (decide ((([(⟨x4, a2, wr (a2 + 1)⟩ : GRead)] : List GRead).length + x7.2.1.length) * 41 ≤ 140737488355328)) <| some (x7.1, ([(⟨x4, a2, wr (a2 + 1)⟩ : GRead)] : List GRead) ++ x7.2.1, x7.2.2)))
theorem backflushref18_Lot_c {a0 : GWorld} {a1 : Int} {a2 : Int} {a3 : Int} {r : GLot × (List GRead) × Bool} (H : backflushref18_Lot_m a0 a1 a2 a3 = some r) : PureC Try.prog true 32 [GWorld.e a0, vi a1, vi a2, vi a3] (V.t [GLot.e r.1, V.l 5 (List.map GRead.e r.2.1), vb r.2.2]) := by
  unfold backflushref18_Lot_m at H
  refine pure_intro (N := 51) Try.func32 rfl rfl rfl rfl fun C hO => ?_
  refine ev_shift (shift_mk (fs := [(0, .v false (GWorld.e a0)), (1, .v true (vi a1)), (2, .v true (vi a2)), (3, .v true (vi a3))]) (es := []) ⟨⟨_, rfl, .rfl⟩, ⟨⟨_, rfl, (.flat rfl)⟩, ⟨⟨_, rfl, (.flat rfl)⟩, ⟨⟨_, rfl, (.flat rfl)⟩, trivial⟩⟩⟩⟩ trivial rfl rfl) ?_
  refine ev_seq ?_
  refine ev_region ?_
  refine re rfl (e_box 4 0 rfl rfl rfl) ?_; rintro _ ⟨b1, rfl⟩
  refine re rfl (e_alloc 8 0 rfl rfl) ?_; rintro _ ⟨b2, rfl⟩
  refine rq rfl rfl (q_assign rfl) ?_
  refine rq rfl rfl (q_assign rfl) ?_
  refine run_nil ?_
  refine ev_seq ?_
  refine ev_seq ?_
  refine ev_region ?_
  refine rq rfl rfl (q_move rfl) ?_
  obtain ⟨x3, x3_h, H⟩ := bd_inv H
  refine rq rfl rfl (q_call rfl (.v _ _ (fun e => nomatch e)) (.v rfl ArgsOk.nil) inferInstance (backflushref18_Day_c  x3_h)) ?_
  refine rq rfl rfl (q_not rfl) ?_
  refine run_nil ?_
  refine ev_cond rfl (fun hc => ?_) (fun hc => ?_)
  · replace H := ct hc H
    refine ev_seq ?_
    refine ev_region ?_
    refine rq rfl rfl (q_build rfl .nil) ?_
    refine re rfl (e_store rfl rfl rfl rfl rfl (Nat.le_of_ble_eq_true rfl) rfl) ?_; rintro _ rfl
    refine rq rfl rfl (q_assign rfl) ?_
    refine rq rfl rfl (q_assign rfl) ?_
    refine run_nil ?_
    refine ev_ret ?_
    exact ret_ok [GLot.e (⟨0, 0, 0, 0, 0, 0⟩ : GLot), V.l 5 (List.map GRead.e []), vb false] (congrArg (fun r : GLot × (List GRead) × Bool => V.t [GLot.e r.1, V.l 5 (List.map GRead.e r.2.1), vb r.2.2]) (Option.some.inj H)) rfl (.cons (.cellN (z := 6) rfl rfl rfl rfl rfl rfl (.v _ _ (fun _ => rfl))) (.cons (.tmp rfl (.nil _ _)) (.cons (.tmp rfl (.v _ _ (fun _ => rfl))) .nil)))
  · replace H := cf hc H
    refine ev_skip ?_
    refine ev_seq ?_
    refine ev_region ?_
    obtain ⟨x4, x4_h, H⟩ := bd_inv H
    refine rq rfl rfl (q_call rfl (.v _ _ (fun e => nomatch e)) ArgsOk.nil inferInstance (backflushref18_head_c  x4_h)) ?_
    refine rq rfl rfl (q_move rfl) ?_
    refine rq rfl rfl (q_move rfl) ?_
    refine rq rfl rfl (q_add rfl rfl) ?_
    refine rq rfl rfl (q_build rfl (.v rfl rfl rfl rfl rfl (.v rfl rfl rfl rfl rfl (.v rfl rfl rfl rfl rfl .nil)))) ?_
    refine re rfl (e_buildSlice 24 0 rfl rfl rfl rfl) ?_; rintro _ ⟨b5, rfl⟩
    refine rq rfl rfl (q_assign rfl) ?_
    refine run_nil ?_
    refine ev_seq ?_
    refine ev_seq ?_
    refine ev_region ?_
    refine rq rfl rfl (q_move rfl) ?_
    refine rq rfl rfl (q_lss rfl rfl) ?_
    refine rq rfl rfl (q_move rfl) ?_
    refine rqc (l := []) ⟨⟨_, _, _, rfl, rfl, rfl, rfl⟩, rfl, fun hc => q_move rfl, trivial⟩ rfl ?_
    refine rqc (l := []) ⟨⟨_, _, _, rfl, rfl, rfl, rfl⟩, rfl, fun hc => q_loadN rfl rfl rfl rfl, trivial⟩ rfl ?_
    refine rqc (l := []) ⟨⟨_, _, _, rfl, rfl, rfl, rfl⟩, rfl, fun hc => q_move rfl, trivial⟩ rfl ?_
    refine rqc (l := []) ⟨⟨_, _, _, rfl, rfl, rfl, rfl⟩, rfl, fun hc => q_move rfl, trivial⟩ rfl ?_
    obtain ⟨x6, x6_h, _, H⟩ := bdc_inv H
    refine rqc (l := [29, 30, 31]) ⟨⟨_, _, _, rfl, rfl, rfl, rfl⟩, rfl, fun hc => q_call rfl (.v _ _ (fun e => nomatch e)) (.v rfl (.v rfl (.v rfl ArgsOk.nil))) inferInstance (backflushref18_many_c  (x6_h hc)), ⟨fun h => h, ⟨fun h => h, ⟨fun h => h, trivial⟩⟩⟩⟩ rfl ?_
    refine rqc (l := [28, 32]) ⟨⟨_, _, _, rfl, rfl, rfl, rfl⟩, rfl, fun hc => q_geq rfl rfl, ⟨fun h => h, ⟨fun h => h, trivial⟩⟩⟩ rfl ?_
    refine rq rfl rfl (q_pickb rfl rfl rfl PB.v (PB.c (fun hp => by rw [hp]; rfl))) ?_
    refine run_nil ?_
    refine ev_cond rfl (fun hc => ?_) (fun hc => ?_)
    · replace H := ct hc H
      refine ev_seq ?_
      refine ev_region ?_
      refine rq rfl rfl (q_build rfl .nil) ?_
      refine rq rfl rfl (q_move rfl) ?_
      refine re rfl (e_store rfl rfl rfl rfl rfl (Nat.le_of_ble_eq_true rfl) rfl) ?_; rintro _ rfl
      refine rq rfl rfl (q_assign rfl) ?_
      refine rq rfl rfl (q_assign rfl) ?_
      refine run_nil ?_
      refine ev_ret ?_
      exact ret_ok [GLot.e (⟨0, 0, 0, 0, 0, 0⟩ : GLot), V.l 5 (List.map GRead.e ([(⟨x4, a2, wr (a2 + 1)⟩ : GRead)] : List GRead)), vb false] (congrArg (fun r : GLot × (List GRead) × Bool => V.t [GLot.e r.1, V.l 5 (List.map GRead.e r.2.1), vb r.2.2]) (Option.some.inj H)) rfl (.cons (.cellN (z := 6) rfl rfl rfl rfl rfl rfl (.v _ _ (fun _ => rfl))) (.cons (.tmp rfl (.all rfl (List.length_map _) (els_plain fun _ => ⟨rfl, rfl⟩) (fun _ => rfl))) (.cons (.tmp rfl (.v _ _ (fun _ => rfl))) .nil)))
    · replace H := cf hc H
      refine ev_skip ?_
      refine ev_seq ?_
      refine ev_region ?_
      refine rq rfl rfl (q_loadN rfl rfl rfl rfl) ?_
      refine rq rfl rfl (q_move rfl) ?_
      refine rq rfl rfl (q_move rfl) ?_
      refine rq rfl rfl (q_move rfl) ?_
      obtain ⟨x7, x7_h, H⟩ := bd_inv H
      refine rq rfl rfl (q_call rfl (.v _ _ (fun e => nomatch e)) (.v rfl (.v rfl (.v rfl (.v rfl ArgsOk.nil)))) inferInstance (backflushref18_lot_c  x7_h)) ?_
      refine rq rfl rfl (q_move rfl) ?_
      refine rq rfl rfl (q_extract rfl rfl) ?_
      refine rq rfl rfl (q_extract rfl rfl) ?_
      refine rq rfl rfl (q_extract rfl rfl) ?_
      refine re rfl (e_alloc 12 0 rfl rfl) ?_; rintro _ ⟨b8, rfl⟩
      refine re rfl (e_store rfl rfl rfl rfl rfl (Nat.le_of_ble_eq_true rfl) rfl) ?_; rintro _ rfl
      refine rq rfl rfl (q_assign rfl) ?_
      refine rq rfl rfl (q_assign rfl) ?_
      refine run_nil ?_
      refine ev_seq ?_
      obtain ⟨w9, H⟩ := gdd_inv H
      refine ev_drawX (fun i => (assocN [(3, [24]), (5, [8])] i).getD []) rfl ?_
      refine xq (r := some _) [24] 0 (.start _) rfl (by kernel_rfl) (by kernel_rfl) ⟨rfl, .inl ⟨rfl, Quiet.norm (q_loadN rfl rfl rfl rfl)⟩⟩ rfl (fun hcl => ?_)
      refine xq (r := some _) [] 1 hcl rfl (by kernel_rfl) (by kernel_rfl) ⟨rfl, .inl ⟨rfl, Quiet.norm (q_move rfl)⟩⟩ rfl (fun hcl => ?_)
      refine xq (r := some _) [] 2 hcl rfl (by kernel_rfl) (by kernel_rfl) ⟨rfl, .inl ⟨rfl, Quiet.norm (q_move rfl)⟩⟩ rfl (fun hcl => ?_)
      refine xq (r := some _) [24, 8] 4 hcl rfl (by kernel_rfl) (by kernel_rfl) ⟨rfl, .inl ⟨rfl, Quiet.norm (q_move rfl)⟩⟩ rfl (fun hcl => ?_)
      refine xb hcl (l := [3]) (by kernel_rfl) (by simp) (fun i hi hcl => ?_)
      obtain rfl : i = 3 := by simpa using hi
      refine xe rfl (x_appt rfl rfl rfl (fun _ => ⟨rfl, rfl⟩) rfl rfl rfl w9 rfl rfl) ?_; rintro _ ⟨q11, rfl⟩
      refine xb hcl (l := [5]) (by kernel_rfl) (by simp) (fun i hi hcl => ?_)
      obtain rfl : i = 5 := by simpa using hi
      refine xe rfl (x_store rfl rfl rfl rfl rfl (Nat.le_of_ble_eq_true rfl) rfl rfl) ?_; rintro _ rfl
      refine xq (r := some _) [] 6 hcl rfl (by kernel_rfl) (by kernel_rfl) ⟨rfl, .inl ⟨rfl, Quiet.norm (q_assign rfl)⟩⟩ rfl (fun hcl => ?_)
      refine xq (r := some _) [] 7 hcl rfl (by kernel_rfl) (by kernel_rfl) ⟨rfl, .inl ⟨rfl, Quiet.norm (q_assign rfl)⟩⟩ rfl (fun hcl => ?_)
      refine xn (by kernel_rfl) ?_
      refine ev_ret ?_
      exact ret_ok [GLot.e x7.1, V.l 5 (List.map GRead.e (([(⟨x4, a2, wr (a2 + 1)⟩ : GRead)] : List GRead) ++ x7.2.1)), vb x7.2.2] (congrArg (fun r : GLot × (List GRead) × Bool => V.t [GLot.e r.1, V.l 5 (List.map GRead.e r.2.1), vb r.2.2]) (Option.some.inj H)) rfl (.cons (.cellN (z := 6) rfl rfl rfl rfl rfl rfl (.v _ _ (fun _ => rfl))) (.cons (.tmp rfl (.all rfl (List.length_map _) (els_plain fun _ => ⟨rfl, rfl⟩) (fun _ => rfl))) (.cons (.tmp rfl (.v _ _ (fun _ => rfl))) .nil)))
def backflushref18_Lots_m (a0 : GWorld) (a1 : Int) (a2 : Int) : Option ((List GLot) × (List GRead)) := bd (backflushref18_Day_m a1) fun x3 => bif !x3 then (some (([] : List GLot), [])) else (bd (backflushref18_head_m) fun x4 => bd (backflushref18_many_m a0 a1 a2) fun x6 => forN 0 x6 (fun (k9 : Int) (s7 : (List GLot) × (List GRead)) loop8 => jn (fun (p23 : List GLot) (p25 : List GRead) => loop8 (p23, p25)) fun j22 => bd (backflushref18_lot_m a0 k9 a1 a2) fun x27 => gd (decide ((s7.2.length + x27.2.1.length) * 41 ≤ 140737488355328)) <| bif x27.2.2 then (gd (decide ((s7.1.length + ([x27.1] : List GLot).length) * 49 ≤ 140737488355328)) <| j22 (s7.1 ++ ([x27.1] : List GLot)) (s7.2 ++ x27.2.1)) else (j22 s7.1 (s7.2 ++ x27.2.1))) (fun (s7 : (List GLot) × (List GRead)) => some (s7.1, s7.2)) (([] : List GLot), ([(⟨x4, a1, wr (a1 + 1)⟩ : GRead)] : List GRead)))
theorem backflushref18_Lots_c {a0 : GWorld} {a1 : Int} {a2 : Int} {r : (List GLot) × (List GRead)} (H : backflushref18_Lots_m a0 a1 a2 = some r) : PureC Try.prog true 34 [GWorld.e a0, vi a1, vi a2] (V.t [V.l 6 (List.map GLot.e r.1), V.l 5 (List.map GRead.e r.2)]) := by
  unfold backflushref18_Lots_m at H
  refine pure_intro (N := 54) Try.func34 rfl rfl rfl rfl fun C hO => ?_
  refine ev_shift (shift_mk (fs := [(0, .v false (GWorld.e a0)), (1, .v true (vi a1)), (2, .v true (vi a2))]) (es := []) ⟨⟨_, rfl, .rfl⟩, ⟨⟨_, rfl, (.flat rfl)⟩, ⟨⟨_, rfl, (.flat rfl)⟩, trivial⟩⟩⟩ trivial rfl rfl) ?_
  refine ev_seq ?_
  refine ev_region ?_
  refine re rfl (e_box 3 0 rfl rfl rfl) ?_; rintro _ ⟨b1, rfl⟩
  refine rq rfl rfl (q_assign rfl) ?_
  refine rq rfl rfl (q_assign rfl) ?_
  refine run_nil ?_
  refine ev_seq ?_
  refine ev_region ?_
  refine re rfl (e_buildSlice 15 0 rfl rfl rfl rfl) ?_; rintro _ ⟨b2, rfl⟩
  refine rq rfl rfl (q_assign rfl) ?_
  refine run_nil ?_
  refine ev_seq ?_
  refine ev_seq ?_
  refine ev_region ?_
  refine rq rfl rfl (q_move rfl) ?_
  obtain ⟨x3, x3_h, H⟩ := bd_inv H
  refine rq rfl rfl (q_call rfl (.v _ _ (fun e => nomatch e)) (.v rfl ArgsOk.nil) inferInstance (backflushref18_Day_c  x3_h)) ?_
  refine rq rfl rfl (q_not rfl) ?_
  refine run_nil ?_
  refine ev_cond rfl (fun hc => ?_) (fun hc => ?_)
  · replace H := ct hc H
    refine ev_seq ?_
    refine ev_region ?_
    refine rq rfl rfl (q_move rfl) ?_
    refine rq rfl rfl (q_assign rfl) ?_
    refine rq rfl rfl (q_assign rfl) ?_
    refine run_nil ?_
    refine ev_ret ?_
    exact ret_ok [V.l 6 (List.map GLot.e ([] : List GLot)), V.l 5 (List.map GRead.e [])] (congrArg (fun r : (List GLot) × (List GRead) => V.t [V.l 6 (List.map GLot.e r.1), V.l 5 (List.map GRead.e r.2)]) (Option.some.inj H)) rfl (.cons (.tmp rfl (.all rfl (List.length_map _) (els_plain fun _ => ⟨rfl, rfl⟩) (fun _ => rfl))) (.cons (.tmp rfl (.nil _ _)) .nil))
  · replace H := cf hc H
    refine ev_skip ?_
    refine ev_seq ?_
    refine ev_region ?_
    obtain ⟨x4, x4_h, H⟩ := bd_inv H
    refine rq rfl rfl (q_call rfl (.v _ _ (fun e => nomatch e)) ArgsOk.nil inferInstance (backflushref18_head_c  x4_h)) ?_
    refine rq rfl rfl (q_move rfl) ?_
    refine rq rfl rfl (q_move rfl) ?_
    refine rq rfl rfl (q_add rfl rfl) ?_
    refine rq rfl rfl (q_build rfl (.v rfl rfl rfl rfl rfl (.v rfl rfl rfl rfl rfl (.v rfl rfl rfl rfl rfl .nil)))) ?_
    refine re rfl (e_buildSlice 25 0 rfl rfl rfl rfl) ?_; rintro _ ⟨b5, rfl⟩
    refine rq rfl rfl (q_assign rfl) ?_
    refine run_nil ?_
    refine ev_seq ?_
    refine ev_region ?_
    refine rq rfl rfl (q_loadN rfl rfl rfl rfl) ?_
    refine rq rfl rfl (q_move rfl) ?_
    refine rq rfl rfl (q_move rfl) ?_
    obtain ⟨x6, x6_h, H⟩ := bd_inv H
    refine rq rfl rfl (q_call rfl (.v _ _ (fun e => nomatch e)) (.v rfl (.v rfl (.v rfl ArgsOk.nil))) inferInstance (backflushref18_many_c  x6_h)) ?_
    refine rq rfl rfl (q_assign rfl) ?_
    refine run_nil ?_
    refine ev_seq ?_
    refine ev_seq ?_
    refine ev_region ?_
    refine rq rfl rfl (q_assign rfl) ?_
    refine run_nil ?_
    refine ev_block ?_
    refine ev_forN H (fun k9 s7 σ' => ∃ (q12 : Pl) (q14 : Pl), σ' = mkS [(1, .v true (vi a1)), (2, .v true (vi a2)), (3, .p 3 0 b1 0), (6, .v true (.raw (.slice none 0 0))), (7, .v true (.raw (.slice none 0 0))), (8, .o 15 0 q12 6 0 s7.1.length), (9, .o 25 0 q14 5 0 s7.2.length), (10, .v true (vi x6)), (11, .v true (vi k9))] [.e 3 0 (some (b1, 11)) (.row 38 [.v false (V.l 8 (List.map GUnit.e a0.tables.source.units)), .v false (V.l 6 (List.map GItem.e a0.tables.source.items)), .v false (V.l 1 (List.map V.s a0.tables.source.plants)), .v false (V.l 4 (List.map GMachine.e a0.tables.source.machines)), .v false (V.l 2 (List.map GOption.e a0.tables.source.options)), .v false (V.l 1 (List.map (fun l => V.l 4 (List.map GCond.e l)) a0.tables.source.forbids)), .v false (V.l 17 (List.map GRecipe.e a0.tables.source.recipes)), .v false (V.l 4 (List.map GSwap.e a0.tables.source.swaps)), .v false (V.l 1 (List.map vi a0.tables.levels)), .v false (V.l 1 (List.map (fun l => V.l 6 (List.map GInst.e l)) a0.tables.codes)), .v false (V.l 8 (List.map GFact.e a0.facts))]), .e 15 0 q12 (.row 60 (els true (List.map GLot.e s7.1))), .e 25 0 q14 (.row 100 (els true (List.map GRead.e s7.2)))] [] (0, false)) ⟨_, ⟨(some (b2, 0 * 6)), (some (b5, 1 * 5)), rfl⟩, shift_mk ⟨⟨_, rfl, (.flat rfl)⟩, ⟨⟨_, rfl, (.flat rfl)⟩, ⟨⟨_, rfl, .rfl⟩, ⟨⟨_, rfl, .rfl⟩, ⟨⟨_, rfl, .rfl⟩, ⟨⟨_, rfl, .rfl⟩, ⟨⟨_, rfl, .rfl⟩, ⟨⟨_, rfl, (.flat rfl)⟩, ⟨⟨_, rfl, .rfl⟩, trivial⟩⟩⟩⟩⟩⟩⟩⟩⟩ ⟨(.e rfl), ⟨(.e rfl), ⟨(.e rfl), trivial⟩⟩⟩ rfl rfl⟩ ?_
    rintro n15 k9 s7 _ ⟨q12, q14, rfl⟩ w16 w17 w18 w19 H
    refine ev_seq ?_
    refine ev_seq ?_
    refine ev_region ?_
    refine rq rfl rfl (q_move rfl) ?_
    refine rq rfl rfl (q_move rfl) ?_
    refine rq rfl rfl (q_lss rfl rfl) ?_
    refine run_nil ?_
    refine ev_cond rfl (fun hc => ?_) (fun hc => ?_)
    · obtain ⟨n21, n21_e, w20, H⟩ := forN_in hc w16 H
      refine ev_skip ?_
      obtain ⟨j22, j22_e, H⟩ := jn_inv H
      refine ev_join (fun σ' => ∃ (p23 : List GLot) (p25 : List GRead) (q24 : Pl) (q26 : Pl), j22 p23 p25 = some r ∧ σ' = mkS [(1, .v true (vi a1)), (2, .v true (vi a2)), (3, .p 3 0 b1 0), (6, .v true (.raw (.slice none 0 0))), (7, .v true (.raw (.slice none 0 0))), (8, .o 15 0 q24 6 0 p23.length), (9, .o 25 0 q26 5 0 p25.length), (10, .v true (vi x6)), (11, .v true (vi k9))] [.e 3 0 (some (b1, 11)) (.row 38 [.v false (V.l 8 (List.map GUnit.e a0.tables.source.units)), .v false (V.l 6 (List.map GItem.e a0.tables.source.items)), .v false (V.l 1 (List.map V.s a0.tables.source.plants)), .v false (V.l 4 (List.map GMachine.e a0.tables.source.machines)), .v false (V.l 2 (List.map GOption.e a0.tables.source.options)), .v false (V.l 1 (List.map (fun l => V.l 4 (List.map GCond.e l)) a0.tables.source.forbids)), .v false (V.l 17 (List.map GRecipe.e a0.tables.source.recipes)), .v false (V.l 4 (List.map GSwap.e a0.tables.source.swaps)), .v false (V.l 1 (List.map vi a0.tables.levels)), .v false (V.l 1 (List.map (fun l => V.l 6 (List.map GInst.e l)) a0.tables.codes)), .v false (V.l 8 (List.map GFact.e a0.facts))]), .e 15 0 q24 (.row 60 (els true (List.map GLot.e p23))), .e 25 0 q26 (.row 100 (els true (List.map GRead.e p25)))] [] (0, false)) ?_ ?_
      · rintro _ ⟨p23, p25, q24, q26, H, rfl⟩
        subst j22_e
        refine ev_region ?_
        refine rq rfl rfl (q_move rfl) ?_
        refine rq rfl rfl (q_add rfl rfl) ?_
        refine rq rfl rfl (q_assign rfl) ?_
        refine run_nil ?_
        exact ⟨_, _, _, n21_e, H, ⟨q24, q26, rfl⟩, shift_mk ⟨⟨_, rfl, (.flat rfl)⟩, ⟨⟨_, rfl, (.flat rfl)⟩, ⟨⟨_, rfl, .rfl⟩, ⟨⟨_, rfl, .rfl⟩, ⟨⟨_, rfl, .rfl⟩, ⟨⟨_, rfl, .rfl⟩, ⟨⟨_, rfl, .rfl⟩, ⟨⟨_, rfl, (.flat rfl)⟩, ⟨⟨_, rfl, (.eq (congrArg (fun n => D.v true (vi n)) (wrap_succ' (by omega) w20 w19)))⟩, trivial⟩⟩⟩⟩⟩⟩⟩⟩⟩ ⟨(.e rfl), ⟨(.e rfl), ⟨(.e rfl), trivial⟩⟩⟩ rfl rfl⟩
      · clear j22_e
        refine ev_block ?_
        refine ev_seq ?_
        refine ev_region ?_
        refine rq rfl rfl (q_loadN rfl rfl rfl rfl) ?_
        refine rq rfl rfl (q_move rfl) ?_
        refine rq rfl rfl (q_move rfl) ?_
        refine rq rfl rfl (q_move rfl) ?_
        obtain ⟨x27, x27_h, H⟩ := bd_inv H
        refine rq rfl rfl (q_call rfl (.v _ _ (fun e => nomatch e)) (.v rfl (.v rfl (.v rfl (.v rfl ArgsOk.nil)))) inferInstance (backflushref18_lot_c  x27_h)) ?_
        refine rq rfl rfl (q_move rfl) ?_
        refine rq rfl rfl (q_extract rfl rfl) ?_
        refine rq rfl rfl (q_extract rfl rfl) ?_
        refine rq rfl rfl (q_extract rfl rfl) ?_
        refine re rfl (e_alloc 12 0 rfl rfl) ?_; rintro _ ⟨b28, rfl⟩
        refine re rfl (e_store rfl rfl rfl rfl rfl (Nat.le_of_ble_eq_true rfl) rfl) ?_; rintro _ rfl
        refine rq rfl rfl (q_assign rfl) ?_
        refine rq rfl rfl (q_assign rfl) ?_
        refine run_nil ?_
        refine ev_seq ?_
        refine ev_region ?_
        refine rq rfl rfl (q_move rfl) ?_
        refine rq rfl rfl (q_move rfl) ?_
        obtain ⟨w29, H⟩ := gdd_inv H
        refine re rfl (e_appt rfl rfl rfl (fun _ => ⟨rfl, rfl⟩) rfl rfl rfl w29 rfl) ?_; rintro _ ⟨q30, rfl⟩
        refine rq rfl rfl (q_assign rfl) ?_
        refine run_nil ?_
        refine ev_seq ?_
        refine ev_region ?_
        refine rq rfl rfl (q_move rfl) ?_
        refine run_nil ?_
        refine ev_cond rfl (fun hc => ?_) (fun hc => ?_)
        · replace H := ct hc H
          refine ev_region ?_
          refine rq rfl rfl (q_move rfl) ?_
          refine rq rfl rfl (q_loadN rfl rfl rfl rfl) ?_
          refine rq rfl rfl (q_buildSlice (z := 6) (xs := List.map GLot.e ([x27.1] : List GLot)) (fl := true) rfl rfl rfl rfl (by simp [V.plain, V.cells, GLot.e, vi, vb]) rfl) ?_
          obtain ⟨w31, H⟩ := gdd_inv H
          refine re rfl (e_appt rfl rfl rfl (fun _ => ⟨rfl, rfl⟩) rfl rfl rfl w31 rfl) ?_; rintro _ ⟨q32, rfl⟩
          refine rq rfl rfl (q_assign rfl) ?_
          refine run_nil ?_
          exact ⟨_, ⟨s7.1 ++ ([x27.1] : List GLot), s7.2 ++ x27.2.1, q32, q30, H, rfl⟩, shift_mk ⟨⟨_, rfl, (.flat rfl)⟩, ⟨⟨_, rfl, (.flat rfl)⟩, ⟨⟨_, rfl, .rfl⟩, ⟨⟨_, rfl, .rfl⟩, ⟨⟨_, rfl, .rfl⟩, ⟨⟨_, rfl, .rfl⟩, ⟨⟨_, rfl, .rfl⟩, ⟨⟨_, rfl, (.flat rfl)⟩, ⟨⟨_, rfl, (.flat rfl)⟩, trivial⟩⟩⟩⟩⟩⟩⟩⟩⟩ ⟨(.e rfl), ⟨(.e rfl), ⟨(.e rfl), trivial⟩⟩⟩ rfl rfl⟩
        · replace H := cf hc H
          refine ev_skip ?_
          exact ⟨_, ⟨s7.1, s7.2 ++ x27.2.1, q12, q30, H, rfl⟩, shift_mk ⟨⟨_, rfl, (.flat rfl)⟩, ⟨⟨_, rfl, (.flat rfl)⟩, ⟨⟨_, rfl, .rfl⟩, ⟨⟨_, rfl, .rfl⟩, ⟨⟨_, rfl, .rfl⟩, ⟨⟨_, rfl, .rfl⟩, ⟨⟨_, rfl, .rfl⟩, ⟨⟨_, rfl, (.flat rfl)⟩, ⟨⟨_, rfl, (.flat rfl)⟩, trivial⟩⟩⟩⟩⟩⟩⟩⟩⟩ ⟨(.e rfl), ⟨(.e rfl), ⟨(.e rfl), trivial⟩⟩⟩ rfl rfl⟩
    · replace H := forN_out hc w16 H
      refine ev_exit ?_
      refine ev_seq ?_
      refine ev_region ?_
      refine rq rfl rfl (q_move rfl) ?_
      refine rq rfl rfl (q_move rfl) ?_
      refine rq rfl rfl (q_assign rfl) ?_
      refine rq rfl rfl (q_assign rfl) ?_
      refine run_nil ?_
      refine ev_ret ?_
      exact ret_ok [V.l 6 (List.map GLot.e s7.1), V.l 5 (List.map GRead.e s7.2)] (congrArg (fun r : (List GLot) × (List GRead) => V.t [V.l 6 (List.map GLot.e r.1), V.l 5 (List.map GRead.e r.2)]) (Option.some.inj H)) rfl (.cons (.tmp rfl (.all rfl (List.length_map _) (els_plain fun _ => ⟨rfl, rfl⟩) (fun _ => rfl))) (.cons (.tmp rfl (.all rfl (List.length_map _) (els_plain fun _ => ⟨rfl, rfl⟩) (fun _ => rfl))) .nil))
end Bf
