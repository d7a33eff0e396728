import Derived.Test.YtedblpbpoekdlaaG5
import Derived.Test.YtedblpbpoekdlaaF27
namespace Bf
open Go Go.RowKit Go.Proofs
attribute [local irreducible] Quiet Eff RunS Ev PureC Shift RunQ RetQ RetR SeqQ
set_option linter.unusedVariables false
set_option maxRecDepth 4000
def slices_Clone_Fact_m (a0 : List GFact) : Option (List GFact) := gd (decide ((([] : List GFact).length + a0.length) * 65 ≤ 140737488355328)) <| some (([] : List GFact) ++ a0)
theorem slices_Clone_Fact_c {a0 : List GFact} {r : (List GFact)} (H : slices_Clone_Fact_m a0 = some r) : PureC Try.prog true 77 [V.l 8 (List.map GFact.e a0)] (V.l 8 (List.map GFact.e r)) := by
  unfold slices_Clone_Fact_m at H
  refine pure_intro (N := 8) Try.func77 rfl rfl rfl rfl fun C hO => ?_
  refine ev_seq ?_
  refine ev_region ?_
  refine rq rfl rfl (q_assign rfl) ?_
  refine run_nil ?_
  refine ev_seq ?_
  refine ev_seq ?_
  refine ev_region ?_
  refine rq rfl rfl (q_move rfl) ?_
  refine r_eqnil rfl rfl fun q1 q1_h => ?_
  refine run_nil ?_
  refine ev_cond rfl (fun hc => ?_) (fun hc => ?_)
  · replace q1_h := q1_h hc
    replace H : some [] = some r := by rw [q1_h] at H; simpa [gd, bd] using H
    refine ev_seq ?_
    refine ev_region ?_
    refine rq rfl rfl (q_assign rfl) ?_
    refine run_nil ?_
    refine ev_ret ?_
    exact ret_ok [V.l 8 (List.map GFact.e [])] (congrArg (fun r : (List GFact) => V.l 8 (List.map GFact.e r)) (Option.some.inj H)) rfl (.cons (.tmp rfl (.nil _ _)) .nil)
  · refine ev_skip ?_
    refine ev_seq ?_
    refine ev_region ?_
    refine re rfl (e_buildSlice 5 0 rfl rfl rfl rfl) ?_; rintro _ ⟨b2, rfl⟩
    refine rq rfl rfl (q_move rfl) ?_
    obtain ⟨w3, H⟩ := gdd_inv H
    refine run_shift (shift_wk (k := 5) (i := 0) rfl (els_flatw (E := GFact.e) (f := true) (f' := false) (xs := ([] : List GFact)) fun _ => rfl)) ?_
    refine re rfl (e_appt rfl rfl rfl (fun _ => ⟨rfl, rfl⟩) rfl rfl rfl w3 rfl) ?_; rintro _ ⟨q4, rfl⟩
    refine run_shift (shift_wk (k := 5) (i := 0) rfl (els_flatw (E := GFact.e) (f := false) (f' := true) (xs := ([] : List GFact) ++ a0) fun _ => rfl)) ?_
    refine rq rfl rfl (q_assign rfl) ?_
    refine run_nil ?_
    refine ev_ret ?_
    exact ret_ok [V.l 8 (List.map GFact.e (([] : List GFact) ++ a0))] (congrArg (fun r : (List GFact) => V.l 8 (List.map GFact.e r)) (Option.some.inj H)) rfl (.cons (.tmp rfl (.all rfl (List.length_map _) (els_plain fun _ => ⟨rfl, rfl⟩) (fun _ => rfl))) .nil)
theorem slices_Clone_Fact_o {a0 : List GFact} {f_a0 : Bool} {r : (List GFact)} (H : slices_Clone_Fact_m a0 = some r) : FnR Try.prog 77 [.v f_a0 (V.l 8 (List.map GFact.e a0))] [] (fun d es' => ∃ (q : Pl), d = .o 200077 0 q 8 0 r.length ∧ es' = [.e 200077 0 q (.row 120 (els true (List.map GFact.e r)))]) := by
  unfold slices_Clone_Fact_m at H
  refine fnr_intro (N := 8) Try.func77 rfl rfl rfl rfl fun C => ?_
  refine ev_shift (shift_mk (fs := [(0, .v false (V.l 8 (List.map GFact.e a0)))]) (es := []) ⟨⟨_, rfl, .old⟩, trivial⟩ trivial rfl rfl) ?_
  refine ev_seq ?_
  refine ev_region ?_
  refine rq rfl rfl (q_assign rfl) ?_
  refine run_nil ?_
  refine ev_seq ?_
  refine ev_seq ?_
  refine ev_region ?_
  refine rq rfl rfl (q_move rfl) ?_
  refine r_eqnil rfl rfl fun q1 q1_h => ?_
  refine run_nil ?_
  refine ev_cond rfl (fun hc => ?_) (fun hc => ?_)
  · replace q1_h := q1_h hc
    replace H : some ([] : List GFact) = some r := by rw [q1_h] at H; simpa [gd, bd] using H
    refine ev_seq ?_
    refine ev_region ?_
    refine rq rfl rfl (q_assign rfl) ?_
    refine run_nil ?_
    refine ev_ret ?_
    have hr := Option.some.inj H
    exact retR [.o 200077 0 none 8 0 (([] : List GFact)).length] [.e 200077 0 none (.row 120 (els true (List.map GFact.e ([] : List GFact))))] rfl (.cons (.tmp rfl .nilo) .nil) ⟨none, by cases hr; rfl, by cases hr; rfl⟩ ⟨(.nn rfl), trivial⟩
  · refine ev_skip ?_
    refine ev_seq ?_
    refine ev_region ?_
    refine re rfl (e_buildSlice 200077 0 rfl rfl rfl rfl) ?_; rintro _ ⟨b2, rfl⟩
    refine rq rfl rfl (q_move rfl) ?_
    obtain ⟨w3, H⟩ := gdd_inv H
    refine run_shift (shift_wk (k := 200077) (i := 0) rfl (els_flatw (E := GFact.e) (f := true) (f' := false) (xs := ([] : List GFact)) fun _ => rfl)) ?_
    refine re rfl (e_appt rfl rfl rfl (fun _ => ⟨rfl, rfl⟩) rfl rfl rfl w3 rfl) ?_; rintro _ ⟨q4, rfl⟩
    refine run_shift (shift_wk (k := 200077) (i := 0) rfl (els_flatw (E := GFact.e) (f := false) (f' := true) (xs := ([] : List GFact) ++ a0) fun _ => rfl)) ?_
    refine rq rfl rfl (q_assign rfl) ?_
    refine run_nil ?_
    refine ev_ret ?_
    have hr := Option.some.inj H
    exact retR [.o 200077 0 q4 8 0 (([] : List GFact) ++ a0).length] [.e 200077 0 q4 (.row 120 (els true (List.map GFact.e (([] : List GFact) ++ a0))))] rfl (.cons (.tmp rfl .rfl) .nil) ⟨q4, by cases hr; rfl, by cases hr; rfl⟩ ⟨(.e rfl), trivial⟩
def facts_Upto_1_m (a0 : GFact) (a1 : Int) : Option Bool := some (decide (a1 < a0.known))
theorem facts_Upto_1_c {a0 : GFact} {a1 : Int} {r : Bool} (H : facts_Upto_1_m a0 a1 = some r) : PureC Try.prog true 78 [GFact.e a0, .q (V.cells (vi a1))] (vb r) := by
  unfold facts_Upto_1_m at H
  refine pure_intro (N := 8) Try.func78 rfl rfl rfl rfl fun C hO => ?_
  refine ev_shift (shift_mk (fs := [(0, .v true (GFact.e a0)), (1, .v false (.q (V.cells (vi a1))))]) (es := []) ⟨⟨_, rfl, (.flat rfl)⟩, ⟨⟨_, rfl, .rfl⟩, trivial⟩⟩ trivial rfl rfl) ?_
  refine ev_seq ?_
  refine ev_region ?_
  refine re rfl (e_box 2 0 rfl rfl rfl) ?_; rintro _ ⟨b1, rfl⟩
  refine rq rfl rfl (q_assign rfl) ?_
  refine run_nil ?_
  refine ev_seq ?_
  refine ev_region ?_
  refine rq rfl rfl (q_fld_p rfl) ?_
  refine rq rfl rfl (q_load1 rfl rfl rfl) ?_
  refine rq rfl rfl (q_load1_q rfl) ?_
  refine rq rfl rfl (q_gtr rfl rfl) ?_
  refine rq rfl rfl (q_assign rfl) ?_
  refine run_nil ?_
  refine ev_ret ?_
  exact ret_ok [vb (decide (a1 < a0.known))] (congrArg (fun r : Bool => vb r) (Option.some.inj H)) rfl (.cons (.tmp rfl (.v _ _ (fun _ => rfl))) .nil)
end Bf
