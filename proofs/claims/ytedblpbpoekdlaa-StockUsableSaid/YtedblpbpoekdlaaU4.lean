import Derived.Test.YtedblpbpoekdlaaU3
import Derived.Test.YtedblpbpoekdlaaF29
namespace Bf
open Go Go.RowKit Go.Proofs
attribute [local irreducible] Quiet Eff RunS Ev PureC Shift RunQ RetQ RetR SeqQ
set_option linter.unusedVariables false
set_option maxRecDepth 4000
def GPoint.eqb (x y : GPoint) : Bool := (x.day == y.day && (x.value == y.value && true))
def slices_Clone_Fact_m (a0 : List GFact) : Option (List GFact) := gd (decide ((([] : List GFact).length + a0.length) * 65 ≤ 140737488355328)) <| some (([] : List GFact) ++ a0)
theorem slices_Clone_Fact_c {a0 : List GFact} {r : (List GFact)} (H : slices_Clone_Fact_m a0 = some r) : PureC Try.prog true 77 [V.l 8 (List.map GFact.e a0)] (V.l 8 (List.map GFact.e r)) := by
  unfold slices_Clone_Fact_m at H
  refine pure_intro (N := 8) Try.func77 rfl rfl rfl rfl fun C hO => ?_
  refine ev_seq ?_
  refine ev_region ?_
  refine rq rfl rfl (q_assign rfl) ?_
  refine run_nil ?_
  refine ev_seq ?_
  refine ev_seq ?_
  refine ev_region ?_
  refine rq rfl rfl (q_move rfl) ?_
  refine r_eqnil rfl rfl fun q1 q1_h => ?_
  refine run_nil ?_
  refine ev_cond rfl (fun hc => ?_) (fun hc => ?_)
  · replace q1_h := q1_h hc
    replace H : some [] = some r := by rw [q1_h] at H; simpa [gd, bd] using H
    refine ev_seq ?_
    refine ev_region ?_
    refine rq rfl rfl (q_assign rfl) ?_
    refine run_nil ?_
    refine ev_ret ?_
    exact ret_ok [V.l 8 (List.map GFact.e [])] (congrArg (fun r : (List GFact) => V.l 8 (List.map GFact.e r)) (Option.some.inj H)) rfl (.cons (.tmp rfl (.nil _ _)) .nil)
  · refine ev_skip ?_
    refine ev_seq ?_
    refine ev_region ?_
    refine re rfl (e_buildSlice 5 0 rfl rfl rfl rfl) ?_; rintro _ ⟨b2, rfl⟩
    refine rq rfl rfl (q_move rfl) ?_
    obtain ⟨w3, H⟩ := gdd_inv H
    refine re rfl (e_appt_f (f1 := true) rfl rfl rfl (fun _ => ⟨rfl, rfl⟩) (fun _ => rfl) rfl rfl rfl w3 rfl) ?_; rintro _ ⟨q4, rfl⟩
    refine rq rfl rfl (q_assign rfl) ?_
    refine run_nil ?_
    refine ev_ret ?_
    exact ret_ok [V.l 8 (List.map GFact.e (([] : List GFact) ++ a0))] (congrArg (fun r : (List GFact) => V.l 8 (List.map GFact.e r)) (Option.some.inj H)) rfl (.cons (.tmp rfl (.all rfl (List.length_map _) (els_plain fun _ => ⟨rfl, rfl⟩) (fun _ => rfl))) .nil)
theorem slices_Clone_Fact_o {a0 : List GFact} {f_a0 : Bool} {r : (List GFact)} (H : slices_Clone_Fact_m a0 = some r) : FnR Try.prog 77 [.v f_a0 (V.l 8 (List.map GFact.e a0))] [] (fun d es' => ∃ (q : Pl), d = .o 200077 0 q 8 0 r.length ∧ es' = [.e 200077 0 q (.row 120 (els true (List.map GFact.e r)))]) := by
  unfold slices_Clone_Fact_m at H
  refine fnr_intro (N := 8) Try.func77 rfl rfl rfl rfl fun C => ?_
  refine ev_shift (shift_mk (fs := [(0, .v false (V.l 8 (List.map GFact.e a0)))]) (es := []) ⟨⟨_, rfl, .old⟩, trivial⟩ trivial rfl rfl) ?_
  refine ev_seq ?_
  refine ev_region ?_
  refine rq rfl rfl (q_assign rfl) ?_
  refine run_nil ?_
  refine ev_seq ?_
  refine ev_seq ?_
  refine ev_region ?_
  refine rq rfl rfl (q_move rfl) ?_
  refine r_eqnil rfl rfl fun q1 q1_h => ?_
  refine run_nil ?_
  refine ev_cond rfl (fun hc => ?_) (fun hc => ?_)
  · replace q1_h := q1_h hc
    replace H : some ([] : List GFact) = some r := by rw [q1_h] at H; simpa [gd, bd] using H
    refine ev_seq ?_
    refine ev_region ?_
    refine rq rfl rfl (q_assign rfl) ?_
    refine run_nil ?_
    refine ev_ret ?_
    have hr := Option.some.inj H
    exact retR [.o 200077 0 none 8 0 (([] : List GFact)).length] [.e 200077 0 none (.row 120 (els true (List.map GFact.e ([] : List GFact))))] rfl (.cons (.tmp rfl .nilo) .nil) ⟨none, by cases hr; rfl, by cases hr; rfl⟩ ⟨(.nn rfl), trivial⟩
  · refine ev_skip ?_
    refine ev_seq ?_
    refine ev_region ?_
    refine re rfl (e_buildSlice 200077 0 rfl rfl rfl rfl) ?_; rintro _ ⟨b2, rfl⟩
    refine rq rfl rfl (q_move rfl) ?_
    obtain ⟨w3, H⟩ := gdd_inv H
    refine re rfl (e_appt_f (f1 := true) rfl rfl rfl (fun _ => ⟨rfl, rfl⟩) (fun _ => rfl) rfl rfl rfl w3 rfl) ?_; rintro _ ⟨q4, rfl⟩
    refine rq rfl rfl (q_assign rfl) ?_
    refine run_nil ?_
    refine ev_ret ?_
    have hr := Option.some.inj H
    exact retR [.o 200077 0 q4 8 0 (([] : List GFact) ++ a0).length] [.e 200077 0 q4 (.row 120 (els true (List.map GFact.e (([] : List GFact) ++ a0))))] rfl (.cons (.tmp rfl .rfl) .nil) ⟨q4, by cases hr; rfl, by cases hr; rfl⟩ ⟨(.e rfl), trivial⟩
def facts_Upto_1_m (a0 : GFact) (a1 : Int) : Option Bool := some (decide (a1 < a0.known))
theorem facts_Upto_1_c {a0 : GFact} {a1 : Int} {r : Bool} (H : facts_Upto_1_m a0 a1 = some r) : PureC Try.prog true 78 [GFact.e a0, .q (V.cells (vi a1))] (vb r) := by
  unfold facts_Upto_1_m at H
  refine pure_intro (N := 8) Try.func78 rfl rfl rfl rfl fun C hO => ?_
  refine ev_shift (shift_mk (fs := [(0, .v true (GFact.e a0)), (1, .v false (.q (V.cells (vi a1))))]) (es := []) ⟨⟨_, rfl, (.flat rfl)⟩, ⟨⟨_, rfl, .rfl⟩, trivial⟩⟩ trivial rfl rfl) ?_
  refine ev_seq ?_
  refine ev_region ?_
  refine re rfl (e_box 2 0 rfl rfl rfl) ?_; rintro _ ⟨b1, rfl⟩
  refine rq rfl rfl (q_assign rfl) ?_
  refine run_nil ?_
  refine ev_seq ?_
  refine ev_region ?_
  refine rq rfl rfl (q_fld_p rfl) ?_
  refine rq rfl rfl (q_load1 rfl rfl rfl) ?_
  refine rq rfl rfl (q_load1_q rfl) ?_
  refine rq rfl rfl (q_gtr rfl rfl) ?_
  refine rq rfl rfl (q_assign rfl) ?_
  refine run_nil ?_
  refine ev_ret ?_
  exact ret_ok [vb (decide (a1 < a0.known))] (congrArg (fun r : Bool => vb r) (Option.some.inj H)) rfl (.cons (.tmp rfl (.v _ _ (fun _ => rfl))) .nil)
def slices_DeleteFunc_Fact_m (a0 : List GFact) (a1 : GFact → Option Bool) : Option ((List GFact) × (List GFact)) := bd (slices_IndexFunc_Fact_m a0 a1) fun x1 => bif x1 == (-1) then (some (a0, a0)) else (iter (fun (s2 : Int × Int × (List GFact)) loop3 => bif decide (s2.2.1 < ((s2.2.2.length : Nat) : Int)) then (jn (fun (p8 : Int) (p9 : List GFact) => loop3 (p8, wr (s2.2.1 + 1), p9)) fun j7 => bd (idx s2.2.2 s2.2.1) fun x10 => bd (a1 x10) fun x12 => bif !x12 then (bd (idx s2.2.2 s2.1) fun x13 => j7 (wr (s2.1 + 1)) ((s2.2.2).set (s2.1).toNat x10)) else (j7 s2.1 s2.2.2)) else (gd (decide (0 ≤ s2.1)) <| gd (decide (s2.1.toNat < s2.2.2.length)) <| gd (decide (0 ≤ s2.1)) <| gd (decide (s2.1.toNat ≤ (clr (⟨(⟨0, 0, 0⟩ : GKey), 0, (⟨0, 0⟩ : GSpan), 0, 0⟩ : GFact) s2.1.toNat s2.2.2).length)) <| some ((clr (⟨(⟨0, 0, 0⟩ : GKey), 0, (⟨0, 0⟩ : GSpan), 0, 0⟩ : GFact) s2.1.toNat s2.2.2).take (s2.1.toNat), clr (⟨(⟨0, 0, 0⟩ : GKey), 0, (⟨0, 0⟩ : GSpan), 0, 0⟩ : GFact) s2.1.toNat s2.2.2))) 1048576 (x1, wr (x1 + 1), a0))
theorem slices_DeleteFunc_Fact_c {a0 : List GFact} {q_a0 : Pl} {a1_g : Nat} {a1_k : List V} {a1 : GFact → Option Bool} [TFn Try.prog a1_g] (a1_h : ∀ y0 r, a1 y0 = some r → PureC Try.prog true a1_g ([GFact.e y0] ++ a1_k) (vb r)) {f_a1 : Bool} {r : (List GFact) × (List GFact)} (H : slices_DeleteFunc_Fact_m a0 a1 = some r) : FnR Try.prog 76 [.o 8000 0 q_a0 8 0 a0.length, .v f_a1 (.c a1_g a1_k)] [.e 8000 0 q_a0 (.row 120 (els true (List.map GFact.e a0)))] (fun d es' => d = .o 8000 0 q_a0 8 0 r.1.length ∧ es' = [.e 8000 0 q_a0 (.row 120 (els true (List.map GFact.e r.2)))]) := by
  unfold slices_DeleteFunc_Fact_m at H
  refine fnr_intro (N := 42) Try.func76 rfl rfl rfl rfl fun C => ?_
  refine ev_shift (shift_mk (fs := [(0, .o 8000 0 q_a0 8 0 a0.length), (1, .v false (.c a1_g a1_k))]) (es := [.e 8000 0 q_a0 (.row 120 (els true (List.map GFact.e a0)))]) ⟨⟨_, rfl, .rfl⟩, ⟨⟨_, rfl, .old⟩, trivial⟩⟩ ⟨(.e rfl), trivial⟩ rfl rfl) ?_
  refine ev_seq ?_
  refine ev_region ?_
  refine rq rfl rfl (q_assign rfl) ?_
  refine run_nil ?_
  refine ev_seq ?_
  refine ev_region ?_
  refine rq rfl rfl (q_move rfl) ?_
  refine rq rfl rfl (q_move rfl) ?_
  obtain ⟨x1, x1_h, H⟩ := bd_inv H
  refine rq rfl rfl (q_call rfl (.v _ _ (fun e => nomatch e)) (.cons rfl (.all rfl (List.length_map _) (els_plain fun _ => ⟨rfl, rfl⟩) (fun e => nomatch e)) (.v rfl ArgsOk.nil)) inferInstance (slices_IndexFunc_Fact_c (a1_h := a1_h) x1_h)) ?_
  refine rq rfl rfl (q_assign rfl) ?_
  refine run_nil ?_
  refine ev_seq ?_
  refine ev_seq ?_
  refine ev_region ?_
  refine rq rfl rfl (q_move rfl) ?_
  refine rq rfl rfl (q_eqi rfl rfl) ?_
  refine run_nil ?_
  refine ev_cond rfl (fun hc => ?_) (fun hc => ?_)
  · replace H := ct hc H
    refine ev_seq ?_
    refine ev_region ?_
    refine rq rfl rfl (q_move rfl) ?_
    refine rq rfl rfl (q_assign rfl) ?_
    refine run_nil ?_
    refine ev_ret ?_
    have hr := Option.some.inj H
    exact retR [.o 8000 0 q_a0 8 0 (a0).length] [.e 8000 0 q_a0 (.row 120 (els true (List.map GFact.e a0)))] rfl (.cons (.tmp rfl .rfl) .nil) ⟨by cases hr; rfl, by cases hr; rfl⟩ ⟨(.e rfl), trivial⟩
  · replace H := cf hc H
    refine ev_skip ?_
    refine ev_seq ?_
    refine ev_seq ?_
    refine ev_region ?_
    refine rq rfl rfl (q_move rfl) ?_
    refine rq rfl rfl (q_add rfl rfl) ?_
    refine rq rfl rfl (q_assign rfl) ?_
    refine run_nil ?_
    refine ev_block ?_
    refine ev_iter H (fun s2 σ' => σ' = mkS [(0, .o 8000 0 q_a0 8 0 s2.2.2.length), (1, .v false (.c a1_g a1_k)), (4, .v true (.raw (.slice none 0 0))), (5, .v true (vi s2.1)), (6, .v true (vi s2.2.1))] [.e 8000 0 q_a0 (.row 120 (els true (List.map GFact.e s2.2.2)))] [] (0, false)) ⟨_, rfl, shift_mk ⟨⟨_, rfl, .rfl⟩, ⟨⟨_, rfl, .rfl⟩, ⟨⟨_, rfl, .rfl⟩, ⟨⟨_, rfl, (.flat rfl)⟩, ⟨⟨_, rfl, (.flat rfl)⟩, trivial⟩⟩⟩⟩⟩ ⟨(.e rfl), trivial⟩ rfl rfl⟩ ?_
    rintro n20 s2 _ rfl H
    refine ev_seq ?_
    refine ev_seq ?_
    refine ev_region ?_
    refine rq rfl rfl (q_move rfl) ?_
    refine rq rfl rfl (q_move rfl) ?_
    refine rq rfl rfl (q_len_o rfl) ?_
    refine rq rfl rfl (q_lss rfl rfl) ?_
    refine run_nil ?_
    refine ev_cond rfl (fun hc => ?_) (fun hc => ?_)
    · replace H := ct hc H
      refine ev_skip ?_
      obtain ⟨j7, j7_e, H⟩ := jn_inv H
      refine ev_join (fun σ' => ∃ (p8 : Int) (p9 : List GFact), j7 p8 p9 = some r ∧ σ' = mkS [(0, .o 8000 0 q_a0 8 0 p9.length), (1, .v false (.c a1_g a1_k)), (4, .v true (.raw (.slice none 0 0))), (5, .v true (vi p8)), (6, .v true (vi s2.2.1))] [.e 8000 0 q_a0 (.row 120 (els true (List.map GFact.e p9)))] [] (0, false)) ?_ ?_
      · rintro _ ⟨p8, p9, H, rfl⟩
        subst j7_e
        refine ev_region ?_
        refine rq rfl rfl (q_move rfl) ?_
        refine rq rfl rfl (q_add rfl rfl) ?_
        refine rq rfl rfl (q_assign rfl) ?_
        refine run_nil ?_
        exact ⟨_, _, H, rfl, shift_mk ⟨⟨_, rfl, .rfl⟩, ⟨⟨_, rfl, .rfl⟩, ⟨⟨_, rfl, .rfl⟩, ⟨⟨_, rfl, (.flat rfl)⟩, ⟨⟨_, rfl, (.flat rfl)⟩, trivial⟩⟩⟩⟩⟩ ⟨(.e rfl), trivial⟩ rfl rfl⟩
      · clear j7_e
        refine ev_block ?_
        refine ev_seq ?_
        refine ev_region ?_
        refine rq rfl rfl (q_move rfl) ?_
        refine rq rfl rfl (q_move rfl) ?_
        obtain ⟨x10, x10_h, H⟩ := bd_inv H
        refine rq rfl rfl (q_idx_pl rfl rfl (idx_inv x10_h).1 (idx_inv x10_h).2.2.2) ?_
        refine rq rfl rfl (q_load_eep (E := GFact.e) (z := 8) (fun _ => ⟨rfl, rfl⟩) rfl rfl rfl (idx_inv x10_h).2.1) ?_
        refine re rfl (e_alloc 7 0 rfl rfl) ?_; rintro _ ⟨b11, rfl⟩
        refine re rfl (e_store rfl rfl rfl rfl rfl (Nat.le_of_ble_eq_true rfl) rfl) ?_; rintro _ rfl
        refine run_nil ?_
        refine ev_seq ?_
        refine ev_region ?_
        refine rq rfl rfl (q_move rfl) ?_
        refine rq rfl rfl (q_loadN rfl rfl rfl rfl) ?_
        obtain ⟨x12, x12_h, H⟩ := bd_inv H
        refine rq rfl rfl (q_call rfl (.v _ _ (fun e => nomatch e)) (.v rfl ArgsOk.nil) inferInstance (a1_h _ _ x12_h)) ?_
        refine rq rfl rfl (q_not rfl) ?_
        refine run_nil ?_
        refine ev_cond rfl (fun hc => ?_) (fun hc => ?_)
        · replace H := ct hc H
          refine ev_seq ?_
          refine ev_region ?_
          refine rq rfl rfl (q_move rfl) ?_
          refine rq rfl rfl (q_move rfl) ?_
          refine rq rfl rfl (q_loadN rfl rfl rfl rfl) ?_
          obtain ⟨x13, x13_h, H⟩ := bd_inv H
          refine rq rfl rfl (q_idx_pl rfl rfl (idx_inv x13_h).1 (idx_inv x13_h).2.2.2) ?_
          refine re rfl (e_store_eep (E := GFact.e) (z := 8) rfl rfl rfl (fun _ => ⟨rfl, rfl⟩) (idx_inv x13_h).2.2.1 rfl rfl) ?_; rintro _ rfl
          refine run_nil ?_
          refine ev_region ?_
          refine rq rfl rfl (q_move rfl) ?_
          refine rq rfl rfl (q_add rfl rfl) ?_
          refine rq rfl rfl (q_assign rfl) ?_
          refine run_nil ?_
          exact ⟨_, ⟨wr (s2.1 + 1), (s2.2.2).set (s2.1).toNat x10, H, rfl⟩, shift_mk ⟨⟨_, rfl, (.eq (by simp))⟩, ⟨⟨_, rfl, .rfl⟩, ⟨⟨_, rfl, .rfl⟩, ⟨⟨_, rfl, (.flat rfl)⟩, ⟨⟨_, rfl, (.flat rfl)⟩, trivial⟩⟩⟩⟩⟩ ⟨(.e rfl), trivial⟩ rfl rfl⟩
        · replace H := cf hc H
          refine ev_skip ?_
          exact ⟨_, ⟨s2.1, s2.2.2, H, rfl⟩, shift_mk ⟨⟨_, rfl, .rfl⟩, ⟨⟨_, rfl, .rfl⟩, ⟨⟨_, rfl, .rfl⟩, ⟨⟨_, rfl, (.flat rfl)⟩, ⟨⟨_, rfl, (.flat rfl)⟩, trivial⟩⟩⟩⟩⟩ ⟨(.e rfl), trivial⟩ rfl rfl⟩
    · replace H := cf hc H
      refine ev_exit ?_
      refine ev_seq ?_
      refine ev_region ?_
      refine rq rfl rfl (q_move rfl) ?_
      refine rq rfl rfl (q_move rfl) ?_
      obtain ⟨w14, H⟩ := gdd_inv H
      obtain ⟨w15, H⟩ := gdd_inv H
      refine run_os (s := 0) rfl (Nat.lt_of_le_of_lt (Nat.zero_le _) w15) ?_; rintro b16 n17 rfl
      refine rq rfl rfl (q_slice_o rfl (.some rfl w14) .none (Nat.le_of_lt w15) (Nat.le_refl _) (fun _ => .inr w15)) ?_
      refine re rfl (e_clear (E := GFact.e) (x0 := (⟨(⟨0, 0, 0⟩ : GKey), 0, (⟨0, 0⟩ : GSpan), 0, 0⟩ : GFact)) (xs := s2.2.2) rfl rfl (fun _ => ⟨rfl, rfl⟩) (by simp) (by simpa using w15) rfl rfl rfl rfl) ?_; rintro _ rfl
      refine run_nil ?_
      refine ev_seq ?_
      refine ev_shift (shift_as (s := 0) (d' := .o 8000 0 (some (b16, n17)) 8 0 ((clr (⟨(⟨0, 0, 0⟩ : GKey), 0, (⟨0, 0⟩ : GSpan), 0, 0⟩ : GFact) s2.1.toNat s2.2.2).length)) rfl (by first | (simp; done) | (simp; rfl))) ?_
      refine ev_region ?_
      refine rq rfl rfl (q_move rfl) ?_
      refine rq rfl rfl (q_move rfl) ?_
      obtain ⟨w18, H⟩ := gdd_inv H
      obtain ⟨w19, H⟩ := gdd_inv H
      refine rq rfl rfl (q_slice_o rfl .none (.some rfl w18) (Nat.zero_le _) w19 (fun _ => .inl (Nat.zero_mul _))) ?_
      refine rq rfl rfl (q_assign rfl) ?_
      refine run_nil ?_
      refine ev_ret ?_
      have hr := Option.some.inj H
      exact retR [.o 8000 0 (some (b16, n17)) 8 0 ((clr (⟨(⟨0, 0, 0⟩ : GKey), 0, (⟨0, 0⟩ : GSpan), 0, 0⟩ : GFact) s2.1.toNat s2.2.2).take (s2.1.toNat)).length] [.e 8000 0 (some (b16, n17)) (.row 120 (els true (List.map GFact.e (clr (⟨(⟨0, 0, 0⟩ : GKey), 0, (⟨0, 0⟩ : GSpan), 0, 0⟩ : GFact) s2.1.toNat s2.2.2))))] rfl (.cons (.tmp rfl (.eq (by rw [List.length_take, Nat.min_eq_left (by simpa using w19)]; rfl))) .nil) ⟨by cases hr; rfl, by cases hr; rfl⟩ ⟨(.e rfl), trivial⟩
def facts_Upto_m (a0 : List GFact) (a1 : Int) : Option (List GFact) := bd (slices_Clone_Fact_m a0) fun x2 => bd (slices_DeleteFunc_Fact_m x2 (fun y0 => facts_Upto_1_m y0 a1)) fun x4 => gd (decide (x4.2.length = x2.length)) <| gd (decide (x4.1 = x4.2.take x4.1.length)) <| some x4.1
theorem facts_Upto_c {a0 : List GFact} {a1 : Int} {r : (List GFact)} (H : facts_Upto_m a0 a1 = some r) : PureC Try.prog true 41 [V.l 8 (List.map GFact.e a0), vi a1] (V.l 8 (List.map GFact.e r)) := by
  unfold facts_Upto_m at H
  refine pure_intro (N := 9) Try.func41 rfl rfl rfl rfl fun C hO => ?_
  refine ev_shift (shift_mk (fs := [(0, .v false (V.l 8 (List.map GFact.e a0))), (1, .v true (vi a1))]) (es := []) ⟨⟨_, rfl, .rfl⟩, ⟨⟨_, rfl, (.flat rfl)⟩, trivial⟩⟩ trivial rfl rfl) ?_
  refine ev_seq ?_
  refine ev_region ?_
  refine re rfl (e_box 3 0 rfl rfl rfl) ?_; rintro _ ⟨b1, rfl⟩
  refine rq rfl rfl (q_assign rfl) ?_
  refine run_nil ?_
  refine ev_seq ?_
  refine ev_shift (shift_frzb (f := true) 3 (V.cells (vi a1)) rfl rfl (.cons (.flat rfl) .nil)) ?_
  refine ev_region ?_
  refine rq rfl rfl (q_move rfl) ?_
  obtain ⟨x2, x2_h, H⟩ := bd_inv H
  refine re rfl (e_callR [200077] rfl (.v _ _ []) rfl inferInstance (slices_Clone_Fact_o x2_h) trivial rfl rfl) ?_; rintro _ ⟨_, _, ⟨q3, rfl, rfl⟩, rfl⟩
  refine run_shift (shift_name 200077 0 6 0 rfl) ?_
  refine run_shift (shift_wkd (s := 6) (d' := .o 6 0 q3 8 0 x2.length) rfl .olab) ?_
  refine rq rfl rfl (q_func (.v rfl CapsOk.nil)) ?_
  obtain ⟨x4, x4_h, H⟩ := bd_inv H
  obtain ⟨w5, H⟩ := gdd_inv H
  obtain ⟨w6, H⟩ := gdd_inv H
  refine run_shift (shift_name 6 0 8000 0 rfl) ?_
  refine run_shift (shift_wkd (s := 6) (d' := .o 8000 0 q3 8 0 x2.length) rfl .olab) ?_
  refine re rfl (e_callR [8000] rfl (.v _ _ []) rfl inferInstance (slices_DeleteFunc_Fact_c (a1_h := fun _ _ h => facts_Upto_1_c h) x4_h) ⟨(.e rfl), trivial⟩ rfl rfl) ?_; rintro _ ⟨_, _, ⟨rfl, rfl⟩, rfl⟩
  refine run_shift (shift_frzp (ys := x4.1) (xs := x4.2) 8 rfl rfl (fun _ => ⟨rfl, rfl⟩) w6) ?_
  refine rq rfl rfl (q_assign rfl) ?_
  refine run_nil ?_
  refine ev_ret ?_
  exact ret_ok [V.l 8 (List.map GFact.e x4.1)] (congrArg (fun r : (List GFact) => V.l 8 (List.map GFact.e r)) (Option.some.inj H)) rfl (.cons (.tmp rfl (.v _ _ (fun _ => rfl))) .nil)
def backflushlaw18_StockPast_m (a0 : GWorld) (a1 : GLine) (a2 : Int) (a3 : Int) : Option Bool := bd (backflushlaw18_sane_m) fun x3 => bif !x3 then (some false) else (bd (backflushref18_Few_m a0) fun x4 => bif !x4 then (some true) else (bd (facts_Upto_m a0.facts a3) fun x6 => bd (stock_Lots_m a0 a2 a3) fun x7 => bd (stock_Lots_m (⟨a0.tables, x6⟩ : GWorld) a2 a3) fun x8 => bd (stock_Usable_m a0 a1 a2 a3) fun x9 => bd (stock_Usable_m (⟨a0.tables, x6⟩ : GWorld) a1 a2 a3) fun x10 => bd (backflushref18_Same_m x7.1 x8.1) fun x11 => bdc x11 (backflushref04_SameReads_m x7.2 x8.2) fun x12 => bdc (bif x11 then x12 else false) (backflushref18_Same_m x9.1 x10.1) fun x13 => bdc (bif bif x11 then x12 else false then x13 else false) (backflushref04_SameReads_m x9.2 x10.2) fun x14 => some (bif bif bif x11 then x12 else false then x13 else false then x14 else false)))
theorem backflushlaw18_StockPast_c {a0 : GWorld} {a1 : GLine} {a2 : Int} {a3 : Int} {r : Bool} (H : backflushlaw18_StockPast_m a0 a1 a2 a3 = some r) : PureC Try.prog true 14 [GWorld.e a0, GLine.e a1, vi a2, vi a3] (vb r) := by
  unfold backflushlaw18_StockPast_m at H
  refine pure_intro (N := 77) Try.func14 rfl rfl rfl rfl fun C hO => ?_
  refine ev_shift (shift_mk (fs := [(0, .v false (GWorld.e a0)), (1, .v true (GLine.e a1)), (2, .v true (vi a2)), (3, .v true (vi a3))]) (es := []) ⟨⟨_, rfl, .rfl⟩, ⟨⟨_, rfl, (.flat rfl)⟩, ⟨⟨_, rfl, (.flat rfl)⟩, ⟨⟨_, rfl, (.flat rfl)⟩, trivial⟩⟩⟩⟩ trivial rfl rfl) ?_
  refine ev_seq ?_
  refine ev_region ?_
  refine re rfl (e_box 4 0 rfl rfl rfl) ?_; rintro _ ⟨b1, rfl⟩
  refine re rfl (e_box 5 0 rfl rfl rfl) ?_; rintro _ ⟨b2, rfl⟩
  refine rq rfl rfl (q_assign rfl) ?_
  refine run_nil ?_
  refine ev_seq ?_
  refine ev_seq ?_
  refine ev_region ?_
  obtain ⟨x3, x3_h, H⟩ := bd_inv H
  refine rq rfl rfl (q_call rfl (.v _ _ (fun e => nomatch e)) ArgsOk.nil inferInstance (backflushlaw18_sane_c  x3_h)) ?_
  refine rq rfl rfl (q_not rfl) ?_
  refine run_nil ?_
  refine ev_cond rfl (fun hc => ?_) (fun hc => ?_)
  · replace H := ct hc H
    refine ev_seq ?_
    refine ev_region ?_
    refine rq rfl rfl (q_assign rfl) ?_
    refine run_nil ?_
    refine ev_ret ?_
    exact ret_ok [vb false] (congrArg (fun r : Bool => vb r) (Option.some.inj H)) rfl (.cons (.tmp rfl (.v _ _ (fun _ => rfl))) .nil)
  · replace H := cf hc H
    refine ev_skip ?_
    refine ev_seq ?_
    refine ev_seq ?_
    refine ev_region ?_
    refine rq rfl rfl (q_loadN rfl rfl rfl rfl) ?_
    obtain ⟨x4, x4_h, H⟩ := bd_inv H
    refine rq rfl rfl (q_call rfl (.v _ _ (fun e => nomatch e)) (.v rfl ArgsOk.nil) inferInstance (backflushref18_Few_c  x4_h)) ?_
    refine rq rfl rfl (q_not rfl) ?_
    refine run_nil ?_
    refine ev_cond rfl (fun hc => ?_) (fun hc => ?_)
    · replace H := ct hc H
      refine ev_seq ?_
      refine ev_region ?_
      refine rq rfl rfl (q_assign rfl) ?_
      refine run_nil ?_
      refine ev_ret ?_
      exact ret_ok [vb true] (congrArg (fun r : Bool => vb r) (Option.some.inj H)) rfl (.cons (.tmp rfl (.v _ _ (fun _ => rfl))) .nil)
    · replace H := cf hc H
      refine ev_skip ?_
      refine ev_seq ?_
      refine ev_region ?_
      refine rq rfl rfl (q_loadN rfl rfl rfl rfl) ?_
      refine re rfl (e_alloc 9 0 rfl rfl) ?_; rintro _ ⟨b5, rfl⟩
      refine re rfl (e_store rfl rfl rfl rfl rfl (Nat.le_of_ble_eq_true rfl) rfl) ?_; rintro _ rfl
      refine run_nil ?_
      refine ev_seq ?_
      refine ev_region ?_
      refine rq rfl rfl (q_fld_p rfl) ?_
      refine rq rfl rfl (q_load1 rfl rfl rfl) ?_
      refine rq rfl rfl (q_move rfl) ?_
      obtain ⟨x6, x6_h, H⟩ := bd_inv H
      refine rq rfl rfl (q_call rfl (.v _ _ (fun e => nomatch e)) (.v rfl (.v rfl ArgsOk.nil)) inferInstance (facts_Upto_c  x6_h)) ?_
      refine rq rfl rfl (q_fld_p rfl) ?_
      refine re rfl (e_store1 rfl rfl rfl rfl rfl (Nat.le_of_ble_eq_true rfl) rfl) ?_; rintro _ rfl
      refine run_nil ?_
      refine ev_seq ?_
      refine ev_region ?_
      refine rq rfl rfl (q_loadN rfl rfl rfl rfl) ?_
      refine rq rfl rfl (q_move rfl) ?_
      refine rq rfl rfl (q_move rfl) ?_
      obtain ⟨x7, x7_h, H⟩ := bd_inv H
      refine rq rfl rfl (q_call rfl (.v _ _ (fun e => nomatch e)) (.v rfl (.v rfl (.v rfl ArgsOk.nil))) inferInstance (stock_Lots_c  x7_h)) ?_
      refine rq rfl rfl (q_move rfl) ?_
      refine rq rfl rfl (q_extract rfl rfl) ?_
      refine rq rfl rfl (q_extract rfl rfl) ?_
      refine rq rfl rfl (q_assign rfl) ?_
      refine rq rfl rfl (q_assign rfl) ?_
      refine run_nil ?_
      refine ev_seq ?_
      refine ev_region ?_
      refine rq rfl rfl (q_loadN rfl rfl rfl rfl) ?_
      refine rq rfl rfl (q_move rfl) ?_
      refine rq rfl rfl (q_move rfl) ?_
      obtain ⟨x8, x8_h, H⟩ := bd_inv H
      refine rq rfl rfl (q_call rfl (.v _ _ (fun e => nomatch e)) (.v rfl (.v rfl (.v rfl ArgsOk.nil))) inferInstance (stock_Lots_c  x8_h)) ?_
      refine rq rfl rfl (q_move rfl) ?_
      refine rq rfl rfl (q_extract rfl rfl) ?_
      refine rq rfl rfl (q_extract rfl rfl) ?_
      refine rq rfl rfl (q_assign rfl) ?_
      refine rq rfl rfl (q_assign rfl) ?_
      refine run_nil ?_
      refine ev_seq ?_
      refine ev_region ?_
      refine rq rfl rfl (q_loadN rfl rfl rfl rfl) ?_
      refine rq rfl rfl (q_loadN rfl rfl rfl rfl) ?_
      refine rq rfl rfl (q_move rfl) ?_
      refine rq rfl rfl (q_move rfl) ?_
      obtain ⟨x9, x9_h, H⟩ := bd_inv H
      refine rq rfl rfl (q_call rfl (.v _ _ (fun e => nomatch e)) (.v rfl (.v rfl (.v rfl (.v rfl ArgsOk.nil)))) inferInstance (stock_Usable_c  x9_h)) ?_
      refine rq rfl rfl (q_move rfl) ?_
      refine rq rfl rfl (q_extract rfl rfl) ?_
      refine rq rfl rfl (q_extract rfl rfl) ?_
      refine rq rfl rfl (q_assign rfl) ?_
      refine rq rfl rfl (q_assign rfl) ?_
      refine run_nil ?_
      refine ev_seq ?_
      refine ev_region ?_
      refine rq rfl rfl (q_loadN rfl rfl rfl rfl) ?_
      refine rq rfl rfl (q_loadN rfl rfl rfl rfl) ?_
      refine rq rfl rfl (q_move rfl) ?_
      refine rq rfl rfl (q_move rfl) ?_
      obtain ⟨x10, x10_h, H⟩ := bd_inv H
      refine rq rfl rfl (q_call rfl (.v _ _ (fun e => nomatch e)) (.v rfl (.v rfl (.v rfl (.v rfl ArgsOk.nil)))) inferInstance (stock_Usable_c  x10_h)) ?_
      refine rq rfl rfl (q_move rfl) ?_
      refine rq rfl rfl (q_extract rfl rfl) ?_
      refine rq rfl rfl (q_extract rfl rfl) ?_
      refine rq rfl rfl (q_assign rfl) ?_
      refine rq rfl rfl (q_assign rfl) ?_
      refine run_nil ?_
      refine ev_seq ?_
      refine ev_region ?_
      refine rq rfl rfl (q_move rfl) ?_
      refine rq rfl rfl (q_move rfl) ?_
      obtain ⟨x11, x11_h, H⟩ := bd_inv H
      refine rq rfl rfl (q_call rfl (.v _ _ (fun e => nomatch e)) (.v rfl (.v rfl ArgsOk.nil)) inferInstance (backflushref18_Same_c  x11_h)) ?_
      refine rq rfl rfl (q_move rfl) ?_
      refine rqc (l := []) ⟨⟨_, _, _, rfl, rfl, rfl, rfl⟩, rfl, fun hc => q_move rfl, trivial⟩ rfl ?_
      refine rqc (l := []) ⟨⟨_, _, _, rfl, rfl, rfl, rfl⟩, rfl, fun hc => q_move rfl, trivial⟩ rfl ?_
      obtain ⟨x12, x12_h, _, H⟩ := bdc_inv H
      refine rqc (l := [63, 64]) ⟨⟨_, _, _, rfl, rfl, rfl, rfl⟩, rfl, fun hc => q_call rfl (.v _ _ (fun e => nomatch e)) (.v rfl (.v rfl ArgsOk.nil)) inferInstance (backflushref04_SameReads_c  (x12_h hc)), ⟨fun h => h, ⟨fun h => h, trivial⟩⟩⟩ rfl ?_
      refine rq rfl rfl (q_pickb rfl rfl rfl (PB.c (fun hp => hp)) PB.v) ?_
      refine rq rfl rfl (q_move rfl) ?_
      refine rqc (l := []) ⟨⟨_, _, _, rfl, rfl, rfl, rfl⟩, rfl, fun hc => q_move rfl, trivial⟩ rfl ?_
      refine rqc (l := []) ⟨⟨_, _, _, rfl, rfl, rfl, rfl⟩, rfl, fun hc => q_move rfl, trivial⟩ rfl ?_
      obtain ⟨x13, x13_h, _, H⟩ := bdc_inv H
      refine rqc (l := [68, 69]) ⟨⟨_, _, _, rfl, rfl, rfl, rfl⟩, rfl, fun hc => q_call rfl (.v _ _ (fun e => nomatch e)) (.v rfl (.v rfl ArgsOk.nil)) inferInstance (backflushref18_Same_c  (x13_h hc)), ⟨fun h => h, ⟨fun h => h, trivial⟩⟩⟩ rfl ?_
      refine rq rfl rfl (q_pickb rfl rfl rfl (PB.c (fun hp => hp)) PB.v) ?_
      refine rq rfl rfl (q_move rfl) ?_
      refine rqc (l := []) ⟨⟨_, _, _, rfl, rfl, rfl, rfl⟩, rfl, fun hc => q_move rfl, trivial⟩ rfl ?_
      refine rqc (l := []) ⟨⟨_, _, _, rfl, rfl, rfl, rfl⟩, rfl, fun hc => q_move rfl, trivial⟩ rfl ?_
      obtain ⟨x14, x14_h, _, H⟩ := bdc_inv H
      refine rqc (l := [73, 74]) ⟨⟨_, _, _, rfl, rfl, rfl, rfl⟩, rfl, fun hc => q_call rfl (.v _ _ (fun e => nomatch e)) (.v rfl (.v rfl ArgsOk.nil)) inferInstance (backflushref04_SameReads_c  (x14_h hc)), ⟨fun h => h, ⟨fun h => h, trivial⟩⟩⟩ rfl ?_
      refine rq rfl rfl (q_pickb rfl rfl rfl (PB.c (fun hp => hp)) PB.v) ?_
      refine rq rfl rfl (q_assign rfl) ?_
      refine run_nil ?_
      refine ev_ret ?_
      exact ret_ok [vb (bif bif bif x11 then x12 else false then x13 else false then x14 else false)] (congrArg (fun r : Bool => vb r) (Option.some.inj H)) rfl (.cons (.tmp rfl (.v _ _ (fun _ => rfl))) .nil)
def slices_Equal_Point_m (a0 : List GPoint) (a1 : List GPoint) : Option Bool := bif ((a0.length : Nat) : Int) != ((a1.length : Nat) : Int) then (some false) else (forL a0 (fun (k3 : Nat) (x5 : GPoint) (s1 : Unit) loop2 => bd (idx a1 ((k3 : Nat) : Int)) fun x8 => bif !(GPoint.eqb x5 x8) then (some false) else (loop2 ())) (fun (s1 : Unit) => some true) ())
theorem slices_Equal_Point_c {a0 : List GPoint} {a1 : List GPoint} {r : Bool} (H : slices_Equal_Point_m a0 a1 = some r) : PureC Try.prog true 59 [V.l 2 (List.map GPoint.e a0), V.l 2 (List.map GPoint.e a1)] (vb r) := by
  unfold slices_Equal_Point_m at H
  refine pure_intro (N := 26) Try.func59 rfl rfl rfl rfl fun C hO => ?_
  refine ev_seq ?_
  refine ev_region ?_
  refine rq rfl rfl (q_assign rfl) ?_
  refine run_nil ?_
  refine ev_seq ?_
  refine ev_seq ?_
  refine ev_region ?_
  refine rq rfl rfl (q_move rfl) ?_
  refine rq rfl rfl (q_len_t rfl) ?_
  refine rq rfl rfl (q_move rfl) ?_
  refine rq rfl rfl (q_len_t rfl) ?_
  refine rq rfl rfl (q_nei rfl rfl) ?_
  refine run_nil ?_
  refine ev_cond rfl (fun hc => ?_) (fun hc => ?_)
  · replace H := ct hc H
    refine ev_seq ?_
    refine ev_region ?_
    refine rq rfl rfl (q_assign rfl) ?_
    refine run_nil ?_
    refine ev_ret ?_
    exact ret_ok [vb false] (congrArg (fun r : Bool => vb r) (Option.some.inj H)) rfl (.cons (.tmp rfl (.v _ _ (fun _ => rfl))) .nil)
  · replace H := cf hc H
    refine ev_skip ?_
    refine ev_seq ?_
    refine ev_seq ?_
    refine ev_region ?_
    refine rq rfl rfl (q_move rfl) ?_
    refine rq rfl rfl (q_len_t rfl) ?_
    refine rq rfl rfl (q_move rfl) ?_
    refine run_nil ?_
    refine ev_block ?_
    refine ev_len_l (s := 0) rfl fun w7 => ?_
    rw [List.length_map] at w7
    refine ev_forL H (fun k3 s1 σ' => σ' = mkS [(0, .v false (V.l 2 (List.map GPoint.e a0))), (1, .v false (V.l 2 (List.map GPoint.e a1))), (4, .v true (vb false)), (12, .v true (vi ((a0.length : Nat) : Int))), (13, .v true (vi ((k3 : Nat) : Int)))] [] [] (0, false)) ⟨_, rfl, shift_mk ⟨⟨_, rfl, .rfl⟩, ⟨⟨_, rfl, .rfl⟩, ⟨⟨_, rfl, (.flat rfl)⟩, ⟨⟨_, rfl, (.flat rfl)⟩, ⟨⟨_, rfl, .rfl⟩, trivial⟩⟩⟩⟩⟩ trivial rfl rfl⟩ ?_
    rintro k3 s1 _ rfl _ H
    refine ev_seq ?_
    refine ev_region ?_
    refine rq rfl rfl (q_lss rfl rfl) ?_
    refine run_nil ?_
    refine ev_seq ?_
    refine ev_cond rfl (fun hc => ?_) (fun hc => ?_)
    · obtain ⟨x5, w6, x5_g, H⟩ := forL_in hc H
      have x5_h : idx a0 ((k3 : Nat) : Int) = some x5 := by rw [idx_nat]; exact x5_g
      refine ev_skip ?_
      refine ev_seq ?_
      refine ev_block ?_
      refine ev_seq ?_
      refine ev_region ?_
      refine rq rfl rfl (q_move rfl) ?_
      refine rq rfl rfl (q_assign rfl) ?_
      refine run_nil ?_
      refine ev_seq ?_
      obtain ⟨x8, x8_h, H⟩ := bd_inv H
      refine ev_draw rfl (by kernel_rfl) ?_
      refine qq rfl rfl (q_move rfl) ?_
      refine qq rfl rfl (q_move rfl) ?_
      refine qq rfl rfl (q_idx_l rfl rfl (idx_inv x5_h).1 (map_get (idx_inv x5_h).2.1) rfl) ?_
      refine qq rfl rfl (q_load_e rfl rfl rfl) ?_
      refine qq rfl rfl (q_move rfl) ?_
      refine qq rfl rfl (q_move rfl) ?_
      refine qq rfl rfl (q_idx_l rfl rfl (idx_inv x8_h).1 (map_get (idx_inv x8_h).2.1) rfl) ?_
      refine qq rfl rfl (q_load_e rfl rfl rfl) ?_
      refine qq rfl rfl (q_nes rfl rfl (r := GPoint.eqb x5 x8) rfl) ?_
      refine qn ?_
      refine ev_cond rfl (fun hc => ?_) (fun hc => ?_)
      · replace H := ct hc H
        refine ev_seq ?_
        refine ev_region ?_
        refine rq rfl rfl (q_assign rfl) ?_
        refine run_nil ?_
        refine ev_ret ?_
        exact ret_ok [vb false] (congrArg (fun r : Bool => vb r) (Option.some.inj H)) rfl (.cons (.tmp rfl (.v _ _ (fun _ => rfl))) .nil)
      · replace H := cf hc H
        refine ev_skip ?_
        refine ev_region ?_
        refine rq rfl rfl (q_add rfl rfl) ?_
        refine rq rfl rfl (q_move rfl) ?_
        refine run_nil ?_
        exact ⟨_, _, w6, H, rfl, shift_mk ⟨⟨_, rfl, .rfl⟩, ⟨⟨_, rfl, .rfl⟩, ⟨⟨_, rfl, (.flat rfl)⟩, ⟨⟨_, rfl, (.flat rfl)⟩, ⟨⟨_, rfl, (.eq (congrArg (fun n => D.v true (vi n)) (wrap_succ w6 w7)))⟩, trivial⟩⟩⟩⟩⟩ trivial rfl rfl⟩
    · replace H := forL_out hc H
      refine ev_exit ?_
      refine ev_seq ?_
      refine ev_region ?_
      refine rq rfl rfl (q_assign rfl) ?_
      refine run_nil ?_
      refine ev_ret ?_
      exact ret_ok [vb true] (congrArg (fun r : Bool => vb r) (Option.some.inj H)) rfl (.cons (.tmp rfl (.v _ _ (fun _ => rfl))) .nil)
def facts_Alike_m (a0 : List GFact) (a1 : List GRead) (a2 : Int) (a3 : Int) : Option Bool := forL a1 (fun (k3 : Nat) (x5 : GRead) (s1 : Unit) loop2 => bd (facts_Points_m a0 x5.key x5.from_ x5.to_ a2) fun x9 => bd (facts_Points_m a0 x5.key x5.from_ x5.to_ a3) fun x10 => bd (slices_Equal_Point_m x9 x10) fun x11 => bif !x11 then (some false) else (loop2 ())) (fun (s1 : Unit) => some true) ()
theorem facts_Alike_c {a0 : List GFact} {a1 : List GRead} {a2 : Int} {a3 : Int} {r : Bool} (H : facts_Alike_m a0 a1 a2 a3 = some r) : PureC Try.prog true 29 [V.l 8 (List.map GFact.e a0), V.l 5 (List.map GRead.e a1), vi a2, vi a3] (vb r) := by
  unfold facts_Alike_m at H
  refine pure_intro (N := 38) Try.func29 rfl rfl rfl rfl fun C hO => ?_
  refine ev_shift (shift_mk (fs := [(0, .v false (V.l 8 (List.map GFact.e a0))), (1, .v false (V.l 5 (List.map GRead.e a1))), (2, .v true (vi a2)), (3, .v true (vi a3))]) (es := []) ⟨⟨_, rfl, .rfl⟩, ⟨⟨_, rfl, .rfl⟩, ⟨⟨_, rfl, (.flat rfl)⟩, ⟨⟨_, rfl, (.flat rfl)⟩, trivial⟩⟩⟩⟩ trivial rfl rfl) ?_
  refine ev_seq ?_
  refine ev_region ?_
  refine rq rfl rfl (q_assign rfl) ?_
  refine run_nil ?_
  refine ev_seq ?_
  refine ev_seq ?_
  refine ev_region ?_
  refine rq rfl rfl (q_move rfl) ?_
  refine rq rfl rfl (q_len_t rfl) ?_
  refine rq rfl rfl (q_move rfl) ?_
  refine run_nil ?_
  refine ev_block ?_
  refine ev_len_l (s := 11) rfl fun w7 => ?_
  rw [List.length_map] at w7
  refine ev_forL H (fun k3 s1 σ' => σ' = mkS [(0, .v false (V.l 8 (List.map GFact.e a0))), (2, .v true (vi a2)), (3, .v true (vi a3)), (8, .v true (vb false)), (11, .v false (V.l 5 (List.map GRead.e a1))), (12, .v true (vi ((a1.length : Nat) : Int))), (13, .v true (vi ((k3 : Nat) : Int)))] [] [] (0, false)) ⟨_, rfl, shift_mk ⟨⟨_, rfl, .rfl⟩, ⟨⟨_, rfl, (.flat rfl)⟩, ⟨⟨_, rfl, (.flat rfl)⟩, ⟨⟨_, rfl, (.flat rfl)⟩, ⟨⟨_, rfl, .rfl⟩, ⟨⟨_, rfl, (.flat rfl)⟩, ⟨⟨_, rfl, .rfl⟩, trivial⟩⟩⟩⟩⟩⟩⟩ trivial rfl rfl⟩ ?_
  rintro k3 s1 _ rfl _ H
  refine ev_seq ?_
  refine ev_region ?_
  refine rq rfl rfl (q_lss rfl rfl) ?_
  refine run_nil ?_
  refine ev_seq ?_
  refine ev_cond rfl (fun hc => ?_) (fun hc => ?_)
  · obtain ⟨x5, w6, x5_g, H⟩ := forL_in hc H
    have x5_h : idx a1 ((k3 : Nat) : Int) = some x5 := by rw [idx_nat]; exact x5_g
    refine ev_skip ?_
    refine ev_seq ?_
    refine ev_block ?_
    refine ev_seq ?_
    refine ev_region ?_
    refine rq rfl rfl (q_idx_l rfl rfl (idx_inv x5_h).1 (map_get (idx_inv x5_h).2.1) rfl) ?_
    refine rq rfl rfl (q_load_e rfl rfl rfl) ?_
    refine re rfl (e_alloc 10 0 rfl rfl) ?_; rintro _ ⟨b8, rfl⟩
    refine re rfl (e_store rfl rfl rfl rfl rfl (Nat.le_of_ble_eq_true rfl) rfl) ?_; rintro _ rfl
    refine run_nil ?_
    refine ev_seq ?_
    obtain ⟨x9, x9_h, H⟩ := bd_inv H
    obtain ⟨x10, x10_h, H⟩ := bd_inv H
    obtain ⟨x11, x11_h, H⟩ := bd_inv H
    refine ev_draw rfl (by kernel_rfl) ?_
    refine qq rfl rfl (q_move rfl) ?_
    refine qq rfl rfl (q_fld_p rfl) ?_
    refine qq rfl rfl (q_loadN rfl rfl rfl rfl) ?_
    refine qq rfl rfl (q_fld_p rfl) ?_
    refine qq rfl rfl (q_load1 rfl rfl rfl) ?_
    refine qq rfl rfl (q_fld_p rfl) ?_
    refine qq rfl rfl (q_load1 rfl rfl rfl) ?_
    refine qq rfl rfl (q_move rfl) ?_
    refine qq rfl rfl (q_call rfl (.v _ _ (fun e => nomatch e)) (.v rfl (.v rfl (.v rfl (.v rfl (.v rfl ArgsOk.nil))))) inferInstance (facts_Points_c  x9_h)) ?_
    refine qq rfl rfl (q_move rfl) ?_
    refine qq rfl rfl (q_fld_p rfl) ?_
    refine qq rfl rfl (q_loadN rfl rfl rfl rfl) ?_
    refine qq rfl rfl (q_fld_p rfl) ?_
    refine qq rfl rfl (q_load1 rfl rfl rfl) ?_
    refine qq rfl rfl (q_fld_p rfl) ?_
    refine qq rfl rfl (q_load1 rfl rfl rfl) ?_
    refine qq rfl rfl (q_move rfl) ?_
    refine qq rfl rfl (q_call rfl (.v _ _ (fun e => nomatch e)) (.v rfl (.v rfl (.v rfl (.v rfl (.v rfl ArgsOk.nil))))) inferInstance (facts_Points_c  x10_h)) ?_
    refine qq rfl rfl (q_call rfl (.v _ _ (fun e => nomatch e)) (.v rfl (.v rfl ArgsOk.nil)) inferInstance (slices_Equal_Point_c  x11_h)) ?_
    refine qq rfl rfl (q_not rfl) ?_
    refine qn ?_
    refine ev_cond rfl (fun hc => ?_) (fun hc => ?_)
    · replace H := ct hc H
      refine ev_seq ?_
      refine ev_region ?_
      refine rq rfl rfl (q_assign rfl) ?_
      refine run_nil ?_
      refine ev_ret ?_
      exact ret_ok [vb false] (congrArg (fun r : Bool => vb r) (Option.some.inj H)) rfl (.cons (.tmp rfl (.v _ _ (fun _ => rfl))) .nil)
    · replace H := cf hc H
      refine ev_skip ?_
      refine ev_region ?_
      refine rq rfl rfl (q_add rfl rfl) ?_
      refine rq rfl rfl (q_move rfl) ?_
      refine run_nil ?_
      exact ⟨_, _, w6, H, rfl, shift_mk ⟨⟨_, rfl, .rfl⟩, ⟨⟨_, rfl, (.flat rfl)⟩, ⟨⟨_, rfl, (.flat rfl)⟩, ⟨⟨_, rfl, (.flat rfl)⟩, ⟨⟨_, rfl, .rfl⟩, ⟨⟨_, rfl, (.flat rfl)⟩, ⟨⟨_, rfl, (.eq (congrArg (fun n => D.v true (vi n)) (wrap_succ w6 w7)))⟩, trivial⟩⟩⟩⟩⟩⟩⟩ trivial rfl rfl⟩
  · replace H := forL_out hc H
    refine ev_exit ?_
    refine ev_seq ?_
    refine ev_region ?_
    refine rq rfl rfl (q_assign rfl) ?_
    refine run_nil ?_
    refine ev_ret ?_
    exact ret_ok [vb true] (congrArg (fun r : Bool => vb r) (Option.some.inj H)) rfl (.cons (.tmp rfl (.v _ _ (fun _ => rfl))) .nil)
end Bf
