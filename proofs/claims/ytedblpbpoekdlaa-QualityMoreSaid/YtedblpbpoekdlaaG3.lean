import Derived.Test.YtedblpbpoekdlaaG2
import Derived.Test.YtedblpbpoekdlaaF28
namespace Bf
open Go Go.RowKit Go.Proofs
attribute [local irreducible] Quiet Eff RunS Ev PureC Shift RunQ RetQ RetR SeqQ
set_option linter.unusedVariables false
set_option maxRecDepth 4000
def GRead.eqb (x y : GRead) : Bool := (x.key.kind == y.key.kind && (x.key.subject == y.key.subject && (x.key.object == y.key.object && (x.from_ == y.from_ && (x.to_ == y.to_ && true)))))
structure S_day_want_l_held where
  day : Int
  want : Int
  l : List GSpec
  held : List Int
  deriving Inhabited, DecidableEq
def S_day_want_l_held.e (x : S_day_want_l_held) : V := .st [vi x.day, vi x.want, V.l 3 (List.map GSpec.e x.l), V.l 1 (List.map vi x.held)]
def slices_Index_int_m (a0 : List Int) (a1 : Int) : Option Int := forL a0 (fun (k3 : Nat) (x5 : Int) (s1 : Unit) loop2 => bif a1 == x5 then (some ((k3 : Nat) : Int)) else (loop2 ())) (fun (s1 : Unit) => some (-1)) ()
theorem slices_Index_int_c {a0 : List Int} {a1 : Int} {r : Int} (H : slices_Index_int_m a0 a1 = some r) : PureC Try.prog true 87 [V.l 1 (List.map vi a0), vi a1] (vi r) := by
  unfold slices_Index_int_m at H
  refine pure_intro (N := 19) Try.func87 rfl rfl rfl rfl fun C hO => ?_
  refine ev_shift (shift_mk (fs := [(0, .v false (V.l 1 (List.map vi a0))), (1, .v true (vi a1))]) (es := []) ⟨⟨_, rfl, .rfl⟩, ⟨⟨_, rfl, (.flat rfl)⟩, trivial⟩⟩ trivial rfl rfl) ?_
  refine ev_seq ?_
  refine ev_region ?_
  refine rq rfl rfl (q_assign rfl) ?_
  refine run_nil ?_
  refine ev_seq ?_
  refine ev_seq ?_
  refine ev_region ?_
  refine rq rfl rfl (q_move rfl) ?_
  refine rq rfl rfl (q_len_t rfl) ?_
  refine rq rfl rfl (q_move rfl) ?_
  refine run_nil ?_
  refine ev_block ?_
  refine ev_len_l (s := 0) rfl fun w7 => ?_
  rw [List.length_map] at w7
  refine ev_forL H (fun k3 s1 σ' => σ' = mkS [(0, .v false (V.l 1 (List.map vi a0))), (1, .v true (vi a1)), (4, .v true (vi 0)), (7, .v true (vi ((a0.length : Nat) : Int))), (8, .v true (vi ((k3 : Nat) : Int)))] [] [] (0, false)) ⟨_, rfl, shift_mk ⟨⟨_, rfl, .rfl⟩, ⟨⟨_, rfl, (.flat rfl)⟩, ⟨⟨_, rfl, (.flat rfl)⟩, ⟨⟨_, rfl, (.flat rfl)⟩, ⟨⟨_, rfl, .rfl⟩, trivial⟩⟩⟩⟩⟩ trivial rfl rfl⟩ ?_
  rintro k3 s1 _ rfl _ H
  refine ev_seq ?_
  refine ev_region ?_
  refine rq rfl rfl (q_lss rfl rfl) ?_
  refine run_nil ?_
  refine ev_seq ?_
  refine ev_cond rfl (fun hc => ?_) (fun hc => ?_)
  · obtain ⟨x5, w6, x5_g, H⟩ := forL_in hc H
    have x5_h : idx a0 ((k3 : Nat) : Int) = some x5 := by rw [idx_nat]; exact x5_g
    refine ev_skip ?_
    refine ev_seq ?_
    refine ev_block ?_
    refine ev_seq ?_
    refine ev_region ?_
    refine rq rfl rfl (q_move rfl) ?_
    refine rq rfl rfl (q_assign rfl) ?_
    refine run_nil ?_
    refine ev_seq ?_
    refine ev_region ?_
    refine rq rfl rfl (q_move rfl) ?_
    refine rq rfl rfl (q_move rfl) ?_
    refine rq rfl rfl (q_move rfl) ?_
    refine rq rfl rfl (q_idx_l rfl rfl (idx_inv x5_h).1 (map_get (idx_inv x5_h).2.1) rfl) ?_
    refine rq rfl rfl (q_load1_q rfl) ?_
    refine rq rfl rfl (q_eqi rfl rfl) ?_
    refine run_nil ?_
    refine ev_cond rfl (fun hc => ?_) (fun hc => ?_)
    · replace H := ct hc H
      refine ev_seq ?_
      refine ev_region ?_
      refine rq rfl rfl (q_move rfl) ?_
      refine rq rfl rfl (q_assign rfl) ?_
      refine run_nil ?_
      refine ev_ret ?_
      exact ret_ok [vi ((k3 : Nat) : Int)] (congrArg (fun r : Int => vi r) (Option.some.inj H)) rfl (.cons (.tmp rfl (.v _ _ (fun _ => rfl))) .nil)
    · replace H := cf hc H
      refine ev_skip ?_
      refine ev_region ?_
      refine rq rfl rfl (q_add rfl rfl) ?_
      refine rq rfl rfl (q_move rfl) ?_
      refine run_nil ?_
      exact ⟨_, _, w6, H, rfl, shift_mk ⟨⟨_, rfl, .rfl⟩, ⟨⟨_, rfl, (.flat rfl)⟩, ⟨⟨_, rfl, (.flat rfl)⟩, ⟨⟨_, rfl, (.flat rfl)⟩, ⟨⟨_, rfl, (.eq (congrArg (fun n => D.v true (vi n)) (wrap_succ w6 w7)))⟩, trivial⟩⟩⟩⟩⟩ trivial rfl rfl⟩
  · replace H := forL_out hc H
    refine ev_exit ?_
    refine ev_seq ?_
    refine ev_region ?_
    refine rq rfl rfl (q_assign rfl) ?_
    refine run_nil ?_
    refine ev_ret ?_
    exact ret_ok [vi (-1)] (congrArg (fun r : Int => vi r) (Option.some.inj H)) rfl (.cons (.tmp rfl (.v _ _ (fun _ => rfl))) .nil)
def slices_Contains_int_m (a0 : List Int) (a1 : Int) : Option Bool := bd (slices_Index_int_m a0 a1) fun x1 => some (decide (0 ≤ x1))
theorem slices_Contains_int_c {a0 : List Int} {a1 : Int} {r : Bool} (H : slices_Contains_int_m a0 a1 = some r) : PureC Try.prog true 50 [V.l 1 (List.map vi a0), vi a1] (vb r) := by
  unfold slices_Contains_int_m at H
  refine pure_intro (N := 9) Try.func50 rfl rfl rfl rfl fun C hO => ?_
  refine ev_shift (shift_mk (fs := [(0, .v false (V.l 1 (List.map vi a0))), (1, .v true (vi a1))]) (es := []) ⟨⟨_, rfl, .rfl⟩, ⟨⟨_, rfl, (.flat rfl)⟩, trivial⟩⟩ trivial rfl rfl) ?_
  refine ev_seq ?_
  refine ev_region ?_
  refine rq rfl rfl (q_assign rfl) ?_
  refine run_nil ?_
  refine ev_seq ?_
  refine ev_region ?_
  refine rq rfl rfl (q_move rfl) ?_
  refine rq rfl rfl (q_move rfl) ?_
  obtain ⟨x1, x1_h, H⟩ := bd_inv H
  refine rq rfl rfl (q_call rfl (.v _ _ (fun e => nomatch e)) (.v rfl (.v rfl ArgsOk.nil)) inferInstance (slices_Index_int_c  x1_h)) ?_
  refine rq rfl rfl (q_geq rfl rfl) ?_
  refine rq rfl rfl (q_assign rfl) ?_
  refine run_nil ?_
  refine ev_ret ?_
  exact ret_ok [vb (decide (0 ≤ x1))] (congrArg (fun r : Bool => vb r) (Option.some.inj H)) rfl (.cons (.tmp rfl (.v _ _ (fun _ => rfl))) .nil)
def quality_State_2_m (a0 : GLot) (a1 : List Int) (a2 : Int) : Option Bool := bdc (!(a0.state == 2)) (slices_Contains_int_m a1 a2) fun x1 => some (bif a0.state == 2 then true else x1)
theorem quality_State_2_c {a0 : GLot} {a1 : List Int} {a2 : Int} {r : Bool} (H : quality_State_2_m a0 a1 a2 = some r) : PureC Try.prog true 49 [.q (V.cells (GLot.e a0)), .q (V.cells (V.l 1 (List.map vi a1))), .q (V.cells (vi a2))] (vb r) := by
  unfold quality_State_2_m at H
  refine pure_intro (N := 12) Try.func49 rfl rfl rfl rfl fun C hO => ?_
  refine ev_seq ?_
  refine ev_region ?_
  refine rq rfl rfl (q_assign rfl) ?_
  refine run_nil ?_
  refine ev_seq ?_
  refine ev_region ?_
  refine rq rfl rfl (q_fld_q rfl) ?_
  refine rq rfl rfl (q_load1_q rfl) ?_
  refine rq rfl rfl (q_eqi rfl rfl) ?_
  refine rq rfl rfl (q_move rfl) ?_
  refine rqc (l := []) ⟨⟨_, _, _, rfl, rfl, rfl, rfl⟩, rfl, fun hc => q_load1_q rfl, trivial⟩ rfl ?_
  refine rqc (l := []) ⟨⟨_, _, _, rfl, rfl, rfl, rfl⟩, rfl, fun hc => q_load1_q rfl, trivial⟩ rfl ?_
  obtain ⟨x1, x1_h, _, H⟩ := bdc_inv H
  refine rqc (l := [8, 9]) ⟨⟨_, _, _, rfl, rfl, rfl, rfl⟩, rfl, fun hc => q_call rfl (.v _ _ (fun e => nomatch e)) (.v rfl (.v rfl ArgsOk.nil)) inferInstance (slices_Contains_int_c  (x1_h hc)), ⟨fun h => h, ⟨fun h => h, trivial⟩⟩⟩ rfl ?_
  refine rq rfl rfl (q_pickb rfl rfl rfl PB.v (PB.c (fun hp => by rw [hp]; rfl))) ?_
  refine rq rfl rfl (q_assign rfl) ?_
  refine run_nil ?_
  refine ev_ret ?_
  exact ret_ok [vb (bif a0.state == 2 then true else x1)] (congrArg (fun r : Bool => vb r) (Option.some.inj H)) rfl (.cons (.tmp rfl (.v _ _ (fun _ => rfl))) .nil)
def quality_State_3_m (a0 : GLot) (a1 : Int) (a2 : GCertificate) : Option Bool := some (bif bif a0.state == 1 then true else decide (a0.expiry ≤ a1) then true else !a2.good)
theorem quality_State_3_c {a0 : GLot} {a1 : Int} {a2 : GCertificate} {r : Bool} (H : quality_State_3_m a0 a1 a2 = some r) : PureC Try.prog true 51 [.q (V.cells (GLot.e a0)), .q (V.cells (vi a1)), .q (V.cells (GCertificate.e a2))] (vb r) := by
  unfold quality_State_3_m at H
  refine pure_intro (N := 18) Try.func51 rfl rfl rfl rfl fun C hO => ?_
  refine ev_seq ?_
  refine ev_region ?_
  refine rq rfl rfl (q_assign rfl) ?_
  refine run_nil ?_
  refine ev_seq ?_
  refine ev_region ?_
  refine rq rfl rfl (q_fld_q rfl) ?_
  refine rq rfl rfl (q_load1_q rfl) ?_
  refine rq rfl rfl (q_eqi rfl rfl) ?_
  refine rq rfl rfl (q_move rfl) ?_
  refine rqc (l := []) ⟨⟨_, _, _, rfl, rfl, rfl, rfl⟩, rfl, fun hc => q_load1_q rfl, trivial⟩ rfl ?_
  refine rqc (l := []) ⟨⟨_, _, _, rfl, rfl, rfl, rfl⟩, rfl, fun hc => q_fld_q rfl, trivial⟩ rfl ?_
  refine rqc (l := [9]) ⟨⟨_, _, _, rfl, rfl, rfl, rfl⟩, rfl, fun hc => q_load1_q rfl, ⟨fun h => h, trivial⟩⟩ rfl ?_
  refine rqc (l := [8, 10]) ⟨⟨_, _, _, rfl, rfl, rfl, rfl⟩, rfl, fun hc => q_geq rfl rfl, ⟨fun h => h, ⟨fun h => h, trivial⟩⟩⟩ rfl ?_
  refine rq rfl rfl (q_pickb rfl rfl rfl PB.v (PB.c (fun hp => by rw [hp]; rfl))) ?_
  refine rq rfl rfl (q_move rfl) ?_
  refine rqc (l := []) ⟨⟨_, _, _, rfl, rfl, rfl, rfl⟩, rfl, fun hc => q_fld_q rfl, trivial⟩ rfl ?_
  refine rqc (l := [14]) ⟨⟨_, _, _, rfl, rfl, rfl, rfl⟩, rfl, fun hc => q_load1_q rfl, ⟨fun h => h, trivial⟩⟩ rfl ?_
  refine rqc (l := [15]) ⟨⟨_, _, _, rfl, rfl, rfl, rfl⟩, rfl, fun hc => q_not rfl, ⟨fun h => h, trivial⟩⟩ rfl ?_
  refine rq rfl rfl (q_pickb rfl rfl rfl PB.v (PB.c (fun hp => by rw [hp]; rfl))) ?_
  refine rq rfl rfl (q_assign rfl) ?_
  refine run_nil ?_
  refine ev_ret ?_
  exact ret_ok [vb (bif bif a0.state == 1 then true else decide (a0.expiry ≤ a1) then true else !a2.good)] (congrArg (fun r : Bool => vb r) (Option.some.inj H)) rfl (.cons (.tmp rfl (.v _ _ (fun _ => rfl))) .nil)
def quality_State_m (a0 : GWorld) (a1 : Int) (a2 : Int) (a3 : Int) (a4 : List GSpec) (a5 : List Int) : Option (Int × (List GRead) × Int) := bd (quality_valid_m a4 a5) fun x5 => bif bif !x5 then true else decide (1024 < ((a5.length : Nat) : Int)) then (some (0, [], 400)) else (bd (stock_Lot_m a0 a1 a2 a3) fun x6 => bif !x6.2.2 then (some (3, x6.2.1, 0)) else (bd (quality_Certify_m a0 a1 a2 a3 a4) fun x8 => bif x8.2.2 != 0 then (some (0, [], x8.2.2)) else (bd (quality_State_1_m x6.1) fun x11 => bif x11 then (some (3, x8.2.1, 0)) else (bd (quality_State_2_m x6.1 a5 a1) fun x13 => bif x13 then (some (2, x8.2.1, 0)) else (bd (quality_State_3_m x6.1 a2 x8.1) fun x15 => bif x15 then (some (1, x8.2.1, 0)) else (some (0, x8.2.1, 0)))))))
theorem quality_State_c {a0 : GWorld} {a1 : Int} {a2 : Int} {a3 : Int} {a4 : List GSpec} {a5 : List Int} {r : Int × (List GRead) × Int} (H : quality_State_m a0 a1 a2 a3 a4 a5 = some r) : PureC Try.prog true 25 [GWorld.e a0, vi a1, vi a2, vi a3, V.l 3 (List.map GSpec.e a4), V.l 1 (List.map vi a5)] (V.t [vi r.1, V.l 5 (List.map GRead.e r.2.1), vi r.2.2]) := by
  unfold quality_State_m at H
  refine pure_intro (N := 75) Try.func25 rfl rfl rfl rfl fun C hO => ?_
  refine ev_shift (shift_mk (fs := [(0, .v false (GWorld.e a0)), (1, .v true (vi a1)), (2, .v true (vi a2)), (3, .v true (vi a3)), (4, .v false (V.l 3 (List.map GSpec.e a4))), (5, .v false (V.l 1 (List.map vi a5)))]) (es := []) ⟨⟨_, rfl, .rfl⟩, ⟨⟨_, rfl, (.flat rfl)⟩, ⟨⟨_, rfl, (.flat rfl)⟩, ⟨⟨_, rfl, (.flat rfl)⟩, ⟨⟨_, rfl, .rfl⟩, ⟨⟨_, rfl, .rfl⟩, trivial⟩⟩⟩⟩⟩⟩ trivial rfl rfl) ?_
  refine ev_seq ?_
  refine ev_region ?_
  refine re rfl (e_box 6 0 rfl rfl rfl) ?_; rintro _ ⟨b1, rfl⟩
  refine re rfl (e_box 7 0 rfl rfl rfl) ?_; rintro _ ⟨b2, rfl⟩
  refine re rfl (e_box 8 0 rfl rfl rfl) ?_; rintro _ ⟨b3, rfl⟩
  refine re rfl (e_box 11 0 rfl rfl rfl) ?_; rintro _ ⟨b4, rfl⟩
  refine rq rfl rfl (q_assign rfl) ?_
  refine rq rfl rfl (q_assign rfl) ?_
  refine rq rfl rfl (q_assign rfl) ?_
  refine run_nil ?_
  refine ev_seq ?_
  refine ev_seq ?_
  refine ev_region ?_
  refine rq rfl rfl (q_move rfl) ?_
  refine rq rfl rfl (q_load1 rfl rfl rfl) ?_
  obtain ⟨x5, x5_h, H⟩ := bd_inv H
  refine rq rfl rfl (q_call rfl (.v _ _ (fun e => nomatch e)) (.v rfl (.v rfl ArgsOk.nil)) inferInstance (quality_valid_c  x5_h)) ?_
  refine rq rfl rfl (q_not rfl) ?_
  refine rq rfl rfl (q_move rfl) ?_
  refine rqc (l := []) ⟨⟨_, _, _, rfl, rfl, rfl, rfl⟩, rfl, fun hc => q_load1 rfl rfl rfl, trivial⟩ rfl ?_
  refine rqc (l := [26]) ⟨⟨_, _, _, rfl, rfl, rfl, rfl⟩, rfl, fun hc => q_len_t rfl, ⟨fun h => h, trivial⟩⟩ rfl ?_
  refine rqc (l := [27]) ⟨⟨_, _, _, rfl, rfl, rfl, rfl⟩, rfl, fun hc => q_gtr rfl rfl, ⟨fun h => h, trivial⟩⟩ rfl ?_
  refine rq rfl rfl (q_pickb rfl rfl rfl PB.v (PB.c (fun hp => by rw [hp]; rfl))) ?_
  refine run_nil ?_
  refine ev_cond rfl (fun hc => ?_) (fun hc => ?_)
  · replace H := ct hc H
    refine ev_seq ?_
    refine ev_region ?_
    refine rq rfl rfl (q_assign rfl) ?_
    refine rq rfl rfl (q_assign rfl) ?_
    refine rq rfl rfl (q_assign rfl) ?_
    refine run_nil ?_
    refine ev_ret ?_
    exact ret_ok [vi 0, V.l 5 (List.map GRead.e []), vi 400] (congrArg (fun r : Int × (List GRead) × Int => V.t [vi r.1, V.l 5 (List.map GRead.e r.2.1), vi r.2.2]) (Option.some.inj H)) rfl (.cons (.tmp rfl (.v _ _ (fun _ => rfl))) (.cons (.tmp rfl (.nil _ _)) (.cons (.tmp rfl (.v _ _ (fun _ => rfl))) .nil)))
  · replace H := cf hc H
    refine ev_skip ?_
    refine ev_seq ?_
    refine ev_region ?_
    refine rq rfl rfl (q_loadN rfl rfl rfl rfl) ?_
    refine rq rfl rfl (q_load1 rfl rfl rfl) ?_
    refine rq rfl rfl (q_load1 rfl rfl rfl) ?_
    refine rq rfl rfl (q_move rfl) ?_
    obtain ⟨x6, x6_h, H⟩ := bd_inv H
    refine rq rfl rfl (q_call rfl (.v _ _ (fun e => nomatch e)) (.v rfl (.v rfl (.v rfl (.v rfl ArgsOk.nil)))) inferInstance (stock_Lot_c  x6_h)) ?_
    refine rq rfl rfl (q_move rfl) ?_
    refine rq rfl rfl (q_extract rfl rfl) ?_
    refine rq rfl rfl (q_extract rfl rfl) ?_
    refine rq rfl rfl (q_extract rfl rfl) ?_
    refine re rfl (e_alloc 15 0 rfl rfl) ?_; rintro _ ⟨b7, rfl⟩
    refine re rfl (e_store rfl rfl rfl rfl rfl (Nat.le_of_ble_eq_true rfl) rfl) ?_; rintro _ rfl
    refine rq rfl rfl (q_assign rfl) ?_
    refine rq rfl rfl (q_assign rfl) ?_
    refine run_nil ?_
    refine ev_seq ?_
    refine ev_seq ?_
    refine ev_region ?_
    refine rq rfl rfl (q_move rfl) ?_
    refine rq rfl rfl (q_not rfl) ?_
    refine run_nil ?_
    refine ev_cond rfl (fun hc => ?_) (fun hc => ?_)
    · replace H := ct hc H
      refine ev_seq ?_
      refine ev_region ?_
      refine rq rfl rfl (q_move rfl) ?_
      refine rq rfl rfl (q_assign rfl) ?_
      refine rq rfl rfl (q_assign rfl) ?_
      refine rq rfl rfl (q_assign rfl) ?_
      refine run_nil ?_
      refine ev_ret ?_
      exact ret_ok [vi 3, V.l 5 (List.map GRead.e x6.2.1), vi 0] (congrArg (fun r : Int × (List GRead) × Int => V.t [vi r.1, V.l 5 (List.map GRead.e r.2.1), vi r.2.2]) (Option.some.inj H)) rfl (.cons (.tmp rfl (.v _ _ (fun _ => rfl))) (.cons (.tmp rfl (.v _ _ (fun _ => rfl))) (.cons (.tmp rfl (.v _ _ (fun _ => rfl))) .nil)))
    · replace H := cf hc H
      refine ev_skip ?_
      refine ev_seq ?_
      refine ev_region ?_
      refine rq rfl rfl (q_loadN rfl rfl rfl rfl) ?_
      refine rq rfl rfl (q_load1 rfl rfl rfl) ?_
      refine rq rfl rfl (q_load1 rfl rfl rfl) ?_
      refine rq rfl rfl (q_move rfl) ?_
      refine rq rfl rfl (q_move rfl) ?_
      obtain ⟨x8, x8_h, H⟩ := bd_inv H
      refine rq rfl rfl (q_call rfl (.v _ _ (fun e => nomatch e)) (.v rfl (.v rfl (.v rfl (.v rfl (.v rfl ArgsOk.nil))))) inferInstance (quality_Certify_c  x8_h)) ?_
      refine rq rfl rfl (q_move rfl) ?_
      refine rq rfl rfl (q_extract rfl rfl) ?_
      refine rq rfl rfl (q_extract rfl rfl) ?_
      refine rq rfl rfl (q_extract rfl rfl) ?_
      refine re rfl (e_alloc 18 0 rfl rfl) ?_; rintro _ ⟨b9, rfl⟩
      refine re rfl (e_store rfl rfl rfl rfl rfl (Nat.le_of_ble_eq_true rfl) rfl) ?_; rintro _ rfl
      refine rq rfl rfl (q_assign rfl) ?_
      refine rq rfl rfl (q_assign rfl) ?_
      refine run_nil ?_
      refine ev_seq ?_
      refine ev_seq ?_
      refine ev_region ?_
      refine rq rfl rfl (q_move rfl) ?_
      refine rq rfl rfl (q_nei rfl rfl) ?_
      refine run_nil ?_
      refine ev_cond rfl (fun hc => ?_) (fun hc => ?_)
      · replace H := ct hc H
        refine ev_seq ?_
        refine ev_region ?_
        refine rq rfl rfl (q_move rfl) ?_
        refine rq rfl rfl (q_assign rfl) ?_
        refine rq rfl rfl (q_assign rfl) ?_
        refine rq rfl rfl (q_assign rfl) ?_
        refine run_nil ?_
        refine ev_ret ?_
        exact ret_ok [vi 0, V.l 5 (List.map GRead.e []), vi x8.2.2] (congrArg (fun r : Int × (List GRead) × Int => V.t [vi r.1, V.l 5 (List.map GRead.e r.2.1), vi r.2.2]) (Option.some.inj H)) rfl (.cons (.tmp rfl (.v _ _ (fun _ => rfl))) (.cons (.tmp rfl (.nil _ _)) (.cons (.tmp rfl (.v _ _ (fun _ => rfl))) .nil)))
      · replace H := cf hc H
        refine ev_skip ?_
        refine ev_seq ?_
        refine ev_seq ?_
        refine ev_shift (shift_frzb (f := true) 15 (V.cells (GLot.e x6.1)) rfl rfl (.cons (.flat rfl) (.cons (.flat rfl) (.cons (.flat rfl) (.cons (.flat rfl) (.cons (.flat rfl) (.cons (.flat rfl) .nil))))))) ?_
        refine ev_shift (shift_frzb (f := false) 11 (V.cells (V.l 1 (List.map vi a5))) rfl rfl (.cons .rfl .nil)) ?_
        refine ev_shift (shift_frzb (f := true) 7 (V.cells (vi a1)) rfl rfl (.cons (.flat rfl) .nil)) ?_
        refine ev_shift (shift_frzb (f := true) 8 (V.cells (vi a2)) rfl rfl (.cons (.flat rfl) .nil)) ?_
        refine ev_shift (shift_frzb (f := true) 18 (V.cells (GCertificate.e x8.1)) rfl rfl (.cons (.flat rfl) (.cons .rfl (.cons (.flat rfl) .nil)))) ?_
        refine ev_region ?_
        refine rq rfl rfl (q_func (.v rfl CapsOk.nil)) ?_
        refine rq rfl rfl (Quiet.wk (d := .v false (.st [vi 3, .c 48 [.q (V.cells (GLot.e x6.1))]])) (q_build (r := [vi 3, .c 48 [.q (V.cells (GLot.e x6.1))]]) rfl (.v rfl rfl rfl rfl rfl (.v rfl rfl rfl rfl rfl .nil))) .old) ?_
        refine rq rfl rfl (q_func (.v rfl (.v rfl (.v rfl CapsOk.nil)))) ?_
        refine rq rfl rfl (Quiet.wk (d := .v false (.st [vi 2, .c 49 [.q (V.cells (GLot.e x6.1)), .q (V.cells (V.l 1 (List.map vi a5))), .q (V.cells (vi a1))]])) (q_build (r := [vi 2, .c 49 [.q (V.cells (GLot.e x6.1)), .q (V.cells (V.l 1 (List.map vi a5))), .q (V.cells (vi a1))]]) rfl (.v rfl rfl rfl rfl rfl (.v rfl rfl rfl rfl rfl .nil))) .old) ?_
        refine rq rfl rfl (q_func (.v rfl (.v rfl (.v rfl CapsOk.nil)))) ?_
        refine rq rfl rfl (Quiet.wk (d := .v false (.st [vi 1, .c 51 [.q (V.cells (GLot.e x6.1)), .q (V.cells (vi a2)), .q (V.cells (GCertificate.e x8.1))]])) (q_build (r := [vi 1, .c 51 [.q (V.cells (GLot.e x6.1)), .q (V.cells (vi a2)), .q (V.cells (GCertificate.e x8.1))]]) rfl (.v rfl rfl rfl rfl rfl (.v rfl rfl rfl rfl rfl .nil))) .old) ?_
        refine rq rfl rfl (q_buildSlice (z := 2) (xs := [.st [vi 3, .c 48 [.q (V.cells (GLot.e x6.1))]], .st [vi 2, .c 49 [.q (V.cells (GLot.e x6.1)), .q (V.cells (V.l 1 (List.map vi a5))), .q (V.cells (vi a1))]], .st [vi 1, .c 51 [.q (V.cells (GLot.e x6.1)), .q (V.cells (vi a2)), .q (V.cells (GCertificate.e x8.1))]]]) (fl := false) rfl rfl rfl rfl (by simp [V.plain, V.cells]) rfl) ?_
        refine rq rfl rfl (q_len_l rfl) ?_
        refine rq rfl rfl (q_move rfl) ?_
        refine run_nil ?_
        refine ev_block ?_
        refine ev_rounds 4 ?_
        refine rounds_step ?_
        refine ev_seq ?_
        refine ev_region ?_
        refine rq rfl rfl (q_lss rfl rfl) ?_
        refine run_nil ?_
        refine ev_seq ?_
        refine ev_condt rfl ?_
        refine ev_skip ?_
        refine ev_seq ?_
        refine ev_block ?_
        refine ev_seq ?_
        refine ev_region ?_
        refine rq rfl rfl (q_idx_l rfl rfl (by decide) rfl rfl) ?_
        refine rq rfl rfl (q_load_e rfl rfl rfl) ?_
        refine re rfl (e_alloc 20 0 rfl rfl) ?_; rintro _ ⟨b10, rfl⟩
        refine re rfl (e_store rfl rfl rfl rfl rfl (Nat.le_of_ble_eq_true rfl) rfl) ?_; rintro _ rfl
        refine run_nil ?_
        refine ev_seq ?_
        refine ev_region ?_
        refine rq rfl rfl (q_fld_p rfl) ?_
        refine rq rfl rfl (q_load1 rfl rfl rfl) ?_
        obtain ⟨x11, x11_h, H⟩ := bd_inv H
        refine rq rfl rfl (q_call rfl (.v _ _ (fun e => nomatch e)) ArgsOk.nil inferInstance (quality_State_1_c  x11_h)) ?_
        refine run_nil ?_
        refine ev_cond rfl (fun hc => ?_) (fun hc => ?_)
        · replace H := ct hc H
          refine ev_seq ?_
          refine ev_region ?_
          refine rq rfl rfl (q_fld_p rfl) ?_
          refine rq rfl rfl (q_load1 rfl rfl rfl) ?_
          refine rq rfl rfl (q_move rfl) ?_
          refine rq rfl rfl (q_assign rfl) ?_
          refine rq rfl rfl (q_assign rfl) ?_
          refine rq rfl rfl (q_assign rfl) ?_
          refine run_nil ?_
          refine ev_ret ?_
          exact ret_ok [vi 3, V.l 5 (List.map GRead.e x8.2.1), vi 0] (congrArg (fun r : Int × (List GRead) × Int => V.t [vi r.1, V.l 5 (List.map GRead.e r.2.1), vi r.2.2]) (Option.some.inj H)) rfl (.cons (.tmp rfl (.v _ _ (fun _ => rfl))) (.cons (.tmp rfl (.v _ _ (fun _ => rfl))) (.cons (.tmp rfl (.v _ _ (fun _ => rfl))) .nil)))
        · replace H := cf hc H
          refine ev_skip ?_
          refine ev_region ?_
          refine rq rfl rfl (q_add rfl rfl) ?_
          refine rq rfl rfl (q_move rfl) ?_
          refine run_nil ?_
          refine rounds_step ?_
          refine ev_seq ?_
          refine ev_region ?_
          refine rq rfl rfl (q_lss rfl rfl) ?_
          refine run_nil ?_
          refine ev_seq ?_
          refine ev_condt rfl ?_
          refine ev_skip ?_
          refine ev_seq ?_
          refine ev_block ?_
          refine ev_seq ?_
          refine ev_region ?_
          refine rq rfl rfl (q_idx_l rfl rfl (by decide) rfl rfl) ?_
          refine rq rfl rfl (q_load_e rfl rfl rfl) ?_
          refine re rfl (e_alloc 20 0 rfl rfl) ?_; rintro _ ⟨b12, rfl⟩
          refine re rfl (e_store rfl rfl rfl rfl rfl (Nat.le_of_ble_eq_true rfl) rfl) ?_; rintro _ rfl
          refine run_nil ?_
          refine ev_seq ?_
          refine ev_region ?_
          refine rq rfl rfl (q_fld_p rfl) ?_
          refine rq rfl rfl (q_load1 rfl rfl rfl) ?_
          obtain ⟨x13, x13_h, H⟩ := bd_inv H
          refine rq rfl rfl (q_call rfl (.v _ _ (fun e => nomatch e)) ArgsOk.nil inferInstance (quality_State_2_c  x13_h)) ?_
          refine run_nil ?_
          refine ev_cond rfl (fun hc => ?_) (fun hc => ?_)
          · replace H := ct hc H
            refine ev_seq ?_
            refine ev_region ?_
            refine rq rfl rfl (q_fld_p rfl) ?_
            refine rq rfl rfl (q_load1 rfl rfl rfl) ?_
            refine rq rfl rfl (q_move rfl) ?_
            refine rq rfl rfl (q_assign rfl) ?_
            refine rq rfl rfl (q_assign rfl) ?_
            refine rq rfl rfl (q_assign rfl) ?_
            refine run_nil ?_
            refine ev_ret ?_
            exact ret_ok [vi 2, V.l 5 (List.map GRead.e x8.2.1), vi 0] (congrArg (fun r : Int × (List GRead) × Int => V.t [vi r.1, V.l 5 (List.map GRead.e r.2.1), vi r.2.2]) (Option.some.inj H)) rfl (.cons (.tmp rfl (.v _ _ (fun _ => rfl))) (.cons (.tmp rfl (.v _ _ (fun _ => rfl))) (.cons (.tmp rfl (.v _ _ (fun _ => rfl))) .nil)))
          · replace H := cf hc H
            refine ev_skip ?_
            refine ev_region ?_
            refine rq rfl rfl (q_add rfl rfl) ?_
            refine rq rfl rfl (q_move rfl) ?_
            refine run_nil ?_
            refine rounds_step ?_
            refine ev_seq ?_
            refine ev_region ?_
            refine rq rfl rfl (q_lss rfl rfl) ?_
            refine run_nil ?_
            refine ev_seq ?_
            refine ev_condt rfl ?_
            refine ev_skip ?_
            refine ev_seq ?_
            refine ev_block ?_
            refine ev_seq ?_
            refine ev_region ?_
            refine rq rfl rfl (q_idx_l rfl rfl (by decide) rfl rfl) ?_
            refine rq rfl rfl (q_load_e rfl rfl rfl) ?_
            refine re rfl (e_alloc 20 0 rfl rfl) ?_; rintro _ ⟨b14, rfl⟩
            refine re rfl (e_store rfl rfl rfl rfl rfl (Nat.le_of_ble_eq_true rfl) rfl) ?_; rintro _ rfl
            refine run_nil ?_
            refine ev_seq ?_
            refine ev_region ?_
            refine rq rfl rfl (q_fld_p rfl) ?_
            refine rq rfl rfl (q_load1 rfl rfl rfl) ?_
            obtain ⟨x15, x15_h, H⟩ := bd_inv H
            refine rq rfl rfl (q_call rfl (.v _ _ (fun e => nomatch e)) ArgsOk.nil inferInstance (quality_State_3_c  x15_h)) ?_
            refine run_nil ?_
            refine ev_cond rfl (fun hc => ?_) (fun hc => ?_)
            · replace H := ct hc H
              refine ev_seq ?_
              refine ev_region ?_
              refine rq rfl rfl (q_fld_p rfl) ?_
              refine rq rfl rfl (q_load1 rfl rfl rfl) ?_
              refine rq rfl rfl (q_move rfl) ?_
              refine rq rfl rfl (q_assign rfl) ?_
              refine rq rfl rfl (q_assign rfl) ?_
              refine rq rfl rfl (q_assign rfl) ?_
              refine run_nil ?_
              refine ev_ret ?_
              exact ret_ok [vi 1, V.l 5 (List.map GRead.e x8.2.1), vi 0] (congrArg (fun r : Int × (List GRead) × Int => V.t [vi r.1, V.l 5 (List.map GRead.e r.2.1), vi r.2.2]) (Option.some.inj H)) rfl (.cons (.tmp rfl (.v _ _ (fun _ => rfl))) (.cons (.tmp rfl (.v _ _ (fun _ => rfl))) (.cons (.tmp rfl (.v _ _ (fun _ => rfl))) .nil)))
            · replace H := cf hc H
              refine ev_skip ?_
              refine ev_region ?_
              refine rq rfl rfl (q_add rfl rfl) ?_
              refine rq rfl rfl (q_move rfl) ?_
              refine run_nil ?_
              refine rounds_step ?_
              refine ev_seq ?_
              refine ev_region ?_
              refine rq rfl rfl (q_lss rfl rfl) ?_
              refine run_nil ?_
              refine ev_seq ?_
              refine ev_condf rfl ?_
              refine ev_exit ?_
              refine ev_seq ?_
              refine ev_region ?_
              refine rq rfl rfl (q_move rfl) ?_
              refine rq rfl rfl (q_assign rfl) ?_
              refine rq rfl rfl (q_assign rfl) ?_
              refine rq rfl rfl (q_assign rfl) ?_
              refine run_nil ?_
              refine ev_ret ?_
              exact ret_ok [vi 0, V.l 5 (List.map GRead.e x8.2.1), vi 0] (congrArg (fun r : Int × (List GRead) × Int => V.t [vi r.1, V.l 5 (List.map GRead.e r.2.1), vi r.2.2]) (Option.some.inj H)) rfl (.cons (.tmp rfl (.v _ _ (fun _ => rfl))) (.cons (.tmp rfl (.v _ _ (fun _ => rfl))) (.cons (.tmp rfl (.v _ _ (fun _ => rfl))) .nil)))
def backflushlaw40_sane_m  : Option Bool := bd (backflushlaw40_example_m) fun x1 => bd (quality_Result_m (⟨(⟨(⟨[], [], [], [], [], [], [], []⟩ : GSource), [], []⟩ : GTables), []⟩ : GWorld) 0 0 0 1) fun x3 => bd (quality_Result_m x1 0 2 4 1) fun x4 => bd (quality_Certify_m (⟨(⟨(⟨[], [], [], [], [], [], [], []⟩ : GSource), [], []⟩ : GTables), []⟩ : GWorld) 0 0 1 []) fun x5 => bd (quality_Certify_m x1 0 4 1 ([(⟨2, 7, 7⟩ : GSpec), (⟨3, 0, 9⟩ : GSpec)] : List GSpec)) fun x7 => bd (quality_Certify_m x1 0 4 1 ([(⟨2, 7, 8⟩ : GSpec)] : List GSpec)) fun x9 => bd (quality_Check_m x1 x7.1 4 1 ([(⟨2, 7, 7⟩ : GSpec), (⟨3, 0, 9⟩ : GSpec)] : List GSpec)) fun x11 => bd (quality_Check_m x1 x9.1 4 1 ([(⟨2, 7, 7⟩ : GSpec), (⟨3, 0, 9⟩ : GSpec)] : List GSpec)) fun x12 => bdc (!(bif bif x3.1 != 0 then true else x3.2.2 then true else ((x3.2.1.length : Nat) : Int) != 1)) (idx x3.2.1 0) fun x13 => bif bif bif bif bif bif bif bif bif bif bif bif bif x3.1 != 0 then true else x3.2.2 then true else ((x3.2.1.length : Nat) : Int) != 1 then true else !(GRead.eqb x13 (⟨(⟨8, 0, 0⟩ : GKey), 0, 1⟩ : GRead)) then true else x4.1 != 7 then true else !x4.2.2 then true else x5.2.2 != 400 then true else x7.2.2 != 0 then true else x9.2.2 != 0 then true else x11.2 != 0 then true else x12.2 != 0 then true else !x11.1 then true else x12.1 then (some false) else (bdc (!(bif bif x7.1.good then true else !x9.1.good then true else ((x7.1.results.length : Nat) : Int) != 1)) (idx x7.1.results 0) fun x14 => bdc (!(bif bif bif bif x7.1.good then true else !x9.1.good then true else ((x7.1.results.length : Nat) : Int) != 1 then true else !(GPoint.eqb x14 (⟨2, 7⟩ : GPoint)) then true else decide (((x7.2.1.length : Nat) : Int) < 2))) (idx x7.2.1 (wr (((x7.2.1.length : Nat) : Int) - 1))) fun x15 => bif bif bif bif bif bif x7.1.good then true else !x9.1.good then true else ((x7.1.results.length : Nat) : Int) != 1 then true else !(GPoint.eqb x14 (⟨2, 7⟩ : GPoint)) then true else decide (((x7.2.1.length : Nat) : Int) < 2) then true else x15.key.object != 3 then (some false) else (forN 0 ((([(⟨4, 0, ([(⟨2, 7, 8⟩ : GSpec)] : List GSpec), []⟩ : S_day_want_l_held), (⟨4, 1, ([(⟨2, 8, 9⟩ : GSpec)] : List GSpec), []⟩ : S_day_want_l_held), (⟨4, 2, ([(⟨2, 8, 9⟩ : GSpec)] : List GSpec), ([0, 5] : List Int)⟩ : S_day_want_l_held), (⟨9, 1, ([(⟨2, 7, 8⟩ : GSpec)] : List GSpec), []⟩ : S_day_want_l_held), (⟨8, 0, [], ([1] : List Int)⟩ : S_day_want_l_held)] : List S_day_want_l_held).length : Nat) : Int) (fun (k18 : Int) (s16 : Unit) loop17 => bd (idx ([(⟨4, 0, ([(⟨2, 7, 8⟩ : GSpec)] : List GSpec), []⟩ : S_day_want_l_held), (⟨4, 1, ([(⟨2, 8, 9⟩ : GSpec)] : List GSpec), []⟩ : S_day_want_l_held), (⟨4, 2, ([(⟨2, 8, 9⟩ : GSpec)] : List GSpec), ([0, 5] : List Int)⟩ : S_day_want_l_held), (⟨9, 1, ([(⟨2, 7, 8⟩ : GSpec)] : List GSpec), []⟩ : S_day_want_l_held), (⟨8, 0, [], ([1] : List Int)⟩ : S_day_want_l_held)] : List S_day_want_l_held) k18) fun x27 => bd (quality_State_m x1 0 x27.day 1 x27.l x27.held) fun x29 => bif bif x29.2.2 != 0 then true else x29.1 != x27.want then (some false) else (loop17 ())) (fun (s16 : Unit) => bd (quality_State_m (⟨(⟨(⟨[], [], [], [], [], [], [], []⟩ : GSource), [], []⟩ : GTables), []⟩ : GWorld) 0 0 1 [] []) fun x30 => bd (quality_State_m (⟨(⟨(⟨[], [], [], [], [], [], [], []⟩ : GSource), [], []⟩ : GTables), []⟩ : GWorld) 0 0 1 [] ([2, 2] : List Int)) fun x31 => some (bif bif x30.1 == 3 then x30.2.2 == 0 else false then x31.2.2 == 400 else false)) ()))
set_option maxHeartbeats 4000000 in
theorem backflushlaw40_sane_c  {r : Bool} (H : backflushlaw40_sane_m  = some r) : PureC Try.prog true 15 [] (vb r) := by
  unfold backflushlaw40_sane_m at H
  refine pure_intro (N := 240) Try.func15 rfl rfl rfl rfl fun C hO => ?_
  refine ev_seq ?_
  refine ev_region ?_
  refine rq rfl rfl (q_assign rfl) ?_
  refine run_nil ?_
  refine ev_seq ?_
  refine ev_region ?_
  obtain ⟨x1, x1_h, H⟩ := bd_inv H
  refine rq rfl rfl (q_calla rfl CapsOk.nil inferInstance (backflushlaw40_example_c  x1_h)) ?_
  refine re rfl (e_alloc 1 0 rfl rfl) ?_; rintro _ ⟨b2, rfl⟩
  refine re rfl (e_store rfl rfl rfl rfl rfl (Nat.le_of_ble_eq_true rfl) rfl) ?_; rintro _ rfl
  refine run_nil ?_
  refine ev_seq ?_
  refine ev_region ?_
  refine rq rfl rfl (q_build rfl (.v rfl rfl rfl rfl rfl (.v rfl rfl rfl rfl rfl (.v rfl rfl rfl rfl rfl .nil)))) ?_
  refine rq rfl rfl (q_buildSlice (z := 3) (xs := List.map GSpec.e ([(⟨2, 7, 8⟩ : GSpec)] : List GSpec)) (fl := true) rfl rfl rfl rfl (by simp [V.plain, V.cells, GSpec.e, vi, vb]) rfl) ?_
  refine rq rfl rfl (q_build rfl (.v rfl rfl rfl rfl rfl (.v rfl rfl rfl rfl rfl (.v rfl rfl rfl rfl rfl .nil)))) ?_
  refine rq rfl rfl (q_buildSlice (z := 3) (xs := List.map GSpec.e ([(⟨2, 8, 9⟩ : GSpec)] : List GSpec)) (fl := true) rfl rfl rfl rfl (by simp [V.plain, V.cells, GSpec.e, vi, vb]) rfl) ?_
  refine rq rfl rfl (q_build rfl (.v rfl rfl rfl rfl rfl (.v rfl rfl rfl rfl rfl (.v rfl rfl rfl rfl rfl .nil)))) ?_
  refine rq rfl rfl (q_build rfl (.v rfl rfl rfl rfl rfl (.v rfl rfl rfl rfl rfl .nil))) ?_
  refine rq rfl rfl (q_buildSlice (z := 3) (xs := List.map GSpec.e ([(⟨2, 7, 7⟩ : GSpec), (⟨3, 0, 9⟩ : GSpec)] : List GSpec)) (fl := true) rfl rfl rfl rfl (by simp [V.plain, V.cells, GSpec.e, vi, vb]) rfl) ?_
  refine rq rfl rfl (q_assign rfl) ?_
  refine rq rfl rfl (q_assign rfl) ?_
  refine rq rfl rfl (q_assign rfl) ?_
  refine run_nil ?_
  refine ev_seq ?_
  refine ev_region ?_
  refine rq rfl rfl (Quiet.wk (d := .v true (GWorld.e (⟨(⟨(⟨[], [], [], [], [], [], [], []⟩ : GSource), [], []⟩ : GTables), []⟩ : GWorld))) (q_build rfl .nil) (Wk.nilLe (NilLe.st (by repeat (first | exact NilLes.nil | refine NilLes.cons (.refl _) ?_ | refine NilLes.cons (.nil _) ?_))))) ?_
  obtain ⟨x3, x3_h, H⟩ := bd_inv H
  refine rq rfl rfl (q_call rfl (.v _ _ (fun e => nomatch e)) (.v rfl (.v rfl (.v rfl (.v rfl (.v rfl ArgsOk.nil))))) inferInstance (quality_Result_c  x3_h)) ?_
  refine rq rfl rfl (q_move rfl) ?_
  refine rq rfl rfl (q_extract rfl rfl) ?_
  refine rq rfl rfl (q_extract rfl rfl) ?_
  refine rq rfl rfl (q_extract rfl rfl) ?_
  refine rq rfl rfl (q_assign rfl) ?_
  refine rq rfl rfl (q_assign rfl) ?_
  refine rq rfl rfl (q_assign rfl) ?_
  refine run_nil ?_
  refine ev_seq ?_
  refine ev_region ?_
  refine rq rfl rfl (q_loadN rfl rfl rfl rfl) ?_
  obtain ⟨x4, x4_h, H⟩ := bd_inv H
  refine rq rfl rfl (q_call rfl (.v _ _ (fun e => nomatch e)) (.v rfl (.v rfl (.v rfl (.v rfl (.v rfl ArgsOk.nil))))) inferInstance (quality_Result_c  x4_h)) ?_
  refine rq rfl rfl (q_move rfl) ?_
  refine rq rfl rfl (q_extract rfl rfl) ?_
  refine rq rfl rfl (q_extract rfl rfl) ?_
  refine rq rfl rfl (q_extract rfl rfl) ?_
  refine rq rfl rfl (q_assign rfl) ?_
  refine rq rfl rfl (q_assign rfl) ?_
  refine rq rfl rfl (q_assign rfl) ?_
  refine run_nil ?_
  refine ev_seq ?_
  refine ev_region ?_
  refine rq rfl rfl (Quiet.wk (d := .v true (GWorld.e (⟨(⟨(⟨[], [], [], [], [], [], [], []⟩ : GSource), [], []⟩ : GTables), []⟩ : GWorld))) (q_build rfl .nil) (Wk.nilLe (NilLe.st (by repeat (first | exact NilLes.nil | refine NilLes.cons (.refl _) ?_ | refine NilLes.cons (.nil _) ?_))))) ?_
  obtain ⟨x5, x5_h, H⟩ := bd_inv H
  refine rq rfl rfl (q_call rfl (.v _ _ (fun e => nomatch e)) (.v rfl (.v rfl (.v rfl (.v rfl (.z rfl ArgsOk.nil))))) inferInstance (quality_Certify_c  x5_h)) ?_
  refine rq rfl rfl (q_move rfl) ?_
  refine rq rfl rfl (q_extract rfl rfl) ?_
  refine rq rfl rfl (q_extract rfl rfl) ?_
  refine rq rfl rfl (q_extract rfl rfl) ?_
  refine re rfl (e_alloc 11 0 rfl rfl) ?_; rintro _ ⟨b6, rfl⟩
  refine re rfl (e_store rfl rfl rfl rfl rfl (Nat.le_of_ble_eq_true rfl) rfl) ?_; rintro _ rfl
  refine rq rfl rfl (q_assign rfl) ?_
  refine rq rfl rfl (q_assign rfl) ?_
  refine run_nil ?_
  refine ev_seq ?_
  refine ev_region ?_
  refine rq rfl rfl (q_loadN rfl rfl rfl rfl) ?_
  refine rq rfl rfl (q_move rfl) ?_
  obtain ⟨x7, x7_h, H⟩ := bd_inv H
  refine rq rfl rfl (q_call rfl (.v _ _ (fun e => nomatch e)) (.v rfl (.v rfl (.v rfl (.v rfl (.v rfl ArgsOk.nil))))) inferInstance (quality_Certify_c  x7_h)) ?_
  refine rq rfl rfl (q_move rfl) ?_
  refine rq rfl rfl (q_extract rfl rfl) ?_
  refine rq rfl rfl (q_extract rfl rfl) ?_
  refine rq rfl rfl (q_extract rfl rfl) ?_
  refine re rfl (e_alloc 14 0 rfl rfl) ?_; rintro _ ⟨b8, rfl⟩
  refine re rfl (e_store rfl rfl rfl rfl rfl (Nat.le_of_ble_eq_true rfl) rfl) ?_; rintro _ rfl
  refine rq rfl rfl (q_assign rfl) ?_
  refine rq rfl rfl (q_assign rfl) ?_
  refine run_nil ?_
  refine ev_seq ?_
  refine ev_region ?_
  refine rq rfl rfl (q_loadN rfl rfl rfl rfl) ?_
  refine rq rfl rfl (q_move rfl) ?_
  obtain ⟨x9, x9_h, H⟩ := bd_inv H
  refine rq rfl rfl (q_call rfl (.v _ _ (fun e => nomatch e)) (.v rfl (.v rfl (.v rfl (.v rfl (.v rfl ArgsOk.nil))))) inferInstance (quality_Certify_c  x9_h)) ?_
  refine rq rfl rfl (q_move rfl) ?_
  refine rq rfl rfl (q_extract rfl rfl) ?_
  refine rq rfl rfl (q_extract rfl rfl) ?_
  refine rq rfl rfl (q_extract rfl rfl) ?_
  refine re rfl (e_alloc 17 0 rfl rfl) ?_; rintro _ ⟨b10, rfl⟩
  refine re rfl (e_store rfl rfl rfl rfl rfl (Nat.le_of_ble_eq_true rfl) rfl) ?_; rintro _ rfl
  refine rq rfl rfl (q_assign rfl) ?_
  refine rq rfl rfl (q_assign rfl) ?_
  refine run_nil ?_
  refine ev_seq ?_
  refine ev_region ?_
  refine rq rfl rfl (q_loadN rfl rfl rfl rfl) ?_
  refine rq rfl rfl (q_loadN rfl rfl rfl rfl) ?_
  refine rq rfl rfl (q_move rfl) ?_
  obtain ⟨x11, x11_h, H⟩ := bd_inv H
  refine rq rfl rfl (q_call rfl (.v _ _ (fun e => nomatch e)) (.v rfl (.v rfl (.v rfl (.v rfl (.v rfl ArgsOk.nil))))) inferInstance (quality_Check_c  x11_h)) ?_
  refine rq rfl rfl (q_move rfl) ?_
  refine rq rfl rfl (q_extract rfl rfl) ?_
  refine rq rfl rfl (q_extract rfl rfl) ?_
  refine rq rfl rfl (q_assign rfl) ?_
  refine rq rfl rfl (q_assign rfl) ?_
  refine run_nil ?_
  refine ev_seq ?_
  refine ev_region ?_
  refine rq rfl rfl (q_loadN rfl rfl rfl rfl) ?_
  refine rq rfl rfl (q_loadN rfl rfl rfl rfl) ?_
  refine rq rfl rfl (q_move rfl) ?_
  obtain ⟨x12, x12_h, H⟩ := bd_inv H
  refine rq rfl rfl (q_call rfl (.v _ _ (fun e => nomatch e)) (.v rfl (.v rfl (.v rfl (.v rfl (.v rfl ArgsOk.nil))))) inferInstance (quality_Check_c  x12_h)) ?_
  refine rq rfl rfl (q_move rfl) ?_
  refine rq rfl rfl (q_extract rfl rfl) ?_
  refine rq rfl rfl (q_extract rfl rfl) ?_
  refine rq rfl rfl (q_assign rfl) ?_
  refine rq rfl rfl (q_assign rfl) ?_
  refine run_nil ?_
  refine ev_seq ?_
  refine ev_seq ?_
  refine ev_region ?_
  refine rq rfl rfl (q_move rfl) ?_
  refine rq rfl rfl (q_nei rfl rfl) ?_
  refine rq rfl rfl (q_move rfl) ?_
  refine rqc (l := []) ⟨⟨_, _, _, rfl, rfl, rfl, rfl⟩, rfl, fun hc => q_move rfl, trivial⟩ rfl ?_
  refine rq rfl rfl (q_pickb rfl rfl rfl PB.v (PB.c (fun hp => by rw [hp]; rfl))) ?_
  refine rq rfl rfl (q_move rfl) ?_
  refine rqc (l := []) ⟨⟨_, _, _, rfl, rfl, rfl, rfl⟩, rfl, fun hc => q_move rfl, trivial⟩ rfl ?_
  refine rqc (l := [95]) ⟨⟨_, _, _, rfl, rfl, rfl, rfl⟩, rfl, fun hc => q_len_t rfl, ⟨fun h => h, trivial⟩⟩ rfl ?_
  refine rqc (l := [96]) ⟨⟨_, _, _, rfl, rfl, rfl, rfl⟩, rfl, fun hc => q_nei rfl rfl, ⟨fun h => h, trivial⟩⟩ rfl ?_
  refine rq rfl rfl (q_pickb rfl rfl rfl PB.v (PB.c (fun hp => by rw [hp]; rfl))) ?_
  refine rq rfl rfl (q_move rfl) ?_
  refine rqc (l := []) ⟨⟨_, _, _, rfl, rfl, rfl, rfl⟩, rfl, fun hc => q_move rfl, trivial⟩ rfl ?_
  obtain ⟨x13, x13_h, _, H⟩ := bdc_inv H
  refine rqc (l := [100]) ⟨⟨_, _, _, rfl, rfl, rfl, rfl⟩, rfl, fun hc => q_idx_l rfl rfl (idx_inv (x13_h hc)).1 (map_get (idx_inv (x13_h hc)).2.1) rfl, ⟨fun h => h, trivial⟩⟩ rfl ?_
  refine rqc (l := [101]) ⟨⟨_, _, _, rfl, rfl, rfl, rfl⟩, rfl, fun hc => q_load_e rfl rfl rfl, ⟨fun h => h, trivial⟩⟩ rfl ?_
  refine rqc (l := []) ⟨⟨_, _, _, rfl, rfl, rfl, rfl⟩, rfl, fun hc => q_build rfl (.v rfl rfl rfl rfl rfl .nil), trivial⟩ rfl ?_
  refine rqc (l := [103]) ⟨⟨_, _, _, rfl, rfl, rfl, rfl⟩, rfl, fun hc => q_build rfl (.v rfl rfl rfl rfl rfl (.v rfl rfl rfl rfl rfl .nil)), ⟨fun h => h, trivial⟩⟩ rfl ?_
  refine rqc (l := [102, 104]) ⟨⟨_, _, _, rfl, rfl, rfl, rfl⟩, rfl, fun hc => q_nes rfl rfl (r := GRead.eqb x13 (⟨(⟨8, 0, 0⟩ : GKey), 0, 1⟩ : GRead)) rfl, ⟨fun h => h, ⟨fun h => h, trivial⟩⟩⟩ rfl ?_
  refine rq rfl rfl (q_pickb rfl rfl rfl PB.v (PB.c (fun hp => by rw [hp]; rfl))) ?_
  refine rq rfl rfl (q_move rfl) ?_
  refine rqc (l := []) ⟨⟨_, _, _, rfl, rfl, rfl, rfl⟩, rfl, fun hc => q_move rfl, trivial⟩ rfl ?_
  refine rqc (l := [108]) ⟨⟨_, _, _, rfl, rfl, rfl, rfl⟩, rfl, fun hc => q_nei rfl rfl, ⟨fun h => h, trivial⟩⟩ rfl ?_
  refine rq rfl rfl (q_pickb rfl rfl rfl PB.v (PB.c (fun hp => by rw [hp]; rfl))) ?_
  refine rq rfl rfl (q_move rfl) ?_
  refine rqc (l := []) ⟨⟨_, _, _, rfl, rfl, rfl, rfl⟩, rfl, fun hc => q_move rfl, trivial⟩ rfl ?_
  refine rqc (l := [112]) ⟨⟨_, _, _, rfl, rfl, rfl, rfl⟩, rfl, fun hc => q_not rfl, ⟨fun h => h, trivial⟩⟩ rfl ?_
  refine rq rfl rfl (q_pickb rfl rfl rfl PB.v (PB.c (fun hp => by rw [hp]; rfl))) ?_
  refine rq rfl rfl (q_move rfl) ?_
  refine rqc (l := []) ⟨⟨_, _, _, rfl, rfl, rfl, rfl⟩, rfl, fun hc => q_move rfl, trivial⟩ rfl ?_
  refine rqc (l := [116]) ⟨⟨_, _, _, rfl, rfl, rfl, rfl⟩, rfl, fun hc => q_nei rfl rfl, ⟨fun h => h, trivial⟩⟩ rfl ?_
  refine rq rfl rfl (q_pickb rfl rfl rfl PB.v (PB.c (fun hp => by rw [hp]; rfl))) ?_
  refine rq rfl rfl (q_move rfl) ?_
  refine rqc (l := []) ⟨⟨_, _, _, rfl, rfl, rfl, rfl⟩, rfl, fun hc => q_move rfl, trivial⟩ rfl ?_
  refine rqc (l := [120]) ⟨⟨_, _, _, rfl, rfl, rfl, rfl⟩, rfl, fun hc => q_nei rfl rfl, ⟨fun h => h, trivial⟩⟩ rfl ?_
  refine rq rfl rfl (q_pickb rfl rfl rfl PB.v (PB.c (fun hp => by rw [hp]; rfl))) ?_
  refine rq rfl rfl (q_move rfl) ?_
  refine rqc (l := []) ⟨⟨_, _, _, rfl, rfl, rfl, rfl⟩, rfl, fun hc => q_move rfl, trivial⟩ rfl ?_
  refine rqc (l := [124]) ⟨⟨_, _, _, rfl, rfl, rfl, rfl⟩, rfl, fun hc => q_nei rfl rfl, ⟨fun h => h, trivial⟩⟩ rfl ?_
  refine rq rfl rfl (q_pickb rfl rfl rfl PB.v (PB.c (fun hp => by rw [hp]; rfl))) ?_
  refine rq rfl rfl (q_move rfl) ?_
  refine rqc (l := []) ⟨⟨_, _, _, rfl, rfl, rfl, rfl⟩, rfl, fun hc => q_move rfl, trivial⟩ rfl ?_
  refine rqc (l := [128]) ⟨⟨_, _, _, rfl, rfl, rfl, rfl⟩, rfl, fun hc => q_nei rfl rfl, ⟨fun h => h, trivial⟩⟩ rfl ?_
  refine rq rfl rfl (q_pickb rfl rfl rfl PB.v (PB.c (fun hp => by rw [hp]; rfl))) ?_
  refine rq rfl rfl (q_move rfl) ?_
  refine rqc (l := []) ⟨⟨_, _, _, rfl, rfl, rfl, rfl⟩, rfl, fun hc => q_move rfl, trivial⟩ rfl ?_
  refine rqc (l := [132]) ⟨⟨_, _, _, rfl, rfl, rfl, rfl⟩, rfl, fun hc => q_nei rfl rfl, ⟨fun h => h, trivial⟩⟩ rfl ?_
  refine rq rfl rfl (q_pickb rfl rfl rfl PB.v (PB.c (fun hp => by rw [hp]; rfl))) ?_
  refine rq rfl rfl (q_move rfl) ?_
  refine rqc (l := []) ⟨⟨_, _, _, rfl, rfl, rfl, rfl⟩, rfl, fun hc => q_move rfl, trivial⟩ rfl ?_
  refine rqc (l := [136]) ⟨⟨_, _, _, rfl, rfl, rfl, rfl⟩, rfl, fun hc => q_not rfl, ⟨fun h => h, trivial⟩⟩ rfl ?_
  refine rq rfl rfl (q_pickb rfl rfl rfl PB.v (PB.c (fun hp => by rw [hp]; rfl))) ?_
  refine rq rfl rfl (q_move rfl) ?_
  refine rqc (l := []) ⟨⟨_, _, _, rfl, rfl, rfl, rfl⟩, rfl, fun hc => q_move rfl, trivial⟩ rfl ?_
  refine rq rfl rfl (q_pickb rfl rfl rfl PB.v (PB.c (fun hp => by rw [hp]; rfl))) ?_
  refine run_nil ?_
  refine ev_cond rfl (fun hc => ?_) (fun hc => ?_)
  · replace H := ct hc H
    refine ev_seq ?_
    refine ev_region ?_
    refine rq rfl rfl (q_assign rfl) ?_
    refine run_nil ?_
    refine ev_ret ?_
    exact ret_ok [vb false] (congrArg (fun r : Bool => vb r) (Option.some.inj H)) rfl (.cons (.tmp rfl (.v _ _ (fun _ => rfl))) .nil)
  · replace H := cf hc H
    refine ev_skip ?_
    refine ev_seq ?_
    refine ev_seq ?_
    refine ev_region ?_
    refine rq rfl rfl (q_fld_p rfl) ?_
    refine rq rfl rfl (q_load1 rfl rfl rfl) ?_
    refine rq rfl rfl (q_move rfl) ?_
    refine rqc (l := []) ⟨⟨_, _, _, rfl, rfl, rfl, rfl⟩, rfl, fun hc => q_fld_p rfl, trivial⟩ rfl ?_
    refine rqc (l := [145]) ⟨⟨_, _, _, rfl, rfl, rfl, rfl⟩, rfl, fun hc => q_load1 rfl rfl rfl, ⟨fun h => h, trivial⟩⟩ rfl ?_
    refine rqc (l := [146]) ⟨⟨_, _, _, rfl, rfl, rfl, rfl⟩, rfl, fun hc => q_not rfl, ⟨fun h => h, trivial⟩⟩ rfl ?_
    refine rq rfl rfl (q_pickb rfl rfl rfl PB.v (PB.c (fun hp => by rw [hp]; rfl))) ?_
    refine rq rfl rfl (q_move rfl) ?_
    refine rqc (l := []) ⟨⟨_, _, _, rfl, rfl, rfl, rfl⟩, rfl, fun hc => q_fld_p rfl, trivial⟩ rfl ?_
    refine rqc (l := [150]) ⟨⟨_, _, _, rfl, rfl, rfl, rfl⟩, rfl, fun hc => q_load1 rfl rfl rfl, ⟨fun h => h, trivial⟩⟩ rfl ?_
    refine rqc (l := [151]) ⟨⟨_, _, _, rfl, rfl, rfl, rfl⟩, rfl, fun hc => q_len_t rfl, ⟨fun h => h, trivial⟩⟩ rfl ?_
    refine rqc (l := [152]) ⟨⟨_, _, _, rfl, rfl, rfl, rfl⟩, rfl, fun hc => q_nei rfl rfl, ⟨fun h => h, trivial⟩⟩ rfl ?_
    refine rq rfl rfl (q_pickb rfl rfl rfl PB.v (PB.c (fun hp => by rw [hp]; rfl))) ?_
    refine rq rfl rfl (q_move rfl) ?_
    refine rqc (l := []) ⟨⟨_, _, _, rfl, rfl, rfl, rfl⟩, rfl, fun hc => q_fld_p rfl, trivial⟩ rfl ?_
    refine rqc (l := [156]) ⟨⟨_, _, _, rfl, rfl, rfl, rfl⟩, rfl, fun hc => q_load1 rfl rfl rfl, ⟨fun h => h, trivial⟩⟩ rfl ?_
    obtain ⟨x14, x14_h, _, H⟩ := bdc_inv H
    refine rqc (l := [157]) ⟨⟨_, _, _, rfl, rfl, rfl, rfl⟩, rfl, fun hc => q_idx_l rfl rfl (idx_inv (x14_h hc)).1 (map_get (idx_inv (x14_h hc)).2.1) rfl, ⟨fun h => h, trivial⟩⟩ rfl ?_
    refine rqc (l := [158]) ⟨⟨_, _, _, rfl, rfl, rfl, rfl⟩, rfl, fun hc => q_load_e rfl rfl rfl, ⟨fun h => h, trivial⟩⟩ rfl ?_
    refine rqc (l := []) ⟨⟨_, _, _, rfl, rfl, rfl, rfl⟩, rfl, fun hc => q_build rfl (.v rfl rfl rfl rfl rfl (.v rfl rfl rfl rfl rfl .nil)), trivial⟩ rfl ?_
    refine rqc (l := [159, 160]) ⟨⟨_, _, _, rfl, rfl, rfl, rfl⟩, rfl, fun hc => q_nes rfl rfl (r := GPoint.eqb x14 (⟨2, 7⟩ : GPoint)) rfl, ⟨fun h => h, ⟨fun h => h, trivial⟩⟩⟩ rfl ?_
    refine rq rfl rfl (q_pickb rfl rfl rfl PB.v (PB.c (fun hp => by rw [hp]; rfl))) ?_
    refine rq rfl rfl (q_move rfl) ?_
    refine rqc (l := []) ⟨⟨_, _, _, rfl, rfl, rfl, rfl⟩, rfl, fun hc => q_move rfl, trivial⟩ rfl ?_
    refine rqc (l := [164]) ⟨⟨_, _, _, rfl, rfl, rfl, rfl⟩, rfl, fun hc => q_len_t rfl, ⟨fun h => h, trivial⟩⟩ rfl ?_
    refine rqc (l := [165]) ⟨⟨_, _, _, rfl, rfl, rfl, rfl⟩, rfl, fun hc => q_lss rfl rfl, ⟨fun h => h, trivial⟩⟩ rfl ?_
    refine rq rfl rfl (q_pickb rfl rfl rfl PB.v (PB.c (fun hp => by rw [hp]; rfl))) ?_
    refine rq rfl rfl (q_move rfl) ?_
    refine rqc (l := []) ⟨⟨_, _, _, rfl, rfl, rfl, rfl⟩, rfl, fun hc => q_move rfl, trivial⟩ rfl ?_
    refine rqc (l := []) ⟨⟨_, _, _, rfl, rfl, rfl, rfl⟩, rfl, fun hc => q_move rfl, trivial⟩ rfl ?_
    refine rqc (l := [170]) ⟨⟨_, _, _, rfl, rfl, rfl, rfl⟩, rfl, fun hc => q_len_t rfl, ⟨fun h => h, trivial⟩⟩ rfl ?_
    refine rqc (l := [171]) ⟨⟨_, _, _, rfl, rfl, rfl, rfl⟩, rfl, fun hc => q_sub rfl rfl, ⟨fun h => h, trivial⟩⟩ rfl ?_
    obtain ⟨x15, x15_h, _, H⟩ := bdc_inv H
    refine rqc (l := [169, 172]) ⟨⟨_, _, _, rfl, rfl, rfl, rfl⟩, rfl, fun hc => q_idx_l rfl rfl (idx_inv (x15_h hc)).1 (map_get (idx_inv (x15_h hc)).2.1) rfl, ⟨fun h => h, ⟨fun h => h, trivial⟩⟩⟩ rfl ?_
    refine rqc (l := [173]) ⟨⟨_, _, _, rfl, rfl, rfl, rfl⟩, rfl, fun hc => q_fld_q rfl, ⟨fun h => h, trivial⟩⟩ rfl ?_
    refine rqc (l := [174]) ⟨⟨_, _, _, rfl, rfl, rfl, rfl⟩, rfl, fun hc => q_fld_q rfl, ⟨fun h => h, trivial⟩⟩ rfl ?_
    refine rqc (l := [175]) ⟨⟨_, _, _, rfl, rfl, rfl, rfl⟩, rfl, fun hc => q_load1_q rfl, ⟨fun h => h, trivial⟩⟩ rfl ?_
    refine rqc (l := [176]) ⟨⟨_, _, _, rfl, rfl, rfl, rfl⟩, rfl, fun hc => q_nei rfl rfl, ⟨fun h => h, trivial⟩⟩ rfl ?_
    refine rq rfl rfl (q_pickb rfl rfl rfl PB.v (PB.c (fun hp => by rw [hp]; rfl))) ?_
    refine run_nil ?_
    refine ev_cond rfl (fun hc => ?_) (fun hc => ?_)
    · replace H := ct hc H
      refine ev_seq ?_
      refine ev_region ?_
      refine rq rfl rfl (q_assign rfl) ?_
      refine run_nil ?_
      refine ev_ret ?_
      exact ret_ok [vb false] (congrArg (fun r : Bool => vb r) (Option.some.inj H)) rfl (.cons (.tmp rfl (.v _ _ (fun _ => rfl))) .nil)
    · replace H := cf hc H
      refine ev_skip ?_
      refine ev_seq ?_
      refine ev_seq ?_
      refine ev_region ?_
      refine rq rfl rfl (q_move rfl) ?_
      refine rq rfl rfl (q_build rfl (.v rfl rfl rfl rfl rfl (.v rfl rfl rfl rfl rfl (.v rfl rfl rfl rfl rfl (.nils 1 rfl rfl rfl .nil))))) ?_
      refine rq rfl rfl (q_move rfl) ?_
      refine rq rfl rfl (q_build rfl (.v rfl rfl rfl rfl rfl (.v rfl rfl rfl rfl rfl (.v rfl rfl rfl rfl rfl (.nils 1 rfl rfl rfl .nil))))) ?_
      refine rq rfl rfl (q_move rfl) ?_
      refine rq rfl rfl (q_buildSlice (z := 1) (xs := List.map vi ([0, 5] : List Int)) (fl := true) rfl rfl rfl rfl (by simp [V.plain, V.cells, vi, vb]) rfl) ?_
      refine rq rfl rfl (q_build rfl (.v rfl rfl rfl rfl rfl (.v rfl rfl rfl rfl rfl (.v rfl rfl rfl rfl rfl (.v rfl rfl rfl rfl rfl .nil))))) ?_
      refine rq rfl rfl (q_move rfl) ?_
      refine rq rfl rfl (q_build rfl (.v rfl rfl rfl rfl rfl (.v rfl rfl rfl rfl rfl (.v rfl rfl rfl rfl rfl (.nils 1 rfl rfl rfl .nil))))) ?_
      refine rq rfl rfl (q_buildSlice (z := 1) (xs := List.map vi ([1] : List Int)) (fl := true) rfl rfl rfl rfl (by simp [V.plain, V.cells, vi, vb]) rfl) ?_
      refine rq rfl rfl (q_build rfl (.v rfl rfl rfl rfl rfl (.v rfl rfl rfl rfl rfl (.nils 3 rfl rfl rfl (.v rfl rfl rfl rfl rfl .nil))))) ?_
      refine rq rfl rfl (q_buildSlice (z := 4) (xs := List.map S_day_want_l_held.e ([(⟨4, 0, ([(⟨2, 7, 8⟩ : GSpec)] : List GSpec), []⟩ : S_day_want_l_held), (⟨4, 1, ([(⟨2, 8, 9⟩ : GSpec)] : List GSpec), []⟩ : S_day_want_l_held), (⟨4, 2, ([(⟨2, 8, 9⟩ : GSpec)] : List GSpec), ([0, 5] : List Int)⟩ : S_day_want_l_held), (⟨9, 1, ([(⟨2, 7, 8⟩ : GSpec)] : List GSpec), []⟩ : S_day_want_l_held), (⟨8, 0, [], ([1] : List Int)⟩ : S_day_want_l_held)] : List S_day_want_l_held)) (fl := true) rfl rfl rfl rfl (by simp [V.plain, V.cells, S_day_want_l_held.e, vi, vb]) rfl) ?_
      refine rq rfl rfl (q_len_t rfl) ?_
      refine rq rfl rfl (q_move rfl) ?_
      refine run_nil ?_
      refine ev_block ?_
      refine ev_forN H (fun k18 s16 σ' => σ' = mkS [(0, .v true (vb false)), (1, .p 1 0 b2 0), (190, .v true (V.l 4 (List.map S_day_want_l_held.e ([(⟨4, 0, ([(⟨2, 7, 8⟩ : GSpec)] : List GSpec), []⟩ : S_day_want_l_held), (⟨4, 1, ([(⟨2, 8, 9⟩ : GSpec)] : List GSpec), []⟩ : S_day_want_l_held), (⟨4, 2, ([(⟨2, 8, 9⟩ : GSpec)] : List GSpec), ([0, 5] : List Int)⟩ : S_day_want_l_held), (⟨9, 1, ([(⟨2, 7, 8⟩ : GSpec)] : List GSpec), []⟩ : S_day_want_l_held), (⟨8, 0, [], ([1] : List Int)⟩ : S_day_want_l_held)] : List S_day_want_l_held)))), (191, .v true (vi ((([(⟨4, 0, ([(⟨2, 7, 8⟩ : GSpec)] : List GSpec), []⟩ : S_day_want_l_held), (⟨4, 1, ([(⟨2, 8, 9⟩ : GSpec)] : List GSpec), []⟩ : S_day_want_l_held), (⟨4, 2, ([(⟨2, 8, 9⟩ : GSpec)] : List GSpec), ([0, 5] : List Int)⟩ : S_day_want_l_held), (⟨9, 1, ([(⟨2, 7, 8⟩ : GSpec)] : List GSpec), []⟩ : S_day_want_l_held), (⟨8, 0, [], ([1] : List Int)⟩ : S_day_want_l_held)] : List S_day_want_l_held).length : Nat) : Int))), (192, .v true (vi k18))] [.e 1 0 (some (b2, 11)) (.row 38 [.v true (V.l 8 (List.map GUnit.e x1.tables.source.units)), .v true (V.l 6 (List.map GItem.e x1.tables.source.items)), .v true (V.l 1 (List.map V.s x1.tables.source.plants)), .v true (V.l 4 (List.map GMachine.e x1.tables.source.machines)), .v true (V.l 2 (List.map GOption.e x1.tables.source.options)), .v true (V.l 1 (List.map (fun l => V.l 4 (List.map GCond.e l)) x1.tables.source.forbids)), .v true (V.l 17 (List.map GRecipe.e x1.tables.source.recipes)), .v true (V.l 4 (List.map GSwap.e x1.tables.source.swaps)), .v true (V.l 1 (List.map vi x1.tables.levels)), .v true (V.l 1 (List.map (fun l => V.l 6 (List.map GInst.e l)) x1.tables.codes)), .v true (V.l 8 (List.map GFact.e x1.facts))])] [] (0, false)) ⟨_, rfl, shift_mk ⟨⟨_, rfl, (.flat rfl)⟩, ⟨⟨_, rfl, .rfl⟩, ⟨⟨_, rfl, .rfl⟩, ⟨⟨_, rfl, (.flat rfl)⟩, ⟨⟨_, rfl, .rfl⟩, trivial⟩⟩⟩⟩⟩ ⟨(.e rfl), trivial⟩ rfl rfl⟩ ?_
      rintro n20 k18 s16 _ rfl w21 w22 w23 w24 H
      refine ev_seq ?_
      refine ev_region ?_
      refine rq rfl rfl (q_lss rfl rfl) ?_
      refine run_nil ?_
      refine ev_seq ?_
      refine ev_cond rfl (fun hc => ?_) (fun hc => ?_)
      · obtain ⟨n26, n26_e, w25, H⟩ := forN_in hc w21 H
        refine ev_skip ?_
        refine ev_seq ?_
        refine ev_block ?_
        refine ev_seq ?_
        refine ev_region ?_
        obtain ⟨x27, x27_h, H⟩ := bd_inv H
        refine rq rfl rfl (q_idx_l rfl rfl (idx_inv x27_h).1 (map_get (idx_inv x27_h).2.1) rfl) ?_
        refine rq rfl rfl (q_load_e rfl rfl rfl) ?_
        refine re rfl (e_alloc 25 0 rfl rfl) ?_; rintro _ ⟨b28, rfl⟩
        refine re rfl (e_store rfl rfl rfl rfl rfl (Nat.le_of_ble_eq_true rfl) rfl) ?_; rintro _ rfl
        refine run_nil ?_
        refine ev_seq ?_
        refine ev_region ?_
        refine rq rfl rfl (q_loadN rfl rfl rfl rfl) ?_
        refine rq rfl rfl (q_fld_p rfl) ?_
        refine rq rfl rfl (q_load1 rfl rfl rfl) ?_
        refine rq rfl rfl (q_fld_p rfl) ?_
        refine rq rfl rfl (q_load1 rfl rfl rfl) ?_
        refine rq rfl rfl (q_fld_p rfl) ?_
        refine rq rfl rfl (q_load1 rfl rfl rfl) ?_
        obtain ⟨x29, x29_h, H⟩ := bd_inv H
        refine rq rfl rfl (q_call rfl (.v _ _ (fun e => nomatch e)) (.v rfl (.v rfl (.v rfl (.v rfl (.v rfl (.v rfl ArgsOk.nil)))))) inferInstance (quality_State_c  x29_h)) ?_
        refine rq rfl rfl (q_move rfl) ?_
        refine rq rfl rfl (q_extract rfl rfl) ?_
        refine rq rfl rfl (q_extract rfl rfl) ?_
        refine rq rfl rfl (q_extract rfl rfl) ?_
        refine rq rfl rfl (q_assign rfl) ?_
        refine rq rfl rfl (q_assign rfl) ?_
        refine rq rfl rfl (q_assign rfl) ?_
        refine run_nil ?_
        refine ev_seq ?_
        refine ev_region ?_
        refine rq rfl rfl (q_move rfl) ?_
        refine rq rfl rfl (q_nei rfl rfl) ?_
        refine rq rfl rfl (q_move rfl) ?_
        refine rqc (l := []) ⟨⟨_, _, _, rfl, rfl, rfl, rfl⟩, rfl, fun hc => q_move rfl, trivial⟩ rfl ?_
        refine rqc (l := []) ⟨⟨_, _, _, rfl, rfl, rfl, rfl⟩, rfl, fun hc => q_fld_p rfl, trivial⟩ rfl ?_
        refine rqc (l := [212]) ⟨⟨_, _, _, rfl, rfl, rfl, rfl⟩, rfl, fun hc => q_load1 rfl rfl rfl, ⟨fun h => h, trivial⟩⟩ rfl ?_
        refine rqc (l := [211, 213]) ⟨⟨_, _, _, rfl, rfl, rfl, rfl⟩, rfl, fun hc => q_nei rfl rfl, ⟨fun h => h, ⟨fun h => h, trivial⟩⟩⟩ rfl ?_
        refine rq rfl rfl (q_pickb rfl rfl rfl PB.v (PB.c (fun hp => by rw [hp]; rfl))) ?_
        refine run_nil ?_
        refine ev_cond rfl (fun hc => ?_) (fun hc => ?_)
        · replace H := ct hc H
          refine ev_seq ?_
          refine ev_region ?_
          refine rq rfl rfl (q_assign rfl) ?_
          refine run_nil ?_
          refine ev_ret ?_
          exact ret_ok [vb false] (congrArg (fun r : Bool => vb r) (Option.some.inj H)) rfl (.cons (.tmp rfl (.v _ _ (fun _ => rfl))) .nil)
        · replace H := cf hc H
          refine ev_skip ?_
          refine ev_region ?_
          refine rq rfl rfl (q_add rfl rfl) ?_
          refine rq rfl rfl (q_move rfl) ?_
          refine run_nil ?_
          exact ⟨_, _, _, n26_e, H, rfl, shift_mk ⟨⟨_, rfl, (.flat rfl)⟩, ⟨⟨_, rfl, .rfl⟩, ⟨⟨_, rfl, .rfl⟩, ⟨⟨_, rfl, (.flat rfl)⟩, ⟨⟨_, rfl, (.eq (congrArg (fun n => D.v true (vi n)) (wrap_succ' (by omega) w25 w24)))⟩, trivial⟩⟩⟩⟩⟩ ⟨(.e rfl), trivial⟩ rfl rfl⟩
      · replace H := forN_out hc w21 H
        refine ev_exit ?_
        refine ev_seq ?_
        refine ev_region ?_
        refine rq rfl rfl (Quiet.wk (d := .v true (GWorld.e (⟨(⟨(⟨[], [], [], [], [], [], [], []⟩ : GSource), [], []⟩ : GTables), []⟩ : GWorld))) (q_build rfl .nil) (Wk.nilLe (NilLe.st (by repeat (first | exact NilLes.nil | refine NilLes.cons (.refl _) ?_ | refine NilLes.cons (.nil _) ?_))))) ?_
        obtain ⟨x30, x30_h, H⟩ := bd_inv H
        refine rq rfl rfl (q_call rfl (.v _ _ (fun e => nomatch e)) (.v rfl (.v rfl (.v rfl (.v rfl (.z rfl (.z rfl ArgsOk.nil)))))) inferInstance (quality_State_c  x30_h)) ?_
        refine rq rfl rfl (q_move rfl) ?_
        refine rq rfl rfl (q_extract rfl rfl) ?_
        refine rq rfl rfl (q_extract rfl rfl) ?_
        refine rq rfl rfl (q_extract rfl rfl) ?_
        refine rq rfl rfl (q_assign rfl) ?_
        refine rq rfl rfl (q_assign rfl) ?_
        refine rq rfl rfl (q_assign rfl) ?_
        refine run_nil ?_
        refine ev_seq ?_
        refine ev_region ?_
        refine rq rfl rfl (Quiet.wk (d := .v true (GWorld.e (⟨(⟨(⟨[], [], [], [], [], [], [], []⟩ : GSource), [], []⟩ : GTables), []⟩ : GWorld))) (q_build rfl .nil) (Wk.nilLe (NilLe.st (by repeat (first | exact NilLes.nil | refine NilLes.cons (.refl _) ?_ | refine NilLes.cons (.nil _) ?_))))) ?_
        refine rq rfl rfl (q_buildSlice (z := 1) (xs := List.map vi ([2, 2] : List Int)) (fl := true) rfl rfl rfl rfl (by simp [V.plain, V.cells, vi, vb]) rfl) ?_
        obtain ⟨x31, x31_h, H⟩ := bd_inv H
        refine rq rfl rfl (q_call rfl (.v _ _ (fun e => nomatch e)) (.v rfl (.v rfl (.v rfl (.v rfl (.z rfl (.v rfl ArgsOk.nil)))))) inferInstance (quality_State_c  x31_h)) ?_
        refine rq rfl rfl (q_move rfl) ?_
        refine rq rfl rfl (q_extract rfl rfl) ?_
        refine rq rfl rfl (q_extract rfl rfl) ?_
        refine rq rfl rfl (q_extract rfl rfl) ?_
        refine rq rfl rfl (q_assign rfl) ?_
        refine rq rfl rfl (q_assign rfl) ?_
        refine rq rfl rfl (q_assign rfl) ?_
        refine run_nil ?_
        refine ev_seq ?_
        refine ev_region ?_
        refine rq rfl rfl (q_move rfl) ?_
        refine rq rfl rfl (q_eqi rfl rfl) ?_
        refine rq rfl rfl (q_move rfl) ?_
        refine rqc (l := []) ⟨⟨_, _, _, rfl, rfl, rfl, rfl⟩, rfl, fun hc => q_move rfl, trivial⟩ rfl ?_
        refine rqc (l := [233]) ⟨⟨_, _, _, rfl, rfl, rfl, rfl⟩, rfl, fun hc => q_eqi rfl rfl, ⟨fun h => h, trivial⟩⟩ rfl ?_
        refine rq rfl rfl (q_pickb rfl rfl rfl (PB.c (fun hp => hp)) PB.v) ?_
        refine rq rfl rfl (q_move rfl) ?_
        refine rqc (l := []) ⟨⟨_, _, _, rfl, rfl, rfl, rfl⟩, rfl, fun hc => q_move rfl, trivial⟩ rfl ?_
        refine rqc (l := [237]) ⟨⟨_, _, _, rfl, rfl, rfl, rfl⟩, rfl, fun hc => q_eqi rfl rfl, ⟨fun h => h, trivial⟩⟩ rfl ?_
        refine rq rfl rfl (q_pickb rfl rfl rfl (PB.c (fun hp => hp)) PB.v) ?_
        refine rq rfl rfl (q_assign rfl) ?_
        refine run_nil ?_
        refine ev_ret ?_
        exact ret_ok [vb (bif bif x30.1 == 3 then x30.2.2 == 0 else false then x31.2.2 == 400 else false)] (congrArg (fun r : Bool => vb r) (Option.some.inj H)) rfl (.cons (.tmp rfl (.v _ _ (fun _ => rfl))) .nil)
def backflushref40_Few_m (a0 : GWorld) (a1 : List GSpec) (a2 : List Int) : Option Bool := some (bif bif decide (((a0.facts.length : Nat) : Int) ≤ 60) then decide (((a1.length : Nat) : Int) ≤ 20) else false then decide (((a2.length : Nat) : Int) ≤ 20) else false)
theorem backflushref40_Few_c {a0 : GWorld} {a1 : List GSpec} {a2 : List Int} {r : Bool} (H : backflushref40_Few_m a0 a1 a2 = some r) : PureC Try.prog true 16 [GWorld.e a0, V.l 3 (List.map GSpec.e a1), V.l 1 (List.map vi a2)] (vb r) := by
  unfold backflushref40_Few_m at H
  refine pure_intro (N := 21) Try.func16 rfl rfl rfl rfl fun C hO => ?_
  refine ev_seq ?_
  refine ev_region ?_
  refine re rfl (e_box 3 0 rfl rfl rfl) ?_; rintro _ ⟨b1, rfl⟩
  refine rq rfl rfl (q_assign rfl) ?_
  refine run_nil ?_
  refine ev_seq ?_
  refine ev_region ?_
  refine rq rfl rfl (q_fld_p rfl) ?_
  refine rq rfl rfl (q_load1 rfl rfl rfl) ?_
  refine rq rfl rfl (q_len_t rfl) ?_
  refine rq rfl rfl (q_leq rfl rfl) ?_
  refine rq rfl rfl (q_move rfl) ?_
  refine rqc (l := []) ⟨⟨_, _, _, rfl, rfl, rfl, rfl⟩, rfl, fun hc => q_move rfl, trivial⟩ rfl ?_
  refine rqc (l := [12]) ⟨⟨_, _, _, rfl, rfl, rfl, rfl⟩, rfl, fun hc => q_len_t rfl, ⟨fun h => h, trivial⟩⟩ rfl ?_
  refine rqc (l := [13]) ⟨⟨_, _, _, rfl, rfl, rfl, rfl⟩, rfl, fun hc => q_leq rfl rfl, ⟨fun h => h, trivial⟩⟩ rfl ?_
  refine rq rfl rfl (q_pickb rfl rfl rfl (PB.c (fun hp => hp)) PB.v) ?_
  refine rq rfl rfl (q_move rfl) ?_
  refine rqc (l := []) ⟨⟨_, _, _, rfl, rfl, rfl, rfl⟩, rfl, fun hc => q_move rfl, trivial⟩ rfl ?_
  refine rqc (l := [17]) ⟨⟨_, _, _, rfl, rfl, rfl, rfl⟩, rfl, fun hc => q_len_t rfl, ⟨fun h => h, trivial⟩⟩ rfl ?_
  refine rqc (l := [18]) ⟨⟨_, _, _, rfl, rfl, rfl, rfl⟩, rfl, fun hc => q_leq rfl rfl, ⟨fun h => h, trivial⟩⟩ rfl ?_
  refine rq rfl rfl (q_pickb rfl rfl rfl (PB.c (fun hp => hp)) PB.v) ?_
  refine rq rfl rfl (q_assign rfl) ?_
  refine run_nil ?_
  refine ev_ret ?_
  exact ret_ok [vb (bif bif decide (((a0.facts.length : Nat) : Int) ≤ 60) then decide (((a1.length : Nat) : Int) ≤ 20) else false then decide (((a2.length : Nat) : Int) ≤ 20) else false)] (congrArg (fun r : Bool => vb r) (Option.some.inj H)) rfl (.cons (.tmp rfl (.v _ _ (fun _ => rfl))) .nil)
def backflushref04_Before_m (a0 : GFact) (a1 : GFact) : Option Bool := some (bif decide (a0.known < a1.known) then true else bif a0.known == a1.known then decide (a0.no_ < a1.no_) else false)
theorem backflushref04_Before_c {a0 : GFact} {a1 : GFact} {r : Bool} (H : backflushref04_Before_m a0 a1 = some r) : PureC Try.prog true 80 [GFact.e a0, GFact.e a1] (vb r) := by
  unfold backflushref04_Before_m at H
  refine pure_intro (N := 24) Try.func80 rfl rfl rfl rfl fun C hO => ?_
  refine ev_shift (shift_mk (fs := [(0, .v true (GFact.e a0)), (1, .v true (GFact.e a1))]) (es := []) ⟨⟨_, rfl, (.flat rfl)⟩, ⟨⟨_, rfl, (.flat rfl)⟩, trivial⟩⟩ trivial rfl rfl) ?_
  refine ev_seq ?_
  refine ev_region ?_
  refine re rfl (e_box 2 0 rfl rfl rfl) ?_; rintro _ ⟨b1, rfl⟩
  refine re rfl (e_box 3 0 rfl rfl rfl) ?_; rintro _ ⟨b2, rfl⟩
  refine rq rfl rfl (q_assign rfl) ?_
  refine run_nil ?_
  refine ev_seq ?_
  refine ev_region ?_
  refine rq rfl rfl (q_fld_p rfl) ?_
  refine rq rfl rfl (q_load1 rfl rfl rfl) ?_
  refine rq rfl rfl (q_fld_p rfl) ?_
  refine rq rfl rfl (q_load1 rfl rfl rfl) ?_
  refine rq rfl rfl (q_lss rfl rfl) ?_
  refine rq rfl rfl (q_move rfl) ?_
  refine rqc (l := []) ⟨⟨_, _, _, rfl, rfl, rfl, rfl⟩, rfl, fun hc => q_fld_p rfl, trivial⟩ rfl ?_
  refine rqc (l := [11]) ⟨⟨_, _, _, rfl, rfl, rfl, rfl⟩, rfl, fun hc => q_load1 rfl rfl rfl, ⟨fun h => h, trivial⟩⟩ rfl ?_
  refine rqc (l := []) ⟨⟨_, _, _, rfl, rfl, rfl, rfl⟩, rfl, fun hc => q_fld_p rfl, trivial⟩ rfl ?_
  refine rqc (l := [13]) ⟨⟨_, _, _, rfl, rfl, rfl, rfl⟩, rfl, fun hc => q_load1 rfl rfl rfl, ⟨fun h => h, trivial⟩⟩ rfl ?_
  refine rqc (l := [12, 14]) ⟨⟨_, _, _, rfl, rfl, rfl, rfl⟩, rfl, fun hc => q_eqi rfl rfl, ⟨fun h => h, ⟨fun h => h, trivial⟩⟩⟩ rfl ?_
  refine rqc (l := [15]) ⟨⟨_, _, _, rfl, rfl, rfl, rfl⟩, rfl, fun hc => q_move rfl, ⟨fun h => h, trivial⟩⟩ rfl ?_
  refine rqc (l := []) ⟨⟨_, _, _, rfl, rfl, rfl, rfl⟩, rfl, fun hc => q_fld_p rfl, trivial⟩ rfl ?_
  refine rqc (l := [17]) ⟨⟨_, _, _, rfl, rfl, rfl, rfl⟩, rfl, fun hc => q_load1 rfl rfl rfl, ⟨fun h => h, trivial⟩⟩ rfl ?_
  refine rqc (l := []) ⟨⟨_, _, _, rfl, rfl, rfl, rfl⟩, rfl, fun hc => q_fld_p rfl, trivial⟩ rfl ?_
  refine rqc (l := [19]) ⟨⟨_, _, _, rfl, rfl, rfl, rfl⟩, rfl, fun hc => q_load1 rfl rfl rfl, ⟨fun h => h, trivial⟩⟩ rfl ?_
  refine rqc (l := [18, 20]) ⟨⟨_, _, _, rfl, rfl, rfl, rfl⟩, rfl, fun hc => q_lss rfl rfl, ⟨fun h => h, ⟨fun h => h, trivial⟩⟩⟩ rfl ?_
  refine rqc (l := [16]) ⟨⟨_, _, _, rfl, rfl, rfl, rfl⟩, rfl, fun hc => q_pickb rfl rfl rfl (PB.c (fun hp => by simp_all)) PB.v, ⟨fun h => h, trivial⟩⟩ rfl ?_
  refine rq rfl rfl (q_pickb rfl rfl rfl PB.v (PB.c (fun hp => by rw [hp]; rfl))) ?_
  refine rq rfl rfl (q_assign rfl) ?_
  refine run_nil ?_
  refine ev_ret ?_
  exact ret_ok [vb (bif decide (a0.known < a1.known) then true else bif a0.known == a1.known then decide (a0.no_ < a1.no_) else false)] (congrArg (fun r : Bool => vb r) (Option.some.inj H)) rfl (.cons (.tmp rfl (.v _ _ (fun _ => rfl))) .nil)
def backflushref04_At_m (a0 : List GFact) (a1 : GKey) (a2 : Int) (a3 : Int) : Option (Int × Bool) := forL a0 (fun (k4 : Nat) (x7 : GFact) (s2 : Int) loop3 => jn (fun (p11 : Int) => loop3 p11) fun j10 => bdc ((bif bif bif GKey.eqb x7.key a1 then decide (x7.valid.from_ ≤ a2) else false then decide (a2 < x7.valid.to_) else false then decide (x7.known ≤ a3) else false) && (!(decide (s2 < 0)))) (idx a0 s2) fun x13 => bdc ((bif bif bif GKey.eqb x7.key a1 then decide (x7.valid.from_ ≤ a2) else false then decide (a2 < x7.valid.to_) else false then decide (x7.known ≤ a3) else false) && (!(decide (s2 < 0)))) (backflushref04_Before_m x7 x13) fun x14 => bif bif bif bif bif GKey.eqb x7.key a1 then decide (x7.valid.from_ ≤ a2) else false then decide (a2 < x7.valid.to_) else false then decide (x7.known ≤ a3) else false then bif decide (s2 < 0) then true else !x14 else false then (j10 ((k4 : Nat) : Int)) else (j10 s2)) (fun (s2 : Int) => bdc (!(decide (s2 < 0))) (idx a0 s2) fun x15 => bif bif decide (s2 < 0) then true else decide (x15.value < 0) then (some (0, false)) else (bd (idx a0 s2) fun x16 => some (x16.value, true))) (-1)
theorem backflushref04_At_c {a0 : List GFact} {a1 : GKey} {a2 : Int} {a3 : Int} {r : Int × Bool} (H : backflushref04_At_m a0 a1 a2 a3 = some r) : PureC Try.prog true 43 [V.l 8 (List.map GFact.e a0), GKey.e a1, vi a2, vi a3] (V.t [vi r.1, vb r.2]) := by
  unfold backflushref04_At_m at H
  refine pure_intro (N := 76) Try.func43 rfl rfl rfl rfl fun C hO => ?_
  refine ev_shift (shift_mk (fs := [(0, .v false (V.l 8 (List.map GFact.e a0))), (1, .v true (GKey.e a1)), (2, .v true (vi a2)), (3, .v true (vi a3))]) (es := []) ⟨⟨_, rfl, .rfl⟩, ⟨⟨_, rfl, (.flat rfl)⟩, ⟨⟨_, rfl, (.flat rfl)⟩, ⟨⟨_, rfl, (.flat rfl)⟩, trivial⟩⟩⟩⟩ trivial rfl rfl) ?_
  refine ev_seq ?_
  refine ev_region ?_
  refine re rfl (e_box 5 0 rfl rfl rfl) ?_; rintro _ ⟨b1, rfl⟩
  refine rq rfl rfl (q_assign rfl) ?_
  refine rq rfl rfl (q_assign rfl) ?_
  refine run_nil ?_
  refine ev_seq ?_
  refine ev_region ?_
  refine rq rfl rfl (q_assign rfl) ?_
  refine run_nil ?_
  refine ev_seq ?_
  refine ev_seq ?_
  refine ev_region ?_
  refine rq rfl rfl (q_assign rfl) ?_
  refine run_nil ?_
  refine ev_block ?_
  refine ev_len_l (s := 0) rfl fun w9 => ?_
  rw [List.length_map] at w9
  refine ev_forL H (fun k4 s2 σ' => σ' = mkS [(0, .v false (V.l 8 (List.map GFact.e a0))), (2, .v true (vi a2)), (3, .v true (vi a3)), (5, .p 5 0 b1 0), (8, .v true (vi 0)), (9, .v true (vb false)), (10, .v true (vi s2)), (11, .v true (vi ((k4 : Nat) : Int)))] [.e 5 0 (some (b1, 3)) (.row 68 [.v true (vi a1.kind), .v true (vi a1.subject), .v true (vi a1.object)])] [] (0, false)) ⟨_, rfl, shift_mk ⟨⟨_, rfl, .rfl⟩, ⟨⟨_, rfl, (.flat rfl)⟩, ⟨⟨_, rfl, (.flat rfl)⟩, ⟨⟨_, rfl, .rfl⟩, ⟨⟨_, rfl, (.flat rfl)⟩, ⟨⟨_, rfl, (.flat rfl)⟩, ⟨⟨_, rfl, (.flat rfl)⟩, ⟨⟨_, rfl, .rfl⟩, trivial⟩⟩⟩⟩⟩⟩⟩⟩ ⟨(.w rfl (.cons (.flat rfl) (.cons (.flat rfl) (.cons (.flat rfl) .nil)))), trivial⟩ rfl rfl⟩ ?_
  rintro k4 s2 _ rfl _ H
  refine ev_seq ?_
  refine ev_seq ?_
  refine ev_region ?_
  refine rq rfl rfl (q_move rfl) ?_
  refine rq rfl rfl (q_move rfl) ?_
  refine rq rfl rfl (q_len_t rfl) ?_
  refine rq rfl rfl (q_lss rfl rfl) ?_
  refine run_nil ?_
  refine ev_cond rfl (fun hc => ?_) (fun hc => ?_)
  · obtain ⟨x7, w8, x7_g, H⟩ := forL_in hc H
    have x7_h : idx a0 ((k4 : Nat) : Int) = some x7 := by rw [idx_nat]; exact x7_g
    refine ev_skip ?_
    obtain ⟨j10, j10_e, H⟩ := jn_inv H
    refine ev_join (fun σ' => ∃ (p11 : Int), j10 p11 = some r ∧ σ' = mkS [(0, .v false (V.l 8 (List.map GFact.e a0))), (2, .v true (vi a2)), (3, .v true (vi a3)), (5, .p 5 0 b1 0), (8, .v true (vi 0)), (9, .v true (vb false)), (10, .v true (vi p11)), (11, .v true (vi ((k4 : Nat) : Int)))] [.e 5 0 (some (b1, 3)) (.row 68 [.v true (vi a1.kind), .v true (vi a1.subject), .v true (vi a1.object)])] [] (0, false)) ?_ ?_
    · rintro _ ⟨p11, H, rfl⟩
      subst j10_e
      refine ev_region ?_
      refine rq rfl rfl (q_move rfl) ?_
      refine rq rfl rfl (q_add rfl rfl) ?_
      refine rq rfl rfl (q_assign rfl) ?_
      refine run_nil ?_
      exact ⟨_, _, w8, H, rfl, shift_mk ⟨⟨_, rfl, .rfl⟩, ⟨⟨_, rfl, (.flat rfl)⟩, ⟨⟨_, rfl, (.flat rfl)⟩, ⟨⟨_, rfl, .rfl⟩, ⟨⟨_, rfl, (.flat rfl)⟩, ⟨⟨_, rfl, (.flat rfl)⟩, ⟨⟨_, rfl, (.flat rfl)⟩, ⟨⟨_, rfl, (.eq (congrArg (fun n => D.v true (vi n)) (wrap_succ w8 w9)))⟩, trivial⟩⟩⟩⟩⟩⟩⟩⟩ ⟨(.w rfl (.cons (.flat rfl) (.cons (.flat rfl) (.cons (.flat rfl) .nil)))), trivial⟩ rfl rfl⟩
    · clear j10_e
      refine ev_block ?_
      refine ev_seq ?_
      refine ev_region ?_
      refine rq rfl rfl (q_move rfl) ?_
      refine rq rfl rfl (q_move rfl) ?_
      refine rq rfl rfl (q_idx_l rfl rfl (idx_inv x7_h).1 (map_get (idx_inv x7_h).2.1) rfl) ?_
      refine rq rfl rfl (q_load_e rfl rfl rfl) ?_
      refine re rfl (e_alloc 12 0 rfl rfl) ?_; rintro _ ⟨b12, rfl⟩
      refine re rfl (e_store rfl rfl rfl rfl rfl (Nat.le_of_ble_eq_true rfl) rfl) ?_; rintro _ rfl
      refine run_nil ?_
      refine ev_seq ?_
      obtain ⟨x13, x13_h, _, H⟩ := bdc_inv H
      obtain ⟨x14, x14_h, _, H⟩ := bdc_inv H
      refine ev_draw rfl (by kernel_rfl) ?_
      refine qq rfl rfl (q_fld_p rfl) ?_
      refine qq rfl rfl (q_loadN rfl rfl rfl rfl) ?_
      refine qq rfl rfl (q_loadN rfl rfl rfl rfl) ?_
      refine qq rfl rfl (q_eqs rfl rfl rfl) ?_
      refine qq rfl rfl (q_move rfl) ?_
      refine qc (l := []) ⟨⟨_, _, _, rfl, rfl, rfl, rfl⟩, rfl, fun hc => q_fld_p rfl, trivial⟩ rfl rfl ?_
      refine qc (l := [28]) ⟨⟨_, _, _, rfl, rfl, rfl, rfl⟩, rfl, fun hc => q_fld_p rfl, ⟨fun h => h, trivial⟩⟩ rfl rfl ?_
      refine qc (l := [29]) ⟨⟨_, _, _, rfl, rfl, rfl, rfl⟩, rfl, fun hc => q_load1 rfl rfl rfl, ⟨fun h => h, trivial⟩⟩ rfl rfl ?_
      refine qc (l := []) ⟨⟨_, _, _, rfl, rfl, rfl, rfl⟩, rfl, fun hc => q_move rfl, trivial⟩ rfl rfl ?_
      refine qc (l := [30, 31]) ⟨⟨_, _, _, rfl, rfl, rfl, rfl⟩, rfl, fun hc => q_leq rfl rfl, ⟨fun h => h, ⟨fun h => h, trivial⟩⟩⟩ rfl rfl ?_
      refine qq rfl rfl (q_pickb rfl rfl rfl (PB.c (fun hp => hp)) PB.v) ?_
      refine qq rfl rfl (q_move rfl) ?_
      refine qc (l := []) ⟨⟨_, _, _, rfl, rfl, rfl, rfl⟩, rfl, fun hc => q_move rfl, trivial⟩ rfl rfl ?_
      refine qc (l := []) ⟨⟨_, _, _, rfl, rfl, rfl, rfl⟩, rfl, fun hc => q_fld_p rfl, trivial⟩ rfl rfl ?_
      refine qc (l := [36]) ⟨⟨_, _, _, rfl, rfl, rfl, rfl⟩, rfl, fun hc => q_fld_p rfl, ⟨fun h => h, trivial⟩⟩ rfl rfl ?_
      refine qc (l := [37]) ⟨⟨_, _, _, rfl, rfl, rfl, rfl⟩, rfl, fun hc => q_load1 rfl rfl rfl, ⟨fun h => h, trivial⟩⟩ rfl rfl ?_
      refine qc (l := [35, 38]) ⟨⟨_, _, _, rfl, rfl, rfl, rfl⟩, rfl, fun hc => q_lss rfl rfl, ⟨fun h => h, ⟨fun h => h, trivial⟩⟩⟩ rfl rfl ?_
      refine qq rfl rfl (q_pickb rfl rfl rfl (PB.c (fun hp => hp)) PB.v) ?_
      refine qq rfl rfl (q_move rfl) ?_
      refine qc (l := []) ⟨⟨_, _, _, rfl, rfl, rfl, rfl⟩, rfl, fun hc => q_fld_p rfl, trivial⟩ rfl rfl ?_
      refine qc (l := [42]) ⟨⟨_, _, _, rfl, rfl, rfl, rfl⟩, rfl, fun hc => q_load1 rfl rfl rfl, ⟨fun h => h, trivial⟩⟩ rfl rfl ?_
      refine qc (l := []) ⟨⟨_, _, _, rfl, rfl, rfl, rfl⟩, rfl, fun hc => q_move rfl, trivial⟩ rfl rfl ?_
      refine qc (l := [43, 44]) ⟨⟨_, _, _, rfl, rfl, rfl, rfl⟩, rfl, fun hc => q_leq rfl rfl, ⟨fun h => h, ⟨fun h => h, trivial⟩⟩⟩ rfl rfl ?_
      refine qq rfl rfl (q_pickb rfl rfl rfl (PB.c (fun hp => hp)) PB.v) ?_
      refine qq rfl rfl (q_move rfl) ?_
      refine qc (l := []) ⟨⟨_, _, _, rfl, rfl, rfl, rfl⟩, rfl, fun hc => q_move rfl, trivial⟩ rfl rfl ?_
      refine qc (l := [48]) ⟨⟨_, _, _, rfl, rfl, rfl, rfl⟩, rfl, fun hc => q_lss rfl rfl, ⟨fun h => h, trivial⟩⟩ rfl rfl ?_
      refine qc (l := [49]) ⟨⟨_, _, _, rfl, rfl, rfl, rfl⟩, rfl, fun hc => q_move rfl, ⟨fun h => h, trivial⟩⟩ rfl rfl ?_
      refine qc (l := []) ⟨⟨_, _, _, rfl, rfl, rfl, rfl⟩, rfl, fun hc => q_loadN rfl rfl rfl rfl, trivial⟩ rfl rfl ?_
      refine qc (l := []) ⟨⟨_, _, _, rfl, rfl, rfl, rfl⟩, rfl, fun hc => q_move rfl, trivial⟩ rfl rfl ?_
      refine qc (l := []) ⟨⟨_, _, _, rfl, rfl, rfl, rfl⟩, rfl, fun hc => q_move rfl, trivial⟩ rfl rfl ?_
      refine qc (l := [52, 53]) ⟨⟨_, _, _, rfl, rfl, rfl, rfl⟩, rfl, fun hc => q_idx_l rfl rfl (idx_inv (x13_h hc)).1 (map_get (idx_inv (x13_h hc)).2.1) rfl, ⟨fun h => h, ⟨fun h => h, trivial⟩⟩⟩ rfl rfl ?_
      refine qc (l := [54]) ⟨⟨_, _, _, rfl, rfl, rfl, rfl⟩, rfl, fun hc => q_load_e rfl rfl rfl, ⟨fun h => h, trivial⟩⟩ rfl rfl ?_
      refine qc (l := [51, 55]) ⟨⟨_, _, _, rfl, rfl, rfl, rfl⟩, rfl, fun hc => q_call rfl (.v _ _ (fun e => nomatch e)) (.v rfl (.v rfl ArgsOk.nil)) inferInstance (backflushref04_Before_c  (x14_h hc)), ⟨fun h => h, ⟨fun h => h, trivial⟩⟩⟩ rfl rfl ?_
      refine qc (l := [56]) ⟨⟨_, _, _, rfl, rfl, rfl, rfl⟩, rfl, fun hc => q_not rfl, ⟨fun h => h, trivial⟩⟩ rfl rfl ?_
      refine qc (l := [50]) ⟨⟨_, _, _, rfl, rfl, rfl, rfl⟩, rfl, fun hc => q_pickb rfl rfl rfl PB.v (PB.c (fun hp => by simp_all)), ⟨fun h => h, trivial⟩⟩ rfl rfl ?_
      refine qq rfl rfl (q_pickb rfl rfl rfl (PB.c (fun hp => hp)) PB.v) ?_
      refine qn ?_
      refine ev_cond rfl (fun hc => ?_) (fun hc => ?_)
      · replace H := ct hc H
        refine ev_region ?_
        refine rq rfl rfl (q_move rfl) ?_
        refine rq rfl rfl (q_assign rfl) ?_
        refine run_nil ?_
        exact ⟨_, ⟨((k4 : Nat) : Int), H, rfl⟩, shift_mk ⟨⟨_, rfl, .rfl⟩, ⟨⟨_, rfl, (.flat rfl)⟩, ⟨⟨_, rfl, (.flat rfl)⟩, ⟨⟨_, rfl, .rfl⟩, ⟨⟨_, rfl, (.flat rfl)⟩, ⟨⟨_, rfl, (.flat rfl)⟩, ⟨⟨_, rfl, (.flat rfl)⟩, ⟨⟨_, rfl, (.flat rfl)⟩, trivial⟩⟩⟩⟩⟩⟩⟩⟩ ⟨(.w rfl (.cons (.flat rfl) (.cons (.flat rfl) (.cons (.flat rfl) .nil)))), trivial⟩ rfl rfl⟩
      · replace H := cf hc H
        refine ev_skip ?_
        exact ⟨_, ⟨s2, H, rfl⟩, shift_mk ⟨⟨_, rfl, .rfl⟩, ⟨⟨_, rfl, (.flat rfl)⟩, ⟨⟨_, rfl, (.flat rfl)⟩, ⟨⟨_, rfl, .rfl⟩, ⟨⟨_, rfl, (.flat rfl)⟩, ⟨⟨_, rfl, (.flat rfl)⟩, ⟨⟨_, rfl, (.flat rfl)⟩, ⟨⟨_, rfl, (.flat rfl)⟩, trivial⟩⟩⟩⟩⟩⟩⟩⟩ ⟨(.w rfl (.cons (.flat rfl) (.cons (.flat rfl) (.cons (.flat rfl) .nil)))), trivial⟩ rfl rfl⟩
  · replace H := forL_out hc H
    refine ev_exit ?_
    refine ev_seq ?_
    refine ev_seq ?_
    refine ev_region ?_
    refine rq rfl rfl (q_move rfl) ?_
    refine rq rfl rfl (q_lss rfl rfl) ?_
    refine rq rfl rfl (q_move rfl) ?_
    refine rqc (l := []) ⟨⟨_, _, _, rfl, rfl, rfl, rfl⟩, rfl, fun hc => q_move rfl, trivial⟩ rfl ?_
    refine rqc (l := []) ⟨⟨_, _, _, rfl, rfl, rfl, rfl⟩, rfl, fun hc => q_move rfl, trivial⟩ rfl ?_
    obtain ⟨x15, x15_h, _, H⟩ := bdc_inv H
    refine rqc (l := [64, 65]) ⟨⟨_, _, _, rfl, rfl, rfl, rfl⟩, rfl, fun hc => q_idx_l rfl rfl (idx_inv (x15_h hc)).1 (map_get (idx_inv (x15_h hc)).2.1) rfl, ⟨fun h => h, ⟨fun h => h, trivial⟩⟩⟩ rfl ?_
    refine rqc (l := [66]) ⟨⟨_, _, _, rfl, rfl, rfl, rfl⟩, rfl, fun hc => q_fld_q rfl, ⟨fun h => h, trivial⟩⟩ rfl ?_
    refine rqc (l := [67]) ⟨⟨_, _, _, rfl, rfl, rfl, rfl⟩, rfl, fun hc => q_load1_q rfl, ⟨fun h => h, trivial⟩⟩ rfl ?_
    refine rqc (l := [68]) ⟨⟨_, _, _, rfl, rfl, rfl, rfl⟩, rfl, fun hc => q_lss rfl rfl, ⟨fun h => h, trivial⟩⟩ rfl ?_
    refine rq rfl rfl (q_pickb rfl rfl rfl PB.v (PB.c (fun hp => by rw [hp]; rfl))) ?_
    refine run_nil ?_
    refine ev_cond rfl (fun hc => ?_) (fun hc => ?_)
    · replace H := ct hc H
      refine ev_seq ?_
      refine ev_region ?_
      refine rq rfl rfl (q_assign rfl) ?_
      refine rq rfl rfl (q_assign rfl) ?_
      refine run_nil ?_
      refine ev_ret ?_
      exact ret_ok [vi 0, vb false] (congrArg (fun r : Int × Bool => V.t [vi r.1, vb r.2]) (Option.some.inj H)) rfl (.cons (.tmp rfl (.v _ _ (fun _ => rfl))) (.cons (.tmp rfl (.v _ _ (fun _ => rfl))) .nil))
    · replace H := cf hc H
      refine ev_skip ?_
      refine ev_seq ?_
      refine ev_region ?_
      refine rq rfl rfl (q_move rfl) ?_
      refine rq rfl rfl (q_move rfl) ?_
      obtain ⟨x16, x16_h, H⟩ := bd_inv H
      refine rq rfl rfl (q_idx_l rfl rfl (idx_inv x16_h).1 (map_get (idx_inv x16_h).2.1) rfl) ?_
      refine rq rfl rfl (q_fld_q rfl) ?_
      refine rq rfl rfl (q_load1_q rfl) ?_
      refine rq rfl rfl (q_assign rfl) ?_
      refine rq rfl rfl (q_assign rfl) ?_
      refine run_nil ?_
      refine ev_ret ?_
      exact ret_ok [vi x16.value, vb true] (congrArg (fun r : Int × Bool => V.t [vi r.1, vb r.2]) (Option.some.inj H)) rfl (.cons (.tmp rfl (.v _ _ (fun _ => rfl))) (.cons (.tmp rfl (.v _ _ (fun _ => rfl))) .nil))
def backflushref40_Result_m (a0 : GWorld) (a1 : Int) (a2 : Int) (a3 : Int) (a4 : Int) : Option (Int × (List GRead) × Bool) := bif bif decide (a3 < 0) then true else decide (1024 ≤ a3) then (some (0, [], false)) else (bd (backflushref04_At_m a0.facts (⟨8, a1, a2⟩ : GKey) a3 a4) fun x3 => bif bif !x3.2 then true else decide (x3.1 < 0) then (some (0, ([(⟨(⟨8, a1, a2⟩ : GKey), a3, wr (a3 + 1)⟩ : GRead)] : List GRead), false)) else (some (x3.1, ([(⟨(⟨8, a1, a2⟩ : GKey), a3, wr (a3 + 1)⟩ : GRead)] : List GRead), true)))
theorem backflushref40_Result_c {a0 : GWorld} {a1 : Int} {a2 : Int} {a3 : Int} {a4 : Int} {r : Int × (List GRead) × Bool} (H : backflushref40_Result_m a0 a1 a2 a3 a4 = some r) : PureC Try.prog true 18 [GWorld.e a0, vi a1, vi a2, vi a3, vi a4] (V.t [vi r.1, V.l 5 (List.map GRead.e r.2.1), vb r.2.2]) := by
  unfold backflushref40_Result_m at H
  refine pure_intro (N := 50) Try.func18 rfl rfl rfl rfl fun C hO => ?_
  refine ev_shift (shift_mk (fs := [(0, .v false (GWorld.e a0)), (1, .v true (vi a1)), (2, .v true (vi a2)), (3, .v true (vi a3)), (4, .v true (vi a4))]) (es := []) ⟨⟨_, rfl, .rfl⟩, ⟨⟨_, rfl, (.flat rfl)⟩, ⟨⟨_, rfl, (.flat rfl)⟩, ⟨⟨_, rfl, (.flat rfl)⟩, ⟨⟨_, rfl, (.flat rfl)⟩, trivial⟩⟩⟩⟩⟩ trivial rfl rfl) ?_
  refine ev_seq ?_
  refine ev_region ?_
  refine re rfl (e_box 5 0 rfl rfl rfl) ?_; rintro _ ⟨b1, rfl⟩
  refine rq rfl rfl (q_assign rfl) ?_
  refine rq rfl rfl (q_assign rfl) ?_
  refine rq rfl rfl (q_assign rfl) ?_
  refine run_nil ?_
  refine ev_seq ?_
  refine ev_seq ?_
  refine ev_region ?_
  refine rq rfl rfl (q_move rfl) ?_
  refine rq rfl rfl (q_lss rfl rfl) ?_
  refine rq rfl rfl (q_move rfl) ?_
  refine rqc (l := []) ⟨⟨_, _, _, rfl, rfl, rfl, rfl⟩, rfl, fun hc => q_move rfl, trivial⟩ rfl ?_
  refine rqc (l := [20]) ⟨⟨_, _, _, rfl, rfl, rfl, rfl⟩, rfl, fun hc => q_geq rfl rfl, ⟨fun h => h, trivial⟩⟩ rfl ?_
  refine rq rfl rfl (q_pickb rfl rfl rfl PB.v (PB.c (fun hp => by rw [hp]; rfl))) ?_
  refine run_nil ?_
  refine ev_cond rfl (fun hc => ?_) (fun hc => ?_)
  · replace H := ct hc H
    refine ev_seq ?_
    refine ev_region ?_
    refine rq rfl rfl (q_assign rfl) ?_
    refine rq rfl rfl (q_assign rfl) ?_
    refine rq rfl rfl (q_assign rfl) ?_
    refine run_nil ?_
    refine ev_ret ?_
    exact ret_ok [vi 0, V.l 5 (List.map GRead.e []), vb false] (congrArg (fun r : Int × (List GRead) × Bool => V.t [vi r.1, V.l 5 (List.map GRead.e r.2.1), vb r.2.2]) (Option.some.inj H)) rfl (.cons (.tmp rfl (.v _ _ (fun _ => rfl))) (.cons (.tmp rfl (.nil _ _)) (.cons (.tmp rfl (.v _ _ (fun _ => rfl))) .nil)))
  · replace H := cf hc H
    refine ev_skip ?_
    refine ev_seq ?_
    refine ev_region ?_
    refine rq rfl rfl (q_move rfl) ?_
    refine rq rfl rfl (q_move rfl) ?_
    refine rq rfl rfl (q_build rfl (.v rfl rfl rfl rfl rfl (.v rfl rfl rfl rfl rfl (.v rfl rfl rfl rfl rfl .nil)))) ?_
    refine re rfl (e_alloc 13 0 rfl rfl) ?_; rintro _ ⟨b2, rfl⟩
    refine re rfl (e_store rfl rfl rfl rfl rfl (Nat.le_of_ble_eq_true rfl) rfl) ?_; rintro _ rfl
    refine run_nil ?_
    refine ev_seq ?_
    refine ev_region ?_
    refine rq rfl rfl (q_loadN rfl rfl rfl rfl) ?_
    refine rq rfl rfl (q_move rfl) ?_
    refine rq rfl rfl (q_move rfl) ?_
    refine rq rfl rfl (q_add rfl rfl) ?_
    refine rq rfl rfl (q_build rfl (.v rfl rfl rfl rfl rfl (.v rfl rfl rfl rfl rfl (.v rfl rfl rfl rfl rfl .nil)))) ?_
    refine rq rfl rfl (q_buildSlice (z := 5) (xs := List.map GRead.e ([(⟨(⟨8, a1, a2⟩ : GKey), a3, wr (a3 + 1)⟩ : GRead)] : List GRead)) (fl := true) rfl rfl rfl rfl (by simp [V.plain, V.cells, GRead.e, vi, vb]) rfl) ?_
    refine rq rfl rfl (q_assign rfl) ?_
    refine run_nil ?_
    refine ev_seq ?_
    refine ev_region ?_
    refine rq rfl rfl (q_fld_p rfl) ?_
    refine rq rfl rfl (q_load1 rfl rfl rfl) ?_
    refine rq rfl rfl (q_loadN rfl rfl rfl rfl) ?_
    refine rq rfl rfl (q_move rfl) ?_
    refine rq rfl rfl (q_move rfl) ?_
    obtain ⟨x3, x3_h, H⟩ := bd_inv H
    refine rq rfl rfl (q_call rfl (.v _ _ (fun e => nomatch e)) (.v rfl (.v rfl (.v rfl (.v rfl ArgsOk.nil)))) inferInstance (backflushref04_At_c  x3_h)) ?_
    refine rq rfl rfl (q_move rfl) ?_
    refine rq rfl rfl (q_extract rfl rfl) ?_
    refine rq rfl rfl (q_extract rfl rfl) ?_
    refine rq rfl rfl (q_assign rfl) ?_
    refine rq rfl rfl (q_assign rfl) ?_
    refine run_nil ?_
    refine ev_seq ?_
    refine ev_seq ?_
    refine ev_region ?_
    refine rq rfl rfl (q_move rfl) ?_
    refine rq rfl rfl (q_not rfl) ?_
    refine rq rfl rfl (q_move rfl) ?_
    refine rqc (l := []) ⟨⟨_, _, _, rfl, rfl, rfl, rfl⟩, rfl, fun hc => q_move rfl, trivial⟩ rfl ?_
    refine rqc (l := [44]) ⟨⟨_, _, _, rfl, rfl, rfl, rfl⟩, rfl, fun hc => q_lss rfl rfl, ⟨fun h => h, trivial⟩⟩ rfl ?_
    refine rq rfl rfl (q_pickb rfl rfl rfl PB.v (PB.c (fun hp => by rw [hp]; rfl))) ?_
    refine run_nil ?_
    refine ev_cond rfl (fun hc => ?_) (fun hc => ?_)
    · replace H := ct hc H
      refine ev_seq ?_
      refine ev_region ?_
      refine rq rfl rfl (q_move rfl) ?_
      refine rq rfl rfl (q_assign rfl) ?_
      refine rq rfl rfl (q_assign rfl) ?_
      refine rq rfl rfl (q_assign rfl) ?_
      refine run_nil ?_
      refine ev_ret ?_
      exact ret_ok [vi 0, V.l 5 (List.map GRead.e ([(⟨(⟨8, a1, a2⟩ : GKey), a3, wr (a3 + 1)⟩ : GRead)] : List GRead)), vb false] (congrArg (fun r : Int × (List GRead) × Bool => V.t [vi r.1, V.l 5 (List.map GRead.e r.2.1), vb r.2.2]) (Option.some.inj H)) rfl (.cons (.tmp rfl (.v _ _ (fun _ => rfl))) (.cons (.tmp rfl (.v _ _ (fun _ => rfl))) (.cons (.tmp rfl (.v _ _ (fun _ => rfl))) .nil)))
    · replace H := cf hc H
      refine ev_skip ?_
      refine ev_seq ?_
      refine ev_region ?_
      refine rq rfl rfl (q_move rfl) ?_
      refine rq rfl rfl (q_move rfl) ?_
      refine rq rfl rfl (q_assign rfl) ?_
      refine rq rfl rfl (q_assign rfl) ?_
      refine rq rfl rfl (q_assign rfl) ?_
      refine run_nil ?_
      refine ev_ret ?_
      exact ret_ok [vi x3.1, V.l 5 (List.map GRead.e ([(⟨(⟨8, a1, a2⟩ : GKey), a3, wr (a3 + 1)⟩ : GRead)] : List GRead)), vb true] (congrArg (fun r : Int × (List GRead) × Bool => V.t [vi r.1, V.l 5 (List.map GRead.e r.2.1), vb r.2.2]) (Option.some.inj H)) rfl (.cons (.tmp rfl (.v _ _ (fun _ => rfl))) (.cons (.tmp rfl (.v _ _ (fun _ => rfl))) (.cons (.tmp rfl (.v _ _ (fun _ => rfl))) .nil)))
def backflushref40_specs_m (a0 : List GSpec) : Option Bool := forL a0 (fun (k3 : Nat) (x5 : GSpec) (s1 : Unit) loop2 => bdc ((!(bif bif decide (x5.test < 0) then true else decide (1023 < x5.test) then true else decide (x5.hi < x5.lo))) && (decide (0 < ((k3 : Nat) : Int)))) (idx a0 (wr (((k3 : Nat) : Int) - 1))) fun x8 => bif bif bif bif decide (x5.test < 0) then true else decide (1023 < x5.test) then true else decide (x5.hi < x5.lo) then true else bif decide (0 < ((k3 : Nat) : Int)) then decide (x5.test ≤ x8.test) else false then (some false) else (loop2 ())) (fun (s1 : Unit) => some (decide (((a0.length : Nat) : Int) ≤ 16))) ()
theorem backflushref40_specs_c {a0 : List GSpec} {r : Bool} (H : backflushref40_specs_m a0 = some r) : PureC Try.prog true 46 [V.l 3 (List.map GSpec.e a0)] (vb r) := by
  unfold backflushref40_specs_m at H
  refine pure_intro (N := 58) Try.func46 rfl rfl rfl rfl fun C hO => ?_
  refine ev_seq ?_
  refine ev_region ?_
  refine rq rfl rfl (q_assign rfl) ?_
  refine run_nil ?_
  refine ev_seq ?_
  refine ev_seq ?_
  refine ev_region ?_
  refine rq rfl rfl (q_assign rfl) ?_
  refine run_nil ?_
  refine ev_block ?_
  refine ev_len_l (s := 0) rfl fun w7 => ?_
  rw [List.length_map] at w7
  refine ev_forL H (fun k3 s1 σ' => σ' = mkS [(0, .v false (V.l 3 (List.map GSpec.e a0))), (2, .v true (vb false)), (3, .v true (vi ((k3 : Nat) : Int)))] [] [] (0, false)) ⟨_, rfl, shift_mk ⟨⟨_, rfl, .rfl⟩, ⟨⟨_, rfl, (.flat rfl)⟩, ⟨⟨_, rfl, .rfl⟩, trivial⟩⟩⟩ trivial rfl rfl⟩ ?_
  rintro k3 s1 _ rfl _ H
  refine ev_seq ?_
  refine ev_seq ?_
  refine ev_region ?_
  refine rq rfl rfl (q_move rfl) ?_
  refine rq rfl rfl (q_move rfl) ?_
  refine rq rfl rfl (q_len_t rfl) ?_
  refine rq rfl rfl (q_lss rfl rfl) ?_
  refine run_nil ?_
  refine ev_cond rfl (fun hc => ?_) (fun hc => ?_)
  · obtain ⟨x5, w6, x5_g, H⟩ := forL_in hc H
    have x5_h : idx a0 ((k3 : Nat) : Int) = some x5 := by rw [idx_nat]; exact x5_g
    refine ev_skip ?_
    refine ev_seq ?_
    refine ev_block ?_
    refine ev_seq ?_
    obtain ⟨x8, x8_h, _, H⟩ := bdc_inv H
    refine ev_draw rfl (by kernel_rfl) ?_
    refine qq rfl rfl (q_move rfl) ?_
    refine qq rfl rfl (q_move rfl) ?_
    refine qq rfl rfl (q_idx_l rfl rfl (idx_inv x5_h).1 (map_get (idx_inv x5_h).2.1) rfl) ?_
    refine qq rfl rfl (q_fld_q rfl) ?_
    refine qq rfl rfl (q_load1_q rfl) ?_
    refine qq rfl rfl (q_lss rfl rfl) ?_
    refine qq rfl rfl (q_move rfl) ?_
    refine qc (l := []) ⟨⟨_, _, _, rfl, rfl, rfl, rfl⟩, rfl, fun hc => q_move rfl, trivial⟩ rfl rfl ?_
    refine qc (l := []) ⟨⟨_, _, _, rfl, rfl, rfl, rfl⟩, rfl, fun hc => q_move rfl, trivial⟩ rfl rfl ?_
    refine qc (l := [17, 18]) ⟨⟨_, _, _, rfl, rfl, rfl, rfl⟩, rfl, fun hc => q_idx_l rfl rfl (idx_inv x5_h).1 (map_get (idx_inv x5_h).2.1) rfl, ⟨fun h => h, ⟨fun h => h, trivial⟩⟩⟩ rfl rfl ?_
    refine qc (l := [19]) ⟨⟨_, _, _, rfl, rfl, rfl, rfl⟩, rfl, fun hc => q_fld_q rfl, ⟨fun h => h, trivial⟩⟩ rfl rfl ?_
    refine qc (l := [20]) ⟨⟨_, _, _, rfl, rfl, rfl, rfl⟩, rfl, fun hc => q_load1_q rfl, ⟨fun h => h, trivial⟩⟩ rfl rfl ?_
    refine qc (l := [21]) ⟨⟨_, _, _, rfl, rfl, rfl, rfl⟩, rfl, fun hc => q_gtr rfl rfl, ⟨fun h => h, trivial⟩⟩ rfl rfl ?_
    refine qq rfl rfl (q_pickb rfl rfl rfl PB.v (PB.c (fun hp => by rw [hp]; rfl))) ?_
    refine qq rfl rfl (q_move rfl) ?_
    refine qc (l := []) ⟨⟨_, _, _, rfl, rfl, rfl, rfl⟩, rfl, fun hc => q_move rfl, trivial⟩ rfl rfl ?_
    refine qc (l := []) ⟨⟨_, _, _, rfl, rfl, rfl, rfl⟩, rfl, fun hc => q_move rfl, trivial⟩ rfl rfl ?_
    refine qc (l := [25, 26]) ⟨⟨_, _, _, rfl, rfl, rfl, rfl⟩, rfl, fun hc => q_idx_l rfl rfl (idx_inv x5_h).1 (map_get (idx_inv x5_h).2.1) rfl, ⟨fun h => h, ⟨fun h => h, trivial⟩⟩⟩ rfl rfl ?_
    refine qc (l := [27]) ⟨⟨_, _, _, rfl, rfl, rfl, rfl⟩, rfl, fun hc => q_fld_q rfl, ⟨fun h => h, trivial⟩⟩ rfl rfl ?_
    refine qc (l := [28]) ⟨⟨_, _, _, rfl, rfl, rfl, rfl⟩, rfl, fun hc => q_load1_q rfl, ⟨fun h => h, trivial⟩⟩ rfl rfl ?_
    refine qc (l := []) ⟨⟨_, _, _, rfl, rfl, rfl, rfl⟩, rfl, fun hc => q_move rfl, trivial⟩ rfl rfl ?_
    refine qc (l := []) ⟨⟨_, _, _, rfl, rfl, rfl, rfl⟩, rfl, fun hc => q_move rfl, trivial⟩ rfl rfl ?_
    refine qc (l := [30, 31]) ⟨⟨_, _, _, rfl, rfl, rfl, rfl⟩, rfl, fun hc => q_idx_l rfl rfl (idx_inv x5_h).1 (map_get (idx_inv x5_h).2.1) rfl, ⟨fun h => h, ⟨fun h => h, trivial⟩⟩⟩ rfl rfl ?_
    refine qc (l := [32]) ⟨⟨_, _, _, rfl, rfl, rfl, rfl⟩, rfl, fun hc => q_fld_q rfl, ⟨fun h => h, trivial⟩⟩ rfl rfl ?_
    refine qc (l := [33]) ⟨⟨_, _, _, rfl, rfl, rfl, rfl⟩, rfl, fun hc => q_load1_q rfl, ⟨fun h => h, trivial⟩⟩ rfl rfl ?_
    refine qc (l := [29, 34]) ⟨⟨_, _, _, rfl, rfl, rfl, rfl⟩, rfl, fun hc => q_gtr rfl rfl, ⟨fun h => h, ⟨fun h => h, trivial⟩⟩⟩ rfl rfl ?_
    refine qq rfl rfl (q_pickb rfl rfl rfl PB.v (PB.c (fun hp => by rw [hp]; rfl))) ?_
    refine qq rfl rfl (q_move rfl) ?_
    refine qc (l := []) ⟨⟨_, _, _, rfl, rfl, rfl, rfl⟩, rfl, fun hc => q_move rfl, trivial⟩ rfl rfl ?_
    refine qc (l := [38]) ⟨⟨_, _, _, rfl, rfl, rfl, rfl⟩, rfl, fun hc => q_gtr rfl rfl, ⟨fun h => h, trivial⟩⟩ rfl rfl ?_
    refine qc (l := [39]) ⟨⟨_, _, _, rfl, rfl, rfl, rfl⟩, rfl, fun hc => q_move rfl, ⟨fun h => h, trivial⟩⟩ rfl rfl ?_
    refine qc (l := []) ⟨⟨_, _, _, rfl, rfl, rfl, rfl⟩, rfl, fun hc => q_move rfl, trivial⟩ rfl rfl ?_
    refine qc (l := []) ⟨⟨_, _, _, rfl, rfl, rfl, rfl⟩, rfl, fun hc => q_move rfl, trivial⟩ rfl rfl ?_
    refine qc (l := [41, 42]) ⟨⟨_, _, _, rfl, rfl, rfl, rfl⟩, rfl, fun hc => q_idx_l rfl rfl (idx_inv x5_h).1 (map_get (idx_inv x5_h).2.1) rfl, ⟨fun h => h, ⟨fun h => h, trivial⟩⟩⟩ rfl rfl ?_
    refine qc (l := [43]) ⟨⟨_, _, _, rfl, rfl, rfl, rfl⟩, rfl, fun hc => q_fld_q rfl, ⟨fun h => h, trivial⟩⟩ rfl rfl ?_
    refine qc (l := [44]) ⟨⟨_, _, _, rfl, rfl, rfl, rfl⟩, rfl, fun hc => q_load1_q rfl, ⟨fun h => h, trivial⟩⟩ rfl rfl ?_
    refine qc (l := []) ⟨⟨_, _, _, rfl, rfl, rfl, rfl⟩, rfl, fun hc => q_move rfl, trivial⟩ rfl rfl ?_
    refine qc (l := []) ⟨⟨_, _, _, rfl, rfl, rfl, rfl⟩, rfl, fun hc => q_move rfl, trivial⟩ rfl rfl ?_
    refine qc (l := [47]) ⟨⟨_, _, _, rfl, rfl, rfl, rfl⟩, rfl, fun hc => q_sub rfl rfl, ⟨fun h => h, trivial⟩⟩ rfl rfl ?_
    refine qc (l := [46, 48]) ⟨⟨_, _, _, rfl, rfl, rfl, rfl⟩, rfl, fun hc => q_idx_l rfl rfl (idx_inv (x8_h hc)).1 (map_get (idx_inv (x8_h hc)).2.1) rfl, ⟨fun h => h, ⟨fun h => h, trivial⟩⟩⟩ rfl rfl ?_
    refine qc (l := [49]) ⟨⟨_, _, _, rfl, rfl, rfl, rfl⟩, rfl, fun hc => q_fld_q rfl, ⟨fun h => h, trivial⟩⟩ rfl rfl ?_
    refine qc (l := [50]) ⟨⟨_, _, _, rfl, rfl, rfl, rfl⟩, rfl, fun hc => q_load1_q rfl, ⟨fun h => h, trivial⟩⟩ rfl rfl ?_
    refine qc (l := [45, 51]) ⟨⟨_, _, _, rfl, rfl, rfl, rfl⟩, rfl, fun hc => q_leq rfl rfl, ⟨fun h => h, ⟨fun h => h, trivial⟩⟩⟩ rfl rfl ?_
    refine qc (l := [40]) ⟨⟨_, _, _, rfl, rfl, rfl, rfl⟩, rfl, fun hc => q_pickb rfl rfl rfl (PB.c (fun hp => by simp_all)) PB.v, ⟨fun h => h, trivial⟩⟩ rfl rfl ?_
    refine qq rfl rfl (q_pickb rfl rfl rfl PB.v (PB.c (fun hp => by rw [hp]; rfl))) ?_
    refine qn ?_
    refine ev_cond rfl (fun hc => ?_) (fun hc => ?_)
    · replace H := ct hc H
      refine ev_seq ?_
      refine ev_region ?_
      refine rq rfl rfl (q_assign rfl) ?_
      refine run_nil ?_
      refine ev_ret ?_
      exact ret_ok [vb false] (congrArg (fun r : Bool => vb r) (Option.some.inj H)) rfl (.cons (.tmp rfl (.v _ _ (fun _ => rfl))) .nil)
    · replace H := cf hc H
      refine ev_skip ?_
      refine ev_region ?_
      refine rq rfl rfl (q_move rfl) ?_
      refine rq rfl rfl (q_add rfl rfl) ?_
      refine rq rfl rfl (q_assign rfl) ?_
      refine run_nil ?_
      exact ⟨_, _, w6, H, rfl, shift_mk ⟨⟨_, rfl, .rfl⟩, ⟨⟨_, rfl, (.flat rfl)⟩, ⟨⟨_, rfl, (.eq (congrArg (fun n => D.v true (vi n)) (wrap_succ w6 w7)))⟩, trivial⟩⟩⟩ trivial rfl rfl⟩
  · replace H := forL_out hc H
    refine ev_exit ?_
    refine ev_seq ?_
    refine ev_region ?_
    refine rq rfl rfl (q_move rfl) ?_
    refine rq rfl rfl (q_len_t rfl) ?_
    refine rq rfl rfl (q_leq rfl rfl) ?_
    refine rq rfl rfl (q_assign rfl) ?_
    refine run_nil ?_
    refine ev_ret ?_
    exact ret_ok [vb (decide (((a0.length : Nat) : Int) ≤ 16))] (congrArg (fun r : Bool => vb r) (Option.some.inj H)) rfl (.cons (.tmp rfl (.v _ _ (fun _ => rfl))) .nil)
def backflushref18_Day_m (a0 : Int) : Option Bool := some (bif decide (0 ≤ a0) then decide (a0 < 1024) else false)
theorem backflushref18_Day_c {a0 : Int} {r : Bool} (H : backflushref18_Day_m a0 = some r) : PureC Try.prog true 61 [vi a0] (vb r) := by
  unfold backflushref18_Day_m at H
  refine pure_intro (N := 9) Try.func61 rfl rfl rfl rfl fun C hO => ?_
  refine ev_shift (shift_mk (fs := [(0, .v true (vi a0))]) (es := []) ⟨⟨_, rfl, (.flat rfl)⟩, trivial⟩ trivial rfl rfl) ?_
  refine ev_seq ?_
  refine ev_region ?_
  refine rq rfl rfl (q_assign rfl) ?_
  refine run_nil ?_
  refine ev_seq ?_
  refine ev_region ?_
  refine rq rfl rfl (q_move rfl) ?_
  refine rq rfl rfl (q_geq rfl rfl) ?_
  refine rq rfl rfl (q_move rfl) ?_
  refine rqc (l := []) ⟨⟨_, _, _, rfl, rfl, rfl, rfl⟩, rfl, fun hc => q_move rfl, trivial⟩ rfl ?_
  refine rqc (l := [6]) ⟨⟨_, _, _, rfl, rfl, rfl, rfl⟩, rfl, fun hc => q_lss rfl rfl, ⟨fun h => h, trivial⟩⟩ rfl ?_
  refine rq rfl rfl (q_pickb rfl rfl rfl (PB.c (fun hp => hp)) PB.v) ?_
  refine rq rfl rfl (q_assign rfl) ?_
  refine run_nil ?_
  refine ev_ret ?_
  exact ret_ok [vb (bif decide (0 ≤ a0) then decide (a0 < 1024) else false)] (congrArg (fun r : Bool => vb r) (Option.some.inj H)) rfl (.cons (.tmp rfl (.v _ _ (fun _ => rfl))) .nil)
def backflushref18_head_m  : Option GKey := some (⟨0, 0, 0⟩ : GKey)
theorem backflushref18_head_c  {r : GKey} (H : backflushref18_head_m  = some r) : PureC Try.prog true 62 [] (GKey.e r) := by
  unfold backflushref18_head_m at H
  refine pure_intro (N := 2) Try.func62 rfl rfl rfl rfl fun C hO => ?_
  refine ev_seq ?_
  refine ev_region ?_
  refine re rfl (e_alloc 0 0 rfl rfl) ?_; rintro _ ⟨b1, rfl⟩
  refine run_nil ?_
  refine ev_seq ?_
  refine ev_region ?_
  refine rq rfl rfl (q_build rfl (.v rfl rfl rfl rfl rfl .nil)) ?_
  refine re rfl (e_store rfl rfl rfl rfl rfl (Nat.le_of_ble_eq_true rfl) rfl) ?_; rintro _ rfl
  refine run_nil ?_
  refine ev_ret ?_
  exact ret_ok [GKey.e (⟨0, 0, 0⟩ : GKey)] (congrArg (fun r : GKey => GKey.e r) (Option.some.inj H)) rfl (.cons (.cellN (z := 3) rfl rfl rfl rfl rfl rfl (.v _ _ (fun _ => rfl))) .nil)
def backflushref18_many_m (a0 : GWorld) (a1 : Int) (a2 : Int) : Option Int := bd (backflushref18_Day_m a1) fun x2 => bif !x2 then (some 0) else (bd (backflushref18_head_m) fun x3 => bd (backflushref04_At_m a0.facts x3 a1 a2) fun x4 => some (min (max x4.1 0) 1024))
theorem backflushref18_many_c {a0 : GWorld} {a1 : Int} {a2 : Int} {r : Int} (H : backflushref18_many_m a0 a1 a2 = some r) : PureC Try.prog true 63 [GWorld.e a0, vi a1, vi a2] (vi r) := by
  unfold backflushref18_many_m at H
  refine pure_intro (N := 24) Try.func63 rfl rfl rfl rfl fun C hO => ?_
  refine ev_shift (shift_mk (fs := [(0, .v false (GWorld.e a0)), (1, .v true (vi a1)), (2, .v true (vi a2))]) (es := []) ⟨⟨_, rfl, .rfl⟩, ⟨⟨_, rfl, (.flat rfl)⟩, ⟨⟨_, rfl, (.flat rfl)⟩, trivial⟩⟩⟩ trivial rfl rfl) ?_
  refine ev_seq ?_
  refine ev_region ?_
  refine re rfl (e_box 3 0 rfl rfl rfl) ?_; rintro _ ⟨b1, rfl⟩
  refine rq rfl rfl (q_assign rfl) ?_
  refine run_nil ?_
  refine ev_seq ?_
  refine ev_seq ?_
  refine ev_region ?_
  refine rq rfl rfl (q_move rfl) ?_
  obtain ⟨x2, x2_h, H⟩ := bd_inv H
  refine rq rfl rfl (q_call rfl (.v _ _ (fun e => nomatch e)) (.v rfl ArgsOk.nil) inferInstance (backflushref18_Day_c  x2_h)) ?_
  refine rq rfl rfl (q_not rfl) ?_
  refine run_nil ?_
  refine ev_cond rfl (fun hc => ?_) (fun hc => ?_)
  · replace H := ct hc H
    refine ev_seq ?_
    refine ev_region ?_
    refine rq rfl rfl (q_assign rfl) ?_
    refine run_nil ?_
    refine ev_ret ?_
    exact ret_ok [vi 0] (congrArg (fun r : Int => vi r) (Option.some.inj H)) rfl (.cons (.tmp rfl (.v _ _ (fun _ => rfl))) .nil)
  · replace H := cf hc H
    refine ev_skip ?_
    refine ev_seq ?_
    obtain ⟨x3, x3_h, H⟩ := bd_inv H
    obtain ⟨x4, x4_h, H⟩ := bd_inv H
    refine ev_draw rfl (by kernel_rfl) ?_
    refine qq rfl rfl (q_fld_p rfl) ?_
    refine qq rfl rfl (q_load1 rfl rfl rfl) ?_
    refine qq rfl rfl (q_call rfl (.v _ _ (fun e => nomatch e)) ArgsOk.nil inferInstance (backflushref18_head_c  x3_h)) ?_
    refine qq rfl rfl (q_move rfl) ?_
    refine qq rfl rfl (q_move rfl) ?_
    refine qq rfl rfl (q_call rfl (.v _ _ (fun e => nomatch e)) (.v rfl (.v rfl (.v rfl (.v rfl ArgsOk.nil)))) inferInstance (backflushref04_At_c  x4_h)) ?_
    refine qq rfl rfl (q_move rfl) ?_
    refine qq rfl rfl (q_extract rfl rfl) ?_
    refine qq rfl rfl (q_extract rfl rfl) ?_
    refine qq rfl rfl (q_assign rfl) ?_
    refine qq rfl rfl (q_assign rfl) ?_
    refine qn ?_
    refine ev_seq ?_
    refine ev_region ?_
    refine rq rfl rfl (q_move rfl) ?_
    refine rq rfl rfl (q_max rfl rfl) ?_
    refine rq rfl rfl (q_min rfl rfl) ?_
    refine rq rfl rfl (q_assign rfl) ?_
    refine run_nil ?_
    refine ev_ret ?_
    exact ret_ok [vi (min (max x4.1 0) 1024)] (congrArg (fun r : Int => vi r) (Option.some.inj H)) rfl (.cons (.tmp rfl (.v _ _ (fun _ => rfl))) .nil)
def backflushref18_Right_m (a0 : GLot) : Option Bool := some (bif bif bif bif bif bif bif bif decide (0 ≤ a0.item) then decide (a0.item < 32) else false then decide (0 ≤ a0.plant) else false then decide (a0.plant < 8) else false then decide (1 ≤ a0.amount) else false then decide (0 ≤ a0.expiry) else false then decide (a0.expiry ≤ 1024) else false then decide (0 ≤ a0.state) else false then decide (a0.state ≤ 3) else false)
theorem backflushref18_Right_c {a0 : GLot} {r : Bool} (H : backflushref18_Right_m a0 = some r) : PureC Try.prog true 40 [GLot.e a0] (vb r) := by
  unfold backflushref18_Right_m at H
  refine pure_intro (N := 46) Try.func40 rfl rfl rfl rfl fun C hO => ?_
  refine ev_shift (shift_mk (fs := [(0, .v true (GLot.e a0))]) (es := []) ⟨⟨_, rfl, (.flat rfl)⟩, trivial⟩ trivial rfl rfl) ?_
  refine ev_seq ?_
  refine ev_region ?_
  refine re rfl (e_box 1 0 rfl rfl rfl) ?_; rintro _ ⟨b1, rfl⟩
  refine rq rfl rfl (q_assign rfl) ?_
  refine run_nil ?_
  refine ev_seq ?_
  refine ev_region ?_
  refine rq rfl rfl (q_fld_p rfl) ?_
  refine rq rfl rfl (q_load1 rfl rfl rfl) ?_
  refine rq rfl rfl (q_geq rfl rfl) ?_
  refine rq rfl rfl (q_move rfl) ?_
  refine rqc (l := []) ⟨⟨_, _, _, rfl, rfl, rfl, rfl⟩, rfl, fun hc => q_fld_p rfl, trivial⟩ rfl ?_
  refine rqc (l := [7]) ⟨⟨_, _, _, rfl, rfl, rfl, rfl⟩, rfl, fun hc => q_load1 rfl rfl rfl, ⟨fun h => h, trivial⟩⟩ rfl ?_
  refine rqc (l := [8]) ⟨⟨_, _, _, rfl, rfl, rfl, rfl⟩, rfl, fun hc => q_lss rfl rfl, ⟨fun h => h, trivial⟩⟩ rfl ?_
  refine rq rfl rfl (q_pickb rfl rfl rfl (PB.c (fun hp => hp)) PB.v) ?_
  refine rq rfl rfl (q_move rfl) ?_
  refine rqc (l := []) ⟨⟨_, _, _, rfl, rfl, rfl, rfl⟩, rfl, fun hc => q_fld_p rfl, trivial⟩ rfl ?_
  refine rqc (l := [12]) ⟨⟨_, _, _, rfl, rfl, rfl, rfl⟩, rfl, fun hc => q_load1 rfl rfl rfl, ⟨fun h => h, trivial⟩⟩ rfl ?_
  refine rqc (l := [13]) ⟨⟨_, _, _, rfl, rfl, rfl, rfl⟩, rfl, fun hc => q_geq rfl rfl, ⟨fun h => h, trivial⟩⟩ rfl ?_
  refine rq rfl rfl (q_pickb rfl rfl rfl (PB.c (fun hp => hp)) PB.v) ?_
  refine rq rfl rfl (q_move rfl) ?_
  refine rqc (l := []) ⟨⟨_, _, _, rfl, rfl, rfl, rfl⟩, rfl, fun hc => q_fld_p rfl, trivial⟩ rfl ?_
  refine rqc (l := [17]) ⟨⟨_, _, _, rfl, rfl, rfl, rfl⟩, rfl, fun hc => q_load1 rfl rfl rfl, ⟨fun h => h, trivial⟩⟩ rfl ?_
  refine rqc (l := [18]) ⟨⟨_, _, _, rfl, rfl, rfl, rfl⟩, rfl, fun hc => q_lss rfl rfl, ⟨fun h => h, trivial⟩⟩ rfl ?_
  refine rq rfl rfl (q_pickb rfl rfl rfl (PB.c (fun hp => hp)) PB.v) ?_
  refine rq rfl rfl (q_move rfl) ?_
  refine rqc (l := []) ⟨⟨_, _, _, rfl, rfl, rfl, rfl⟩, rfl, fun hc => q_fld_p rfl, trivial⟩ rfl ?_
  refine rqc (l := [22]) ⟨⟨_, _, _, rfl, rfl, rfl, rfl⟩, rfl, fun hc => q_load1 rfl rfl rfl, ⟨fun h => h, trivial⟩⟩ rfl ?_
  refine rqc (l := [23]) ⟨⟨_, _, _, rfl, rfl, rfl, rfl⟩, rfl, fun hc => q_geq rfl rfl, ⟨fun h => h, trivial⟩⟩ rfl ?_
  refine rq rfl rfl (q_pickb rfl rfl rfl (PB.c (fun hp => hp)) PB.v) ?_
  refine rq rfl rfl (q_move rfl) ?_
  refine rqc (l := []) ⟨⟨_, _, _, rfl, rfl, rfl, rfl⟩, rfl, fun hc => q_fld_p rfl, trivial⟩ rfl ?_
  refine rqc (l := [27]) ⟨⟨_, _, _, rfl, rfl, rfl, rfl⟩, rfl, fun hc => q_load1 rfl rfl rfl, ⟨fun h => h, trivial⟩⟩ rfl ?_
  refine rqc (l := [28]) ⟨⟨_, _, _, rfl, rfl, rfl, rfl⟩, rfl, fun hc => q_geq rfl rfl, ⟨fun h => h, trivial⟩⟩ rfl ?_
  refine rq rfl rfl (q_pickb rfl rfl rfl (PB.c (fun hp => hp)) PB.v) ?_
  refine rq rfl rfl (q_move rfl) ?_
  refine rqc (l := []) ⟨⟨_, _, _, rfl, rfl, rfl, rfl⟩, rfl, fun hc => q_fld_p rfl, trivial⟩ rfl ?_
  refine rqc (l := [32]) ⟨⟨_, _, _, rfl, rfl, rfl, rfl⟩, rfl, fun hc => q_load1 rfl rfl rfl, ⟨fun h => h, trivial⟩⟩ rfl ?_
  refine rqc (l := [33]) ⟨⟨_, _, _, rfl, rfl, rfl, rfl⟩, rfl, fun hc => q_leq rfl rfl, ⟨fun h => h, trivial⟩⟩ rfl ?_
  refine rq rfl rfl (q_pickb rfl rfl rfl (PB.c (fun hp => hp)) PB.v) ?_
  refine rq rfl rfl (q_move rfl) ?_
  refine rqc (l := []) ⟨⟨_, _, _, rfl, rfl, rfl, rfl⟩, rfl, fun hc => q_fld_p rfl, trivial⟩ rfl ?_
  refine rqc (l := [37]) ⟨⟨_, _, _, rfl, rfl, rfl, rfl⟩, rfl, fun hc => q_load1 rfl rfl rfl, ⟨fun h => h, trivial⟩⟩ rfl ?_
  refine rqc (l := [38]) ⟨⟨_, _, _, rfl, rfl, rfl, rfl⟩, rfl, fun hc => q_geq rfl rfl, ⟨fun h => h, trivial⟩⟩ rfl ?_
  refine rq rfl rfl (q_pickb rfl rfl rfl (PB.c (fun hp => hp)) PB.v) ?_
  refine rq rfl rfl (q_move rfl) ?_
  refine rqc (l := []) ⟨⟨_, _, _, rfl, rfl, rfl, rfl⟩, rfl, fun hc => q_fld_p rfl, trivial⟩ rfl ?_
  refine rqc (l := [42]) ⟨⟨_, _, _, rfl, rfl, rfl, rfl⟩, rfl, fun hc => q_load1 rfl rfl rfl, ⟨fun h => h, trivial⟩⟩ rfl ?_
  refine rqc (l := [43]) ⟨⟨_, _, _, rfl, rfl, rfl, rfl⟩, rfl, fun hc => q_leq rfl rfl, ⟨fun h => h, trivial⟩⟩ rfl ?_
  refine rq rfl rfl (q_pickb rfl rfl rfl (PB.c (fun hp => hp)) PB.v) ?_
  refine rq rfl rfl (q_assign rfl) ?_
  refine run_nil ?_
  refine ev_ret ?_
  exact ret_ok [vb (bif bif bif bif bif bif bif bif decide (0 ≤ a0.item) then decide (a0.item < 32) else false then decide (0 ≤ a0.plant) else false then decide (a0.plant < 8) else false then decide (1 ≤ a0.amount) else false then decide (0 ≤ a0.expiry) else false then decide (a0.expiry ≤ 1024) else false then decide (0 ≤ a0.state) else false then decide (a0.state ≤ 3) else false)] (congrArg (fun r : Bool => vb r) (Option.some.inj H)) rfl (.cons (.tmp rfl (.v _ _ (fun _ => rfl))) .nil)
def backflushref18_lot_m (a0 : GWorld) (a1 : Int) (a2 : Int) (a3 : Int) : Option (GLot × (List GRead) × Bool) := forN 0 5 (fun (k7 : Int) (s5 : (List Int) × (List GRead)) loop6 => gd (decide ((s5.2.length + ([(⟨(⟨1, a1, k7⟩ : GKey), a2, wr (a2 + 1)⟩ : GRead)] : List GRead).length) * 41 ≤ 140737488355328)) <| bd (backflushref04_At_m a0.facts (⟨1, a1, k7⟩ : GKey) a2 a3) fun x23 => bif !x23.2 then (some ((⟨0, 0, 0, 0, 0, 0⟩ : GLot), s5.2 ++ ([(⟨(⟨1, a1, k7⟩ : GKey), a2, wr (a2 + 1)⟩ : GRead)] : List GRead), false)) else (gd (decide ((s5.1.length + ([x23.1] : List Int).length) * 9 ≤ 140737488355328)) <| loop6 (s5.1 ++ ([x23.1] : List Int), s5.2 ++ ([(⟨(⟨1, a1, k7⟩ : GKey), a2, wr (a2 + 1)⟩ : GRead)] : List GRead)))) (fun (s5 : (List Int) × (List GRead)) => bd (idx s5.1 0) fun x26 => bd (idx s5.1 1) fun x27 => bd (idx s5.1 2) fun x28 => bd (idx s5.1 3) fun x29 => bd (idx s5.1 4) fun x30 => bd (backflushref18_Right_m (⟨a1, x26, x27, x28, x29, x30⟩ : GLot)) fun x33 => bif !x33 then (some ((⟨0, 0, 0, 0, 0, 0⟩ : GLot), s5.2, false)) else (some ((⟨a1, x26, x27, x28, x29, x30⟩ : GLot), s5.2, true))) (([] : List Int), ([] : List GRead))
theorem backflushref18_lot_c {a0 : GWorld} {a1 : Int} {a2 : Int} {a3 : Int} {r : GLot × (List GRead) × Bool} (H : backflushref18_lot_m a0 a1 a2 a3 = some r) : PureC Try.prog true 64 [GWorld.e a0, vi a1, vi a2, vi a3] (V.t [GLot.e r.1, V.l 5 (List.map GRead.e r.2.1), vb r.2.2]) := by
  unfold backflushref18_lot_m at H
  refine pure_intro (N := 76) Try.func64 rfl rfl rfl rfl fun C hO => ?_
  refine ev_shift (shift_mk (fs := [(0, .v false (GWorld.e a0)), (1, .v true (vi a1)), (2, .v true (vi a2)), (3, .v true (vi a3))]) (es := []) ⟨⟨_, rfl, .rfl⟩, ⟨⟨_, rfl, (.flat rfl)⟩, ⟨⟨_, rfl, (.flat rfl)⟩, ⟨⟨_, rfl, (.flat rfl)⟩, trivial⟩⟩⟩⟩ trivial rfl rfl) ?_
  refine ev_seq ?_
  refine ev_region ?_
  refine re rfl (e_box 4 0 rfl rfl rfl) ?_; rintro _ ⟨b1, rfl⟩
  refine re rfl (e_alloc 8 0 rfl rfl) ?_; rintro _ ⟨b2, rfl⟩
  refine rq rfl rfl (q_assign rfl) ?_
  refine rq rfl rfl (q_assign rfl) ?_
  refine run_nil ?_
  refine ev_seq ?_
  refine ev_region ?_
  refine re rfl (e_buildSlice 18 0 rfl rfl rfl rfl) ?_; rintro _ ⟨b3, rfl⟩
  refine rq rfl rfl (q_assign rfl) ?_
  refine run_nil ?_
  refine ev_seq ?_
  refine ev_region ?_
  refine re rfl (e_buildSlice 19 0 rfl rfl rfl rfl) ?_; rintro _ ⟨b4, rfl⟩
  refine rq rfl rfl (q_assign rfl) ?_
  refine run_nil ?_
  refine ev_seq ?_
  refine ev_seq ?_
  refine ev_region ?_
  refine rq rfl rfl (q_assign rfl) ?_
  refine run_nil ?_
  refine ev_block ?_
  refine ev_forN H (fun k7 s5 σ' => ∃ (q10 : Pl) (q12 : Pl), σ' = mkS [(1, .v true (vi a1)), (2, .v true (vi a2)), (3, .v true (vi a3)), (4, .p 4 0 b1 0), (8, .p 8 0 b2 0), (9, .v true (.raw (.slice none 0 0))), (10, .v true (vb false)), (11, .o 18 0 q10 1 0 s5.1.length), (12, .o 19 0 q12 5 0 s5.2.length), (13, .v true (vi k7))] [.e 4 0 (some (b1, 11)) (.row 38 [.v false (V.l 8 (List.map GUnit.e a0.tables.source.units)), .v false (V.l 6 (List.map GItem.e a0.tables.source.items)), .v false (V.l 1 (List.map V.s a0.tables.source.plants)), .v false (V.l 4 (List.map GMachine.e a0.tables.source.machines)), .v false (V.l 2 (List.map GOption.e a0.tables.source.options)), .v false (V.l 1 (List.map (fun l => V.l 4 (List.map GCond.e l)) a0.tables.source.forbids)), .v false (V.l 17 (List.map GRecipe.e a0.tables.source.recipes)), .v false (V.l 4 (List.map GSwap.e a0.tables.source.swaps)), .v false (V.l 1 (List.map vi a0.tables.levels)), .v false (V.l 1 (List.map (fun l => V.l 6 (List.map GInst.e l)) a0.tables.codes)), .v false (V.l 8 (List.map GFact.e a0.facts))]), .e 8 0 (some (b2, 6)) (.row 60 [.v true (vi 0), .v true (vi 0), .v true (vi 0), .v true (vi 0), .v true (vi 0), .v true (vi 0)]), .e 18 0 q10 (.row 3 (els true (List.map vi s5.1))), .e 19 0 q12 (.row 100 (els true (List.map GRead.e s5.2)))] [] (0, false)) ⟨_, ⟨(some (b3, 0 * 1)), (some (b4, 0 * 5)), rfl⟩, shift_mk ⟨⟨_, rfl, (.flat rfl)⟩, ⟨⟨_, rfl, (.flat rfl)⟩, ⟨⟨_, rfl, (.flat rfl)⟩, ⟨⟨_, rfl, .rfl⟩, ⟨⟨_, rfl, .rfl⟩, ⟨⟨_, rfl, .rfl⟩, ⟨⟨_, rfl, (.flat rfl)⟩, ⟨⟨_, rfl, .rfl⟩, ⟨⟨_, rfl, .rfl⟩, ⟨⟨_, rfl, .rfl⟩, trivial⟩⟩⟩⟩⟩⟩⟩⟩⟩⟩ ⟨(.e rfl), ⟨(.w rfl (.cons (.flat rfl) (.cons (.flat rfl) (.cons (.flat rfl) (.cons (.flat rfl) (.cons (.flat rfl) (.cons (.flat rfl) .nil))))))), ⟨(.e rfl), ⟨(.e rfl), trivial⟩⟩⟩⟩ rfl rfl⟩ ?_
  rintro n13 k7 s5 _ ⟨q10, q12, rfl⟩ w14 w15 w16 w17 H
  refine ev_seq ?_
  refine ev_seq ?_
  refine ev_region ?_
  refine rq rfl rfl (q_move rfl) ?_
  refine rq rfl rfl (q_lss rfl rfl) ?_
  refine run_nil ?_
  refine ev_cond rfl (fun hc => ?_) (fun hc => ?_)
  · obtain ⟨n19, n19_e, w18, H⟩ := forN_in hc w14 H
    refine ev_skip ?_
    refine ev_seq ?_
    refine ev_block ?_
    refine ev_seq ?_
    refine ev_region ?_
    refine rq rfl rfl (q_move rfl) ?_
    refine rq rfl rfl (q_move rfl) ?_
    refine rq rfl rfl (q_build rfl (.v rfl rfl rfl rfl rfl (.v rfl rfl rfl rfl rfl (.v rfl rfl rfl rfl rfl .nil)))) ?_
    refine re rfl (e_alloc 14 0 rfl rfl) ?_; rintro _ ⟨b20, rfl⟩
    refine re rfl (e_store rfl rfl rfl rfl rfl (Nat.le_of_ble_eq_true rfl) rfl) ?_; rintro _ rfl
    refine run_nil ?_
    refine ev_seq ?_
    refine ev_region ?_
    refine rq rfl rfl (q_move rfl) ?_
    refine rq rfl rfl (q_loadN rfl rfl rfl rfl) ?_
    refine rq rfl rfl (q_move rfl) ?_
    refine rq rfl rfl (q_move rfl) ?_
    refine rq rfl rfl (q_add rfl rfl) ?_
    refine rq rfl rfl (q_build rfl (.v rfl rfl rfl rfl rfl (.v rfl rfl rfl rfl rfl (.v rfl rfl rfl rfl rfl .nil)))) ?_
    refine rq rfl rfl (q_buildSlice (z := 5) (xs := List.map GRead.e ([(⟨(⟨1, a1, k7⟩ : GKey), a2, wr (a2 + 1)⟩ : GRead)] : List GRead)) (fl := true) rfl rfl rfl rfl (by simp [V.plain, V.cells, GRead.e, vi, vb]) rfl) ?_
    obtain ⟨w21, H⟩ := gdd_inv H
    refine re rfl (e_appt rfl rfl rfl (fun _ => ⟨rfl, rfl⟩) rfl rfl rfl w21 rfl) ?_; rintro _ ⟨q22, rfl⟩
    refine rq rfl rfl (q_assign rfl) ?_
    refine run_nil ?_
    refine ev_seq ?_
    refine ev_region ?_
    refine rq rfl rfl (q_fld_p rfl) ?_
    refine rq rfl rfl (q_load1 rfl rfl rfl) ?_
    refine rq rfl rfl (q_loadN rfl rfl rfl rfl) ?_
    refine rq rfl rfl (q_move rfl) ?_
    refine rq rfl rfl (q_move rfl) ?_
    obtain ⟨x23, x23_h, H⟩ := bd_inv H
    refine rq rfl rfl (q_call rfl (.v _ _ (fun e => nomatch e)) (.v rfl (.v rfl (.v rfl (.v rfl ArgsOk.nil)))) inferInstance (backflushref04_At_c  x23_h)) ?_
    refine rq rfl rfl (q_move rfl) ?_
    refine rq rfl rfl (q_extract rfl rfl) ?_
    refine rq rfl rfl (q_extract rfl rfl) ?_
    refine rq rfl rfl (q_assign rfl) ?_
    refine rq rfl rfl (q_assign rfl) ?_
    refine run_nil ?_
    refine ev_seq ?_
    refine ev_seq ?_
    refine ev_region ?_
    refine rq rfl rfl (q_move rfl) ?_
    refine rq rfl rfl (q_not rfl) ?_
    refine run_nil ?_
    refine ev_cond rfl (fun hc => ?_) (fun hc => ?_)
    · replace H := ct hc H
      refine ev_seq ?_
      refine ev_region ?_
      refine rq rfl rfl (q_build rfl .nil) ?_
      refine rq rfl rfl (q_move rfl) ?_
      refine re rfl (e_store rfl rfl rfl rfl rfl (Nat.le_of_ble_eq_true rfl) rfl) ?_; rintro _ rfl
      refine rq rfl rfl (q_assign rfl) ?_
      refine rq rfl rfl (q_assign rfl) ?_
      refine run_nil ?_
      refine ev_ret ?_
      exact ret_ok [GLot.e (⟨0, 0, 0, 0, 0, 0⟩ : GLot), V.l 5 (List.map GRead.e (s5.2 ++ ([(⟨(⟨1, a1, k7⟩ : GKey), a2, wr (a2 + 1)⟩ : GRead)] : List GRead))), vb false] (congrArg (fun r : GLot × (List GRead) × Bool => V.t [GLot.e r.1, V.l 5 (List.map GRead.e r.2.1), vb r.2.2]) (Option.some.inj H)) rfl (.cons (.cellN (z := 6) rfl rfl rfl rfl rfl rfl (.v _ _ (fun _ => rfl))) (.cons (.tmp rfl (.all rfl (List.length_map _) (els_plain fun _ => ⟨rfl, rfl⟩) (fun _ => rfl))) (.cons (.tmp rfl (.v _ _ (fun _ => rfl))) .nil)))
    · replace H := cf hc H
      refine ev_skip ?_
      refine ev_region ?_
      refine rq rfl rfl (q_move rfl) ?_
      refine rq rfl rfl (q_move rfl) ?_
      refine rq rfl rfl (q_buildSlice (z := 1) (xs := List.map vi ([x23.1] : List Int)) (fl := true) rfl rfl rfl rfl (by simp [V.plain, V.cells, vi, vb]) rfl) ?_
      obtain ⟨w24, H⟩ := gdd_inv H
      refine re rfl (e_appt rfl rfl rfl (fun _ => ⟨rfl, rfl⟩) rfl rfl rfl w24 rfl) ?_; rintro _ ⟨q25, rfl⟩
      refine rq rfl rfl (q_assign rfl) ?_
      refine run_nil ?_
      refine ev_region ?_
      refine rq rfl rfl (q_move rfl) ?_
      refine rq rfl rfl (q_add rfl rfl) ?_
      refine rq rfl rfl (q_assign rfl) ?_
      refine run_nil ?_
      exact ⟨_, _, _, n19_e, H, ⟨q25, q22, rfl⟩, shift_mk ⟨⟨_, rfl, (.flat rfl)⟩, ⟨⟨_, rfl, (.flat rfl)⟩, ⟨⟨_, rfl, (.flat rfl)⟩, ⟨⟨_, rfl, .rfl⟩, ⟨⟨_, rfl, .rfl⟩, ⟨⟨_, rfl, .rfl⟩, ⟨⟨_, rfl, (.flat rfl)⟩, ⟨⟨_, rfl, .rfl⟩, ⟨⟨_, rfl, .rfl⟩, ⟨⟨_, rfl, (.eq (congrArg (fun n => D.v true (vi n)) (wrap_succ' (by omega) w18 w17)))⟩, trivial⟩⟩⟩⟩⟩⟩⟩⟩⟩⟩ ⟨(.e rfl), ⟨(.w rfl (.cons (.flat rfl) (.cons (.flat rfl) (.cons (.flat rfl) (.cons (.flat rfl) (.cons (.flat rfl) (.cons (.flat rfl) .nil))))))), ⟨(.e rfl), ⟨(.e rfl), trivial⟩⟩⟩⟩ rfl rfl⟩
  · replace H := forN_out hc w14 H
    refine ev_exit ?_
    refine ev_seq ?_
    obtain ⟨x26, x26_h, H⟩ := bd_inv H
    obtain ⟨x27, x27_h, H⟩ := bd_inv H
    obtain ⟨x28, x28_h, H⟩ := bd_inv H
    obtain ⟨x29, x29_h, H⟩ := bd_inv H
    obtain ⟨x30, x30_h, H⟩ := bd_inv H
    refine ev_drawX (fun i => (assocN [(17, [17]), (18, [17])] i).getD []) rfl ?_
    refine xq (r := some _) [17] 0 (.start _) rfl (by kernel_rfl) (by kernel_rfl) ⟨rfl, .inl ⟨rfl, Quiet.norm (q_move rfl)⟩⟩ rfl (fun hcl => ?_)
    refine xq (r := some _) [17] 1 hcl rfl (by kernel_rfl) (by kernel_rfl) ⟨rfl, .inl ⟨rfl, Quiet.norm (q_move rfl)⟩⟩ rfl (fun hcl => ?_)
    refine xq (r := some _) [17] 2 hcl rfl (by kernel_rfl) (by kernel_rfl) ⟨rfl, .inl ⟨rfl, Quiet.norm (q_idx_pl rfl rfl (idx_inv x26_h).1 (idx_inv x26_h).2.2.2)⟩⟩ rfl (fun hcl => ?_)
    refine xq (r := some _) [17] 3 hcl rfl (by kernel_rfl) (by kernel_rfl) ⟨rfl, .inl ⟨rfl, Quiet.norm (q_load_el0p (E := vi) (fun _ => rfl) rfl rfl (idx_inv x26_h).2.1)⟩⟩ rfl (fun hcl => ?_)
    refine xq (r := some _) [17] 4 hcl rfl (by kernel_rfl) (by kernel_rfl) ⟨rfl, .inl ⟨rfl, Quiet.norm (q_move rfl)⟩⟩ rfl (fun hcl => ?_)
    refine xq (r := some _) [17] 5 hcl rfl (by kernel_rfl) (by kernel_rfl) ⟨rfl, .inl ⟨rfl, Quiet.norm (q_idx_pl rfl rfl (idx_inv x27_h).1 (idx_inv x27_h).2.2.2)⟩⟩ rfl (fun hcl => ?_)
    refine xq (r := some _) [17] 6 hcl rfl (by kernel_rfl) (by kernel_rfl) ⟨rfl, .inl ⟨rfl, Quiet.norm (q_load_el0p (E := vi) (fun _ => rfl) rfl rfl (idx_inv x27_h).2.1)⟩⟩ rfl (fun hcl => ?_)
    refine xq (r := some _) [17] 7 hcl rfl (by kernel_rfl) (by kernel_rfl) ⟨rfl, .inl ⟨rfl, Quiet.norm (q_move rfl)⟩⟩ rfl (fun hcl => ?_)
    refine xq (r := some _) [17] 8 hcl rfl (by kernel_rfl) (by kernel_rfl) ⟨rfl, .inl ⟨rfl, Quiet.norm (q_idx_pl rfl rfl (idx_inv x28_h).1 (idx_inv x28_h).2.2.2)⟩⟩ rfl (fun hcl => ?_)
    refine xq (r := some _) [17] 9 hcl rfl (by kernel_rfl) (by kernel_rfl) ⟨rfl, .inl ⟨rfl, Quiet.norm (q_load_el0p (E := vi) (fun _ => rfl) rfl rfl (idx_inv x28_h).2.1)⟩⟩ rfl (fun hcl => ?_)
    refine xq (r := some _) [17] 10 hcl rfl (by kernel_rfl) (by kernel_rfl) ⟨rfl, .inl ⟨rfl, Quiet.norm (q_move rfl)⟩⟩ rfl (fun hcl => ?_)
    refine xq (r := some _) [17] 11 hcl rfl (by kernel_rfl) (by kernel_rfl) ⟨rfl, .inl ⟨rfl, Quiet.norm (q_idx_pl rfl rfl (idx_inv x29_h).1 (idx_inv x29_h).2.2.2)⟩⟩ rfl (fun hcl => ?_)
    refine xq (r := some _) [17] 12 hcl rfl (by kernel_rfl) (by kernel_rfl) ⟨rfl, .inl ⟨rfl, Quiet.norm (q_load_el0p (E := vi) (fun _ => rfl) rfl rfl (idx_inv x29_h).2.1)⟩⟩ rfl (fun hcl => ?_)
    refine xq (r := some _) [17] 13 hcl rfl (by kernel_rfl) (by kernel_rfl) ⟨rfl, .inl ⟨rfl, Quiet.norm (q_move rfl)⟩⟩ rfl (fun hcl => ?_)
    refine xq (r := some _) [17] 14 hcl rfl (by kernel_rfl) (by kernel_rfl) ⟨rfl, .inl ⟨rfl, Quiet.norm (q_idx_pl rfl rfl (idx_inv x30_h).1 (idx_inv x30_h).2.2.2)⟩⟩ rfl (fun hcl => ?_)
    refine xq (r := some _) [17] 15 hcl rfl (by kernel_rfl) (by kernel_rfl) ⟨rfl, .inl ⟨rfl, Quiet.norm (q_load_el0p (E := vi) (fun _ => rfl) rfl rfl (idx_inv x30_h).2.1)⟩⟩ rfl (fun hcl => ?_)
    refine xq (r := some _) [17] 16 hcl rfl (by kernel_rfl) (by kernel_rfl) ⟨rfl, .inl ⟨rfl, Quiet.norm (q_build rfl (.v rfl rfl rfl rfl rfl (.v rfl rfl rfl rfl rfl (.v rfl rfl rfl rfl rfl (.v rfl rfl rfl rfl rfl (.v rfl rfl rfl rfl rfl (.v rfl rfl rfl rfl rfl .nil)))))))⟩⟩ rfl (fun hcl => ?_)
    refine xb hcl (l := [17]) (by kernel_rfl) (by simp) (fun i hi hcl => ?_)
    obtain rfl : i = 17 := by simpa using hi
    refine xe rfl (x_alloc 17 0 rfl rfl rfl) ?_; rintro _ ⟨b32, rfl⟩
    refine xb hcl (l := [18]) (by kernel_rfl) (by simp) (fun i hi hcl => ?_)
    obtain rfl : i = 18 := by simpa using hi
    refine xe rfl (x_store rfl rfl rfl rfl rfl (Nat.le_of_ble_eq_true rfl) rfl rfl) ?_; rintro _ rfl
    refine xn (by kernel_rfl) ?_
    refine ev_seq ?_
    refine ev_seq ?_
    refine ev_region ?_
    refine rq rfl rfl (q_loadN rfl rfl rfl rfl) ?_
    obtain ⟨x33, x33_h, H⟩ := bd_inv H
    refine rq rfl rfl (q_call rfl (.v _ _ (fun e => nomatch e)) (.v rfl ArgsOk.nil) inferInstance (backflushref18_Right_c  x33_h)) ?_
    refine rq rfl rfl (q_not rfl) ?_
    refine run_nil ?_
    refine ev_cond rfl (fun hc => ?_) (fun hc => ?_)
    · replace H := ct hc H
      refine ev_seq ?_
      refine ev_region ?_
      refine rq rfl rfl (q_build rfl .nil) ?_
      refine rq rfl rfl (q_move rfl) ?_
      refine re rfl (e_store rfl rfl rfl rfl rfl (Nat.le_of_ble_eq_true rfl) rfl) ?_; rintro _ rfl
      refine rq rfl rfl (q_assign rfl) ?_
      refine rq rfl rfl (q_assign rfl) ?_
      refine run_nil ?_
      refine ev_ret ?_
      exact ret_ok [GLot.e (⟨0, 0, 0, 0, 0, 0⟩ : GLot), V.l 5 (List.map GRead.e s5.2), vb false] (congrArg (fun r : GLot × (List GRead) × Bool => V.t [GLot.e r.1, V.l 5 (List.map GRead.e r.2.1), vb r.2.2]) (Option.some.inj H)) rfl (.cons (.cellN (z := 6) rfl rfl rfl rfl rfl rfl (.v _ _ (fun _ => rfl))) (.cons (.tmp rfl (.all rfl (List.length_map _) (els_plain fun _ => ⟨rfl, rfl⟩) (fun _ => rfl))) (.cons (.tmp rfl (.v _ _ (fun _ => rfl))) .nil)))
    · replace H := cf hc H
      refine ev_skip ?_
      refine ev_seq ?_
      refine ev_region ?_
      refine rq rfl rfl (q_loadN rfl rfl rfl rfl) ?_
      refine rq rfl rfl (q_move rfl) ?_
      refine re rfl (e_store rfl rfl rfl rfl rfl (Nat.le_of_ble_eq_true rfl) rfl) ?_; rintro _ rfl
      refine rq rfl rfl (q_assign rfl) ?_
      refine rq rfl rfl (q_assign rfl) ?_
      refine run_nil ?_
      refine ev_ret ?_
      exact ret_ok [GLot.e (⟨a1, x26, x27, x28, x29, x30⟩ : GLot), V.l 5 (List.map GRead.e s5.2), vb true] (congrArg (fun r : GLot × (List GRead) × Bool => V.t [GLot.e r.1, V.l 5 (List.map GRead.e r.2.1), vb r.2.2]) (Option.some.inj H)) rfl (.cons (.cellN (z := 6) rfl rfl rfl rfl rfl rfl (.v _ _ (fun _ => rfl))) (.cons (.tmp rfl (.all rfl (List.length_map _) (els_plain fun _ => ⟨rfl, rfl⟩) (fun _ => rfl))) (.cons (.tmp rfl (.v _ _ (fun _ => rfl))) .nil)))
def backflushref18_Lot_m (a0 : GWorld) (a1 : Int) (a2 : Int) (a3 : Int) : Option (GLot × (List GRead) × Bool) := bd (backflushref18_Day_m a2) fun x3 => bif !x3 then (some ((⟨0, 0, 0, 0, 0, 0⟩ : GLot), [], false)) else (bd (backflushref18_head_m) fun x4 => bdc (!(decide (a1 < 0))) (backflushref18_many_m a0 a2 a3) fun x6 => bif bif decide (a1 < 0) then true else decide (x6 ≤ a1) then (some ((⟨0, 0, 0, 0, 0, 0⟩ : GLot), ([(⟨x4, a2, wr (a2 + 1)⟩ : GRead)] : List GRead), false)) else (bd (backflushref18_lot_m a0 a1 a2 a3) fun x7 => gd (decide ((([(⟨x4, a2, wr (a2 + 1)⟩ : GRead)] : List GRead).length + x7.2.1.length) * 41 ≤ 140737488355328)) <| some (x7.1, ([(⟨x4, a2, wr (a2 + 1)⟩ : GRead)] : List GRead) ++ x7.2.1, x7.2.2)))
theorem backflushref18_Lot_c {a0 : GWorld} {a1 : Int} {a2 : Int} {a3 : Int} {r : GLot × (List GRead) × Bool} (H : backflushref18_Lot_m a0 a1 a2 a3 = some r) : PureC Try.prog true 32 [GWorld.e a0, vi a1, vi a2, vi a3] (V.t [GLot.e r.1, V.l 5 (List.map GRead.e r.2.1), vb r.2.2]) := by
  unfold backflushref18_Lot_m at H
  refine pure_intro (N := 51) Try.func32 rfl rfl rfl rfl fun C hO => ?_
  refine ev_shift (shift_mk (fs := [(0, .v false (GWorld.e a0)), (1, .v true (vi a1)), (2, .v true (vi a2)), (3, .v true (vi a3))]) (es := []) ⟨⟨_, rfl, .rfl⟩, ⟨⟨_, rfl, (.flat rfl)⟩, ⟨⟨_, rfl, (.flat rfl)⟩, ⟨⟨_, rfl, (.flat rfl)⟩, trivial⟩⟩⟩⟩ trivial rfl rfl) ?_
  refine ev_seq ?_
  refine ev_region ?_
  refine re rfl (e_box 4 0 rfl rfl rfl) ?_; rintro _ ⟨b1, rfl⟩
  refine re rfl (e_alloc 8 0 rfl rfl) ?_; rintro _ ⟨b2, rfl⟩
  refine rq rfl rfl (q_assign rfl) ?_
  refine rq rfl rfl (q_assign rfl) ?_
  refine run_nil ?_
  refine ev_seq ?_
  refine ev_seq ?_
  refine ev_region ?_
  refine rq rfl rfl (q_move rfl) ?_
  obtain ⟨x3, x3_h, H⟩ := bd_inv H
  refine rq rfl rfl (q_call rfl (.v _ _ (fun e => nomatch e)) (.v rfl ArgsOk.nil) inferInstance (backflushref18_Day_c  x3_h)) ?_
  refine rq rfl rfl (q_not rfl) ?_
  refine run_nil ?_
  refine ev_cond rfl (fun hc => ?_) (fun hc => ?_)
  · replace H := ct hc H
    refine ev_seq ?_
    refine ev_region ?_
    refine rq rfl rfl (q_build rfl .nil) ?_
    refine re rfl (e_store rfl rfl rfl rfl rfl (Nat.le_of_ble_eq_true rfl) rfl) ?_; rintro _ rfl
    refine rq rfl rfl (q_assign rfl) ?_
    refine rq rfl rfl (q_assign rfl) ?_
    refine run_nil ?_
    refine ev_ret ?_
    exact ret_ok [GLot.e (⟨0, 0, 0, 0, 0, 0⟩ : GLot), V.l 5 (List.map GRead.e []), vb false] (congrArg (fun r : GLot × (List GRead) × Bool => V.t [GLot.e r.1, V.l 5 (List.map GRead.e r.2.1), vb r.2.2]) (Option.some.inj H)) rfl (.cons (.cellN (z := 6) rfl rfl rfl rfl rfl rfl (.v _ _ (fun _ => rfl))) (.cons (.tmp rfl (.nil _ _)) (.cons (.tmp rfl (.v _ _ (fun _ => rfl))) .nil)))
  · replace H := cf hc H
    refine ev_skip ?_
    refine ev_seq ?_
    refine ev_region ?_
    obtain ⟨x4, x4_h, H⟩ := bd_inv H
    refine rq rfl rfl (q_call rfl (.v _ _ (fun e => nomatch e)) ArgsOk.nil inferInstance (backflushref18_head_c  x4_h)) ?_
    refine rq rfl rfl (q_move rfl) ?_
    refine rq rfl rfl (q_move rfl) ?_
    refine rq rfl rfl (q_add rfl rfl) ?_
    refine rq rfl rfl (q_build rfl (.v rfl rfl rfl rfl rfl (.v rfl rfl rfl rfl rfl (.v rfl rfl rfl rfl rfl .nil)))) ?_
    refine re rfl (e_buildSlice 24 0 rfl rfl rfl rfl) ?_; rintro _ ⟨b5, rfl⟩
    refine rq rfl rfl (q_assign rfl) ?_
    refine run_nil ?_
    refine ev_seq ?_
    refine ev_seq ?_
    refine ev_region ?_
    refine rq rfl rfl (q_move rfl) ?_
    refine rq rfl rfl (q_lss rfl rfl) ?_
    refine rq rfl rfl (q_move rfl) ?_
    refine rqc (l := []) ⟨⟨_, _, _, rfl, rfl, rfl, rfl⟩, rfl, fun hc => q_move rfl, trivial⟩ rfl ?_
    refine rqc (l := []) ⟨⟨_, _, _, rfl, rfl, rfl, rfl⟩, rfl, fun hc => q_loadN rfl rfl rfl rfl, trivial⟩ rfl ?_
    refine rqc (l := []) ⟨⟨_, _, _, rfl, rfl, rfl, rfl⟩, rfl, fun hc => q_move rfl, trivial⟩ rfl ?_
    refine rqc (l := []) ⟨⟨_, _, _, rfl, rfl, rfl, rfl⟩, rfl, fun hc => q_move rfl, trivial⟩ rfl ?_
    obtain ⟨x6, x6_h, _, H⟩ := bdc_inv H
    refine rqc (l := [29, 30, 31]) ⟨⟨_, _, _, rfl, rfl, rfl, rfl⟩, rfl, fun hc => q_call rfl (.v _ _ (fun e => nomatch e)) (.v rfl (.v rfl (.v rfl ArgsOk.nil))) inferInstance (backflushref18_many_c  (x6_h hc)), ⟨fun h => h, ⟨fun h => h, ⟨fun h => h, trivial⟩⟩⟩⟩ rfl ?_
    refine rqc (l := [28, 32]) ⟨⟨_, _, _, rfl, rfl, rfl, rfl⟩, rfl, fun hc => q_geq rfl rfl, ⟨fun h => h, ⟨fun h => h, trivial⟩⟩⟩ rfl ?_
    refine rq rfl rfl (q_pickb rfl rfl rfl PB.v (PB.c (fun hp => by rw [hp]; rfl))) ?_
    refine run_nil ?_
    refine ev_cond rfl (fun hc => ?_) (fun hc => ?_)
    · replace H := ct hc H
      refine ev_seq ?_
      refine ev_region ?_
      refine rq rfl rfl (q_build rfl .nil) ?_
      refine rq rfl rfl (q_move rfl) ?_
      refine re rfl (e_store rfl rfl rfl rfl rfl (Nat.le_of_ble_eq_true rfl) rfl) ?_; rintro _ rfl
      refine rq rfl rfl (q_assign rfl) ?_
      refine rq rfl rfl (q_assign rfl) ?_
      refine run_nil ?_
      refine ev_ret ?_
      exact ret_ok [GLot.e (⟨0, 0, 0, 0, 0, 0⟩ : GLot), V.l 5 (List.map GRead.e ([(⟨x4, a2, wr (a2 + 1)⟩ : GRead)] : List GRead)), vb false] (congrArg (fun r : GLot × (List GRead) × Bool => V.t [GLot.e r.1, V.l 5 (List.map GRead.e r.2.1), vb r.2.2]) (Option.some.inj H)) rfl (.cons (.cellN (z := 6) rfl rfl rfl rfl rfl rfl (.v _ _ (fun _ => rfl))) (.cons (.tmp rfl (.all rfl (List.length_map _) (els_plain fun _ => ⟨rfl, rfl⟩) (fun _ => rfl))) (.cons (.tmp rfl (.v _ _ (fun _ => rfl))) .nil)))
    · replace H := cf hc H
      refine ev_skip ?_
      refine ev_seq ?_
      refine ev_region ?_
      refine rq rfl rfl (q_loadN rfl rfl rfl rfl) ?_
      refine rq rfl rfl (q_move rfl) ?_
      refine rq rfl rfl (q_move rfl) ?_
      refine rq rfl rfl (q_move rfl) ?_
      obtain ⟨x7, x7_h, H⟩ := bd_inv H
      refine rq rfl rfl (q_call rfl (.v _ _ (fun e => nomatch e)) (.v rfl (.v rfl (.v rfl (.v rfl ArgsOk.nil)))) inferInstance (backflushref18_lot_c  x7_h)) ?_
      refine rq rfl rfl (q_move rfl) ?_
      refine rq rfl rfl (q_extract rfl rfl) ?_
      refine rq rfl rfl (q_extract rfl rfl) ?_
      refine rq rfl rfl (q_extract rfl rfl) ?_
      refine re rfl (e_alloc 12 0 rfl rfl) ?_; rintro _ ⟨b8, rfl⟩
      refine re rfl (e_store rfl rfl rfl rfl rfl (Nat.le_of_ble_eq_true rfl) rfl) ?_; rintro _ rfl
      refine rq rfl rfl (q_assign rfl) ?_
      refine rq rfl rfl (q_assign rfl) ?_
      refine run_nil ?_
      refine ev_seq ?_
      obtain ⟨w9, H⟩ := gdd_inv H
      refine ev_drawX (fun i => (assocN [(3, [24]), (5, [8])] i).getD []) rfl ?_
      refine xq (r := some _) [24] 0 (.start _) rfl (by kernel_rfl) (by kernel_rfl) ⟨rfl, .inl ⟨rfl, Quiet.norm (q_loadN rfl rfl rfl rfl)⟩⟩ rfl (fun hcl => ?_)
      refine xq (r := some _) [] 1 hcl rfl (by kernel_rfl) (by kernel_rfl) ⟨rfl, .inl ⟨rfl, Quiet.norm (q_move rfl)⟩⟩ rfl (fun hcl => ?_)
      refine xq (r := some _) [] 2 hcl rfl (by kernel_rfl) (by kernel_rfl) ⟨rfl, .inl ⟨rfl, Quiet.norm (q_move rfl)⟩⟩ rfl (fun hcl => ?_)
      refine xq (r := some _) [24, 8] 4 hcl rfl (by kernel_rfl) (by kernel_rfl) ⟨rfl, .inl ⟨rfl, Quiet.norm (q_move rfl)⟩⟩ rfl (fun hcl => ?_)
      refine xb hcl (l := [3]) (by kernel_rfl) (by simp) (fun i hi hcl => ?_)
      obtain rfl : i = 3 := by simpa using hi
      refine xe rfl (x_appt rfl rfl rfl (fun _ => ⟨rfl, rfl⟩) rfl rfl rfl w9 rfl rfl) ?_; rintro _ ⟨q11, rfl⟩
      refine xb hcl (l := [5]) (by kernel_rfl) (by simp) (fun i hi hcl => ?_)
      obtain rfl : i = 5 := by simpa using hi
      refine xe rfl (x_store rfl rfl rfl rfl rfl (Nat.le_of_ble_eq_true rfl) rfl rfl) ?_; rintro _ rfl
      refine xq (r := some _) [] 6 hcl rfl (by kernel_rfl) (by kernel_rfl) ⟨rfl, .inl ⟨rfl, Quiet.norm (q_assign rfl)⟩⟩ rfl (fun hcl => ?_)
      refine xq (r := some _) [] 7 hcl rfl (by kernel_rfl) (by kernel_rfl) ⟨rfl, .inl ⟨rfl, Quiet.norm (q_assign rfl)⟩⟩ rfl (fun hcl => ?_)
      refine xn (by kernel_rfl) ?_
      refine ev_ret ?_
      exact ret_ok [GLot.e x7.1, V.l 5 (List.map GRead.e (([(⟨x4, a2, wr (a2 + 1)⟩ : GRead)] : List GRead) ++ x7.2.1)), vb x7.2.2] (congrArg (fun r : GLot × (List GRead) × Bool => V.t [GLot.e r.1, V.l 5 (List.map GRead.e r.2.1), vb r.2.2]) (Option.some.inj H)) rfl (.cons (.cellN (z := 6) rfl rfl rfl rfl rfl rfl (.v _ _ (fun _ => rfl))) (.cons (.tmp rfl (.all rfl (List.length_map _) (els_plain fun _ => ⟨rfl, rfl⟩) (fun _ => rfl))) (.cons (.tmp rfl (.v _ _ (fun _ => rfl))) .nil)))
def backflushref40_Certify_m (a0 : GWorld) (a1 : Int) (a2 : Int) (a3 : Int) (a4 : List GSpec) : Option (GCertificate × (List GRead) × Int) := bd (backflushref40_specs_m a4) fun x3 => bif !x3 then (some ((⟨0, [], false⟩ : GCertificate), [], 400)) else (bd (backflushref18_Lot_m a0 a1 a2 a3) fun x4 => bif !x4.2.2 then (some ((⟨0, [], false⟩ : GCertificate), [], 400)) else (forL a4 (fun (k9 : Nat) (x15 : GSpec) (s7 : (List GRead) × Bool × (List GPoint)) loop8 => bd (backflushref40_Result_m a0 a1 x15.test a2 a3) fun x18 => gd (decide ((([] : List GRead).length + s7.1.length) * 41 ≤ 140737488355328)) <| gd (decide (((([] : List GRead) ++ s7.1).length + x18.2.1.length) * 41 ≤ 140737488355328)) <| jn (fun (p25 : List GPoint) => loop8 ((([] : List GRead) ++ s7.1) ++ x18.2.1, bif bif bif s7.2.1 then x18.2.2 else false then decide (x15.lo ≤ x18.1) else false then decide (x18.1 ≤ x15.hi) else false, p25)) fun j24 => bif x18.2.2 then (gd (decide ((s7.2.2.length + ([(⟨x15.test, x18.1⟩ : GPoint)] : List GPoint).length) * 17 ≤ 140737488355328)) <| j24 (s7.2.2 ++ ([(⟨x15.test, x18.1⟩ : GPoint)] : List GPoint))) else (j24 s7.2.2)) (fun (s7 : (List GRead) × Bool × (List GPoint)) => some ((⟨a1, s7.2.2, s7.2.1⟩ : GCertificate), s7.1, 0)) (x4.2.1, true, ([] : List GPoint))))
theorem backflushref40_Certify_c {a0 : GWorld} {a1 : Int} {a2 : Int} {a3 : Int} {a4 : List GSpec} {r : GCertificate × (List GRead) × Int} (H : backflushref40_Certify_m a0 a1 a2 a3 a4 = some r) : PureC Try.prog true 20 [GWorld.e a0, vi a1, vi a2, vi a3, V.l 3 (List.map GSpec.e a4)] (V.t [GCertificate.e r.1, V.l 5 (List.map GRead.e r.2.1), vi r.2.2]) := by
  unfold backflushref40_Certify_m at H
  refine pure_intro (N := 103) Try.func20 rfl rfl rfl rfl fun C hO => ?_
  refine ev_shift (shift_mk (fs := [(0, .v false (GWorld.e a0)), (1, .v true (vi a1)), (2, .v true (vi a2)), (3, .v true (vi a3)), (4, .v false (V.l 3 (List.map GSpec.e a4)))]) (es := []) ⟨⟨_, rfl, .rfl⟩, ⟨⟨_, rfl, (.flat rfl)⟩, ⟨⟨_, rfl, (.flat rfl)⟩, ⟨⟨_, rfl, (.flat rfl)⟩, ⟨⟨_, rfl, .rfl⟩, trivial⟩⟩⟩⟩⟩ trivial rfl rfl) ?_
  refine ev_seq ?_
  refine ev_region ?_
  refine re rfl (e_box 5 0 rfl rfl rfl) ?_; rintro _ ⟨b1, rfl⟩
  refine re rfl (e_alloc 10 0 rfl rfl) ?_; rintro _ ⟨b2, rfl⟩
  refine rq rfl rfl (q_assign rfl) ?_
  refine rq rfl rfl (q_assign rfl) ?_
  refine run_nil ?_
  refine ev_seq ?_
  refine ev_seq ?_
  refine ev_region ?_
  refine rq rfl rfl (q_move rfl) ?_
  obtain ⟨x3, x3_h, H⟩ := bd_inv H
  refine rq rfl rfl (q_call rfl (.v _ _ (fun e => nomatch e)) (.v rfl ArgsOk.nil) inferInstance (backflushref40_specs_c  x3_h)) ?_
  refine rq rfl rfl (q_not rfl) ?_
  refine run_nil ?_
  refine ev_cond rfl (fun hc => ?_) (fun hc => ?_)
  · replace H := ct hc H
    refine ev_seq ?_
    refine ev_region ?_
    refine rq rfl rfl (q_build rfl .nil) ?_
    refine re rfl (e_store rfl rfl rfl rfl rfl (Nat.le_of_ble_eq_true rfl) rfl) ?_; rintro _ rfl
    refine rq rfl rfl (q_assign rfl) ?_
    refine rq rfl rfl (q_assign rfl) ?_
    refine run_nil ?_
    refine ev_ret ?_
    exact ret_ok [GCertificate.e (⟨0, [], false⟩ : GCertificate), V.l 5 (List.map GRead.e []), vi 400] (congrArg (fun r : GCertificate × (List GRead) × Int => V.t [GCertificate.e r.1, V.l 5 (List.map GRead.e r.2.1), vi r.2.2]) (Option.some.inj H)) rfl (.cons (.cellNw (z := 3) (d := .v true (GCertificate.e (⟨0, [], false⟩ : GCertificate))) rfl rfl rfl rfl rfl rfl (Wk.nilLe (NilLe.st (by repeat (first | exact NilLes.nil | refine NilLes.cons (.refl _) ?_ | refine NilLes.cons (.nil _) ?_)))) (.v _ _ (fun _ => rfl))) (.cons (.tmp rfl (.nil _ _)) (.cons (.tmp rfl (.v _ _ (fun _ => rfl))) .nil)))
  · replace H := cf hc H
    refine ev_skip ?_
    refine ev_seq ?_
    refine ev_region ?_
    refine rq rfl rfl (q_loadN rfl rfl rfl rfl) ?_
    refine rq rfl rfl (q_move rfl) ?_
    refine rq rfl rfl (q_move rfl) ?_
    refine rq rfl rfl (q_move rfl) ?_
    obtain ⟨x4, x4_h, H⟩ := bd_inv H
    refine rq rfl rfl (q_call rfl (.v _ _ (fun e => nomatch e)) (.v rfl (.v rfl (.v rfl (.v rfl ArgsOk.nil)))) inferInstance (backflushref18_Lot_c  x4_h)) ?_
    refine rq rfl rfl (q_move rfl) ?_
    refine rq rfl rfl (q_extract rfl rfl) ?_
    refine rq rfl rfl (q_extract rfl rfl) ?_
    refine rq rfl rfl (q_extract rfl rfl) ?_
    refine re rfl (e_alloc 13 0 rfl rfl) ?_; rintro _ ⟨b5, rfl⟩
    refine re rfl (e_store rfl rfl rfl rfl rfl (Nat.le_of_ble_eq_true rfl) rfl) ?_; rintro _ rfl
    refine rq rfl rfl (q_assign rfl) ?_
    refine rq rfl rfl (q_assign rfl) ?_
    refine run_nil ?_
    refine ev_seq ?_
    refine ev_seq ?_
    refine ev_region ?_
    refine rq rfl rfl (q_move rfl) ?_
    refine rq rfl rfl (q_not rfl) ?_
    refine run_nil ?_
    refine ev_cond rfl (fun hc => ?_) (fun hc => ?_)
    · replace H := ct hc H
      refine ev_seq ?_
      refine ev_region ?_
      refine rq rfl rfl (q_build rfl .nil) ?_
      refine re rfl (e_store rfl rfl rfl rfl rfl (Nat.le_of_ble_eq_true rfl) rfl) ?_; rintro _ rfl
      refine rq rfl rfl (q_assign rfl) ?_
      refine rq rfl rfl (q_assign rfl) ?_
      refine run_nil ?_
      refine ev_ret ?_
      exact ret_ok [GCertificate.e (⟨0, [], false⟩ : GCertificate), V.l 5 (List.map GRead.e []), vi 400] (congrArg (fun r : GCertificate × (List GRead) × Int => V.t [GCertificate.e r.1, V.l 5 (List.map GRead.e r.2.1), vi r.2.2]) (Option.some.inj H)) rfl (.cons (.cellNw (z := 3) (d := .v true (GCertificate.e (⟨0, [], false⟩ : GCertificate))) rfl rfl rfl rfl rfl rfl (Wk.nilLe (NilLe.st (by repeat (first | exact NilLes.nil | refine NilLes.cons (.refl _) ?_ | refine NilLes.cons (.nil _) ?_)))) (.v _ _ (fun _ => rfl))) (.cons (.tmp rfl (.nil _ _)) (.cons (.tmp rfl (.v _ _ (fun _ => rfl))) .nil)))
    · replace H := cf hc H
      refine ev_skip ?_
      refine ev_seq ?_
      refine ev_region ?_
      refine rq rfl rfl (q_move rfl) ?_
      refine rq rfl rfl (q_build rfl (.v rfl rfl rfl rfl rfl (.v rfl rfl rfl rfl rfl .nil))) ?_
      refine re rfl (e_alloc 16 0 rfl rfl) ?_; rintro _ ⟨b6, rfl⟩
      refine re rfl (e_store rfl rfl rfl rfl rfl (Nat.le_of_ble_eq_true rfl) rfl) ?_; rintro _ rfl
      refine run_nil ?_
      refine ev_seq ?_
      refine ev_seq ?_
      refine ev_region ?_
      refine rq rfl rfl (q_assign rfl) ?_
      refine run_nil ?_
      refine ev_block ?_
      refine ev_len_l (s := 4) rfl fun w17 => ?_
      rw [List.length_map] at w17
      refine ev_forL H (fun k9 s7 σ' => ∃ (q14 : Pl), σ' = mkS [(1, .v true (vi a1)), (2, .v true (vi a2)), (3, .v true (vi a3)), (4, .v false (V.l 3 (List.map GSpec.e a4))), (5, .p 5 0 b1 0), (10, .p 10 0 b2 0), (11, .v true (.raw (.slice none 0 0))), (12, .v true (vi 0)), (14, .v true (V.l 5 (List.map GRead.e s7.1))), (16, .p 16 0 b6 0), (17, .v true (vi ((k9 : Nat) : Int)))] [.e 5 0 (some (b1, 11)) (.row 38 [.v false (V.l 8 (List.map GUnit.e a0.tables.source.units)), .v false (V.l 6 (List.map GItem.e a0.tables.source.items)), .v false (V.l 1 (List.map V.s a0.tables.source.plants)), .v false (V.l 4 (List.map GMachine.e a0.tables.source.machines)), .v false (V.l 2 (List.map GOption.e a0.tables.source.options)), .v false (V.l 1 (List.map (fun l => V.l 4 (List.map GCond.e l)) a0.tables.source.forbids)), .v false (V.l 17 (List.map GRecipe.e a0.tables.source.recipes)), .v false (V.l 4 (List.map GSwap.e a0.tables.source.swaps)), .v false (V.l 1 (List.map vi a0.tables.levels)), .v false (V.l 1 (List.map (fun l => V.l 6 (List.map GInst.e l)) a0.tables.codes)), .v false (V.l 8 (List.map GFact.e a0.facts))]), .e 10 0 (some (b2, 3)) (.row 47 [.v true (vi 0), .v true (.raw (.slice none 0 0)), .v true (vb false)]), .e 16 0 (some (b6, 3)) (.row 47 [.v true (vi a1), .o 75 0 q14 2 0 s7.2.2.length, .v true (vb s7.2.1)]), .e 75 0 q14 (.row 72 (els true (List.map GPoint.e s7.2.2)))] [] (0, false)) ⟨_, ⟨none, rfl⟩, shift_mk ⟨⟨_, rfl, (.flat rfl)⟩, ⟨⟨_, rfl, (.flat rfl)⟩, ⟨⟨_, rfl, (.flat rfl)⟩, ⟨⟨_, rfl, .rfl⟩, ⟨⟨_, rfl, .rfl⟩, ⟨⟨_, rfl, .rfl⟩, ⟨⟨_, rfl, .rfl⟩, ⟨⟨_, rfl, (.flat rfl)⟩, ⟨⟨_, rfl, .rfl⟩, ⟨⟨_, rfl, .rfl⟩, ⟨⟨_, rfl, .rfl⟩, trivial⟩⟩⟩⟩⟩⟩⟩⟩⟩⟩⟩ ⟨(.e rfl), ⟨(.w rfl (.cons (.flat rfl) (.cons .rfl (.cons (.flat rfl) .nil)))), ⟨(.w rfl (.cons (.flat rfl) (.cons .nilo (.cons (.flat rfl) .nil)))), ⟨(.nn rfl), trivial⟩⟩⟩⟩ rfl rfl⟩ ?_
      rintro k9 s7 _ ⟨q14, rfl⟩ _ H
      refine ev_seq ?_
      refine ev_seq ?_
      refine ev_region ?_
      refine rq rfl rfl (q_move rfl) ?_
      refine rq rfl rfl (q_move rfl) ?_
      refine rq rfl rfl (q_len_t rfl) ?_
      refine rq rfl rfl (q_lss rfl rfl) ?_
      refine run_nil ?_
      refine ev_cond rfl (fun hc => ?_) (fun hc => ?_)
      · obtain ⟨x15, w16, x15_g, H⟩ := forL_in hc H
        have x15_h : idx a4 ((k9 : Nat) : Int) = some x15 := by rw [idx_nat]; exact x15_g
        refine ev_skip ?_
        refine ev_seq ?_
        refine ev_block ?_
        refine ev_seq ?_
        obtain ⟨x18, x18_h, H⟩ := bd_inv H
        refine ev_draw rfl (by kernel_rfl) ?_
        refine qq rfl rfl (q_loadN rfl rfl rfl rfl) ?_
        refine qq rfl rfl (q_move rfl) ?_
        refine qq rfl rfl (q_move rfl) ?_
        refine qq rfl rfl (q_move rfl) ?_
        refine qq rfl rfl (q_idx_l rfl rfl (idx_inv x15_h).1 (map_get (idx_inv x15_h).2.1) rfl) ?_
        refine qq rfl rfl (q_fld_q rfl) ?_
        refine qq rfl rfl (q_load1_q rfl) ?_
        refine qq rfl rfl (q_move rfl) ?_
        refine qq rfl rfl (q_move rfl) ?_
        refine qq rfl rfl (q_call rfl (.v _ _ (fun e => nomatch e)) (.v rfl (.v rfl (.v rfl (.v rfl (.v rfl ArgsOk.nil))))) inferInstance (backflushref40_Result_c  x18_h)) ?_
        refine qq rfl rfl (q_move rfl) ?_
        refine qq rfl rfl (q_extract rfl rfl) ?_
        refine qq rfl rfl (q_extract rfl rfl) ?_
        refine qq rfl rfl (q_extract rfl rfl) ?_
        refine qq rfl rfl (q_assign rfl) ?_
        refine qq rfl rfl (q_assign rfl) ?_
        refine qq rfl rfl (q_assign rfl) ?_
        refine qn ?_
        refine ev_seq ?_
        refine ev_region ?_
        refine re rfl (e_buildSlice 59 0 rfl rfl rfl rfl) ?_; rintro _ ⟨b19, rfl⟩
        refine rq rfl rfl (q_move rfl) ?_
        obtain ⟨w20, H⟩ := gdd_inv H
        refine re rfl (e_appt rfl rfl rfl (fun _ => ⟨rfl, rfl⟩) rfl rfl rfl w20 rfl) ?_; rintro _ ⟨q21, rfl⟩
        refine rq rfl rfl (q_move rfl) ?_
        obtain ⟨w22, H⟩ := gdd_inv H
        refine re rfl (e_appt rfl rfl rfl (fun _ => ⟨rfl, rfl⟩) rfl rfl rfl w22 rfl) ?_; rintro _ ⟨q23, rfl⟩
        refine rq rfl rfl (q_assign rfl) ?_
        refine run_nil ?_
        obtain ⟨j24, j24_e, H⟩ := jn_inv H
        refine ev_join (fun σ' => ∃ (p25 : List GPoint) (q26 : Pl), j24 p25 = some r ∧ σ' = mkS [(1, .v true (vi a1)), (2, .v true (vi a2)), (3, .v true (vi a3)), (4, .v false (V.l 3 (List.map GSpec.e a4))), (5, .p 5 0 b1 0), (10, .p 10 0 b2 0), (11, .v true (.raw (.slice none 0 0))), (12, .v true (vi 0)), (14, .o 59 0 q23 5 0 (((([] : List GRead) ++ s7.1) ++ x18.2.1).length)), (16, .p 16 0 b6 0), (17, .v true (vi ((k9 : Nat) : Int))), (18, .v true (vi x18.1)), (20, .v true (vb x18.2.2))] [.e 5 0 (some (b1, 11)) (.row 38 [.v false (V.l 8 (List.map GUnit.e a0.tables.source.units)), .v false (V.l 6 (List.map GItem.e a0.tables.source.items)), .v false (V.l 1 (List.map V.s a0.tables.source.plants)), .v false (V.l 4 (List.map GMachine.e a0.tables.source.machines)), .v false (V.l 2 (List.map GOption.e a0.tables.source.options)), .v false (V.l 1 (List.map (fun l => V.l 4 (List.map GCond.e l)) a0.tables.source.forbids)), .v false (V.l 17 (List.map GRecipe.e a0.tables.source.recipes)), .v false (V.l 4 (List.map GSwap.e a0.tables.source.swaps)), .v false (V.l 1 (List.map vi a0.tables.levels)), .v false (V.l 1 (List.map (fun l => V.l 6 (List.map GInst.e l)) a0.tables.codes)), .v false (V.l 8 (List.map GFact.e a0.facts))]), .e 10 0 (some (b2, 3)) (.row 47 [.v true (vi 0), .v true (.raw (.slice none 0 0)), .v true (vb false)]), .e 59 0 q23 (.row 100 (els true (List.map GRead.e ((([] : List GRead) ++ s7.1) ++ x18.2.1)))), .e 16 0 (some (b6, 3)) (.row 47 [.v true (vi a1), .o 75 0 q26 2 0 p25.length, .v true (vb s7.2.1)]), .e 75 0 q26 (.row 72 (els true (List.map GPoint.e p25)))] [] (0, false)) ?_ ?_
        · rintro _ ⟨p25, q26, H, rfl⟩
          subst j24_e
          refine ev_region ?_
          refine rq rfl rfl (q_fld_p rfl) ?_
          refine rq rfl rfl (q_load1 rfl rfl rfl) ?_
          refine rq rfl rfl (q_move rfl) ?_
          refine rqc (l := []) ⟨⟨_, _, _, rfl, rfl, rfl, rfl⟩, rfl, fun hc => q_move rfl, trivial⟩ rfl ?_
          refine rq rfl rfl (q_pickb rfl rfl rfl (PB.c (fun hp => hp)) PB.v) ?_
          refine rq rfl rfl (q_move rfl) ?_
          refine rqc (l := []) ⟨⟨_, _, _, rfl, rfl, rfl, rfl⟩, rfl, fun hc => q_move rfl, trivial⟩ rfl ?_
          refine rqc (l := []) ⟨⟨_, _, _, rfl, rfl, rfl, rfl⟩, rfl, fun hc => q_move rfl, trivial⟩ rfl ?_
          refine rqc (l := []) ⟨⟨_, _, _, rfl, rfl, rfl, rfl⟩, rfl, fun hc => q_move rfl, trivial⟩ rfl ?_
          refine rqc (l := [84, 85]) ⟨⟨_, _, _, rfl, rfl, rfl, rfl⟩, rfl, fun hc => q_idx_l rfl rfl (idx_inv x15_h).1 (map_get (idx_inv x15_h).2.1) rfl, ⟨fun h => h, ⟨fun h => h, trivial⟩⟩⟩ rfl ?_
          refine rqc (l := [86]) ⟨⟨_, _, _, rfl, rfl, rfl, rfl⟩, rfl, fun hc => q_fld_q rfl, ⟨fun h => h, trivial⟩⟩ rfl ?_
          refine rqc (l := [87]) ⟨⟨_, _, _, rfl, rfl, rfl, rfl⟩, rfl, fun hc => q_load1_q rfl, ⟨fun h => h, trivial⟩⟩ rfl ?_
          refine rqc (l := [83, 88]) ⟨⟨_, _, _, rfl, rfl, rfl, rfl⟩, rfl, fun hc => q_geq rfl rfl, ⟨fun h => h, ⟨fun h => h, trivial⟩⟩⟩ rfl ?_
          refine rq rfl rfl (q_pickb rfl rfl rfl (PB.c (fun hp => hp)) PB.v) ?_
          refine rq rfl rfl (q_move rfl) ?_
          refine rqc (l := []) ⟨⟨_, _, _, rfl, rfl, rfl, rfl⟩, rfl, fun hc => q_move rfl, trivial⟩ rfl ?_
          refine rqc (l := []) ⟨⟨_, _, _, rfl, rfl, rfl, rfl⟩, rfl, fun hc => q_move rfl, trivial⟩ rfl ?_
          refine rqc (l := []) ⟨⟨_, _, _, rfl, rfl, rfl, rfl⟩, rfl, fun hc => q_move rfl, trivial⟩ rfl ?_
          refine rqc (l := [93, 94]) ⟨⟨_, _, _, rfl, rfl, rfl, rfl⟩, rfl, fun hc => q_idx_l rfl rfl (idx_inv x15_h).1 (map_get (idx_inv x15_h).2.1) rfl, ⟨fun h => h, ⟨fun h => h, trivial⟩⟩⟩ rfl ?_
          refine rqc (l := [95]) ⟨⟨_, _, _, rfl, rfl, rfl, rfl⟩, rfl, fun hc => q_fld_q rfl, ⟨fun h => h, trivial⟩⟩ rfl ?_
          refine rqc (l := [96]) ⟨⟨_, _, _, rfl, rfl, rfl, rfl⟩, rfl, fun hc => q_load1_q rfl, ⟨fun h => h, trivial⟩⟩ rfl ?_
          refine rqc (l := [92, 97]) ⟨⟨_, _, _, rfl, rfl, rfl, rfl⟩, rfl, fun hc => q_leq rfl rfl, ⟨fun h => h, ⟨fun h => h, trivial⟩⟩⟩ rfl ?_
          refine rq rfl rfl (q_pickb rfl rfl rfl (PB.c (fun hp => hp)) PB.v) ?_
          refine rq rfl rfl (q_fld_p rfl) ?_
          refine re rfl (e_store1 rfl rfl rfl rfl rfl (Nat.le_of_ble_eq_true rfl) rfl) ?_; rintro _ rfl
          refine run_nil ?_
          refine ev_region ?_
          refine rq rfl rfl (q_move rfl) ?_
          refine rq rfl rfl (q_add rfl rfl) ?_
          refine rq rfl rfl (q_assign rfl) ?_
          refine run_nil ?_
          exact ⟨_, _, w16, H, ⟨q26, rfl⟩, Shift.trans (shift_frz 14 rfl rfl (fun _ => ⟨rfl, rfl⟩)) (shift_mk ⟨⟨_, rfl, (.flat rfl)⟩, ⟨⟨_, rfl, (.flat rfl)⟩, ⟨⟨_, rfl, (.flat rfl)⟩, ⟨⟨_, rfl, .rfl⟩, ⟨⟨_, rfl, .rfl⟩, ⟨⟨_, rfl, .rfl⟩, ⟨⟨_, rfl, .rfl⟩, ⟨⟨_, rfl, (.flat rfl)⟩, ⟨⟨_, rfl, .rfl⟩, ⟨⟨_, rfl, .rfl⟩, ⟨⟨_, rfl, (.eq (congrArg (fun n => D.v true (vi n)) (wrap_succ w16 w17)))⟩, trivial⟩⟩⟩⟩⟩⟩⟩⟩⟩⟩⟩ ⟨(.e rfl), ⟨(.w rfl (.cons (.flat rfl) (.cons .rfl (.cons (.flat rfl) .nil)))), ⟨(.w rfl (.cons (.flat rfl) (.cons .rfl (.cons (.flat rfl) .nil)))), ⟨(.e rfl), trivial⟩⟩⟩⟩ rfl rfl)⟩
        · clear j24_e
          refine ev_seq ?_
          refine ev_region ?_
          refine rq rfl rfl (q_move rfl) ?_
          refine run_nil ?_
          refine ev_cond rfl (fun hc => ?_) (fun hc => ?_)
          · replace H := ct hc H
            obtain ⟨w27, H⟩ := gdd_inv H
            refine ev_drawX (fun i => (assocN [(10, [75]), (12, [16])] i).getD []) rfl ?_
            refine xq (r := some _) [] 0 (.start _) rfl (by kernel_rfl) (by kernel_rfl) ⟨rfl, .inl ⟨rfl, Quiet.norm (q_fld_p rfl)⟩⟩ rfl (fun hcl => ?_)
            refine xq (r := some _) [] 1 hcl rfl (by kernel_rfl) (by kernel_rfl) ⟨rfl, .inl ⟨rfl, Quiet.norm (q_load1 rfl rfl rfl)⟩⟩ rfl (fun hcl => ?_)
            refine xq (r := some _) [] 2 hcl rfl (by kernel_rfl) (by kernel_rfl) ⟨rfl, .inl ⟨rfl, Quiet.norm (q_move rfl)⟩⟩ rfl (fun hcl => ?_)
            refine xq (r := some _) [] 3 hcl rfl (by kernel_rfl) (by kernel_rfl) ⟨rfl, .inl ⟨rfl, Quiet.norm (q_move rfl)⟩⟩ rfl (fun hcl => ?_)
            refine xq (r := some _) [] 4 hcl rfl (by kernel_rfl) (by kernel_rfl) ⟨rfl, .inl ⟨rfl, Quiet.norm (q_idx_l rfl rfl (idx_inv x15_h).1 (map_get (idx_inv x15_h).2.1) rfl)⟩⟩ rfl (fun hcl => ?_)
            refine xq (r := some _) [] 5 hcl rfl (by kernel_rfl) (by kernel_rfl) ⟨rfl, .inl ⟨rfl, Quiet.norm (q_fld_q rfl)⟩⟩ rfl (fun hcl => ?_)
            refine xq (r := some _) [] 6 hcl rfl (by kernel_rfl) (by kernel_rfl) ⟨rfl, .inl ⟨rfl, Quiet.norm (q_load1_q rfl)⟩⟩ rfl (fun hcl => ?_)
            refine xq (r := some _) [] 7 hcl rfl (by kernel_rfl) (by kernel_rfl) ⟨rfl, .inl ⟨rfl, Quiet.norm (q_move rfl)⟩⟩ rfl (fun hcl => ?_)
            refine xq (r := some _) [] 8 hcl rfl (by kernel_rfl) (by kernel_rfl) ⟨rfl, .inl ⟨rfl, Quiet.norm (q_build rfl (.v rfl rfl rfl rfl rfl (.v rfl rfl rfl rfl rfl .nil)))⟩⟩ rfl (fun hcl => ?_)
            refine xq (r := some _) [] 9 hcl rfl (by kernel_rfl) (by kernel_rfl) ⟨rfl, .inl ⟨rfl, Quiet.norm (q_buildSlice (z := 2) (xs := List.map GPoint.e ([(⟨x15.test, x18.1⟩ : GPoint)] : List GPoint)) (fl := true) rfl rfl rfl rfl (by simp [V.plain, V.cells, GPoint.e, vi, vb]) rfl)⟩⟩ rfl (fun hcl => ?_)
            refine xb hcl (l := [10]) (by kernel_rfl) (by simp) (fun i hi hcl => ?_)
            obtain rfl : i = 10 := by simpa using hi
            refine xe rfl (x_appt rfl rfl rfl (fun _ => ⟨rfl, rfl⟩) rfl rfl rfl w27 rfl rfl) ?_; rintro _ ⟨q29, rfl⟩
            refine xq (r := some _) [] 11 hcl rfl (by kernel_rfl) (by kernel_rfl) ⟨rfl, .inl ⟨rfl, Quiet.norm (q_fld_p rfl)⟩⟩ rfl (fun hcl => ?_)
            refine xb hcl (l := [12]) (by kernel_rfl) (by simp) (fun i hi hcl => ?_)
            obtain rfl : i = 12 := by simpa using hi
            refine xe rfl (x_store1 rfl rfl rfl rfl rfl (Nat.le_of_ble_eq_true rfl) rfl rfl) ?_; rintro _ rfl
            refine xn (by kernel_rfl) ?_
            exact ⟨_, ⟨s7.2.2 ++ ([(⟨x15.test, x18.1⟩ : GPoint)] : List GPoint), q29, H, rfl⟩, shift_mk ⟨⟨_, rfl, (.flat rfl)⟩, ⟨⟨_, rfl, (.flat rfl)⟩, ⟨⟨_, rfl, (.flat rfl)⟩, ⟨⟨_, rfl, .rfl⟩, ⟨⟨_, rfl, .rfl⟩, ⟨⟨_, rfl, .rfl⟩, ⟨⟨_, rfl, .rfl⟩, ⟨⟨_, rfl, (.flat rfl)⟩, ⟨⟨_, rfl, .rfl⟩, ⟨⟨_, rfl, .rfl⟩, ⟨⟨_, rfl, (.flat rfl)⟩, ⟨⟨_, rfl, (.flat rfl)⟩, ⟨⟨_, rfl, (.flat rfl)⟩, trivial⟩⟩⟩⟩⟩⟩⟩⟩⟩⟩⟩⟩⟩ ⟨(.e rfl), ⟨(.w rfl (.cons (.flat rfl) (.cons .rfl (.cons (.flat rfl) .nil)))), ⟨(.e rfl), ⟨(.w rfl (.cons (.flat rfl) (.cons .rfl (.cons (.flat rfl) .nil)))), ⟨(.e rfl), trivial⟩⟩⟩⟩⟩ rfl rfl⟩
          · replace H := cf hc H
            refine ev_skip ?_
            exact ⟨_, ⟨s7.2.2, q14, H, rfl⟩, shift_mk ⟨⟨_, rfl, (.flat rfl)⟩, ⟨⟨_, rfl, (.flat rfl)⟩, ⟨⟨_, rfl, (.flat rfl)⟩, ⟨⟨_, rfl, .rfl⟩, ⟨⟨_, rfl, .rfl⟩, ⟨⟨_, rfl, .rfl⟩, ⟨⟨_, rfl, .rfl⟩, ⟨⟨_, rfl, (.flat rfl)⟩, ⟨⟨_, rfl, .rfl⟩, ⟨⟨_, rfl, .rfl⟩, ⟨⟨_, rfl, (.flat rfl)⟩, ⟨⟨_, rfl, (.flat rfl)⟩, ⟨⟨_, rfl, (.flat rfl)⟩, trivial⟩⟩⟩⟩⟩⟩⟩⟩⟩⟩⟩⟩⟩ ⟨(.e rfl), ⟨(.w rfl (.cons (.flat rfl) (.cons .rfl (.cons (.flat rfl) .nil)))), ⟨(.e rfl), ⟨(.w rfl (.cons (.flat rfl) (.cons .rfl (.cons (.flat rfl) .nil)))), ⟨(.e rfl), trivial⟩⟩⟩⟩⟩ rfl rfl⟩
      · replace H := forL_out hc H
        refine ev_exit ?_
        refine ev_seq ?_
        refine ev_region ?_
        refine rq rfl rfl (q_loadN rfl rfl rfl rfl) ?_
        refine rq rfl rfl (q_move rfl) ?_
        refine re rfl (e_store rfl rfl rfl rfl rfl (Nat.le_of_ble_eq_true rfl) rfl) ?_; rintro _ rfl
        refine rq rfl rfl (q_assign rfl) ?_
        refine rq rfl rfl (q_assign rfl) ?_
        refine run_nil ?_
        refine ev_ret ?_
        exact ret_ok [GCertificate.e (⟨a1, s7.2.2, s7.2.1⟩ : GCertificate), V.l 5 (List.map GRead.e s7.1), vi 0] (congrArg (fun r : GCertificate × (List GRead) × Int => V.t [GCertificate.e r.1, V.l 5 (List.map GRead.e r.2.1), vi r.2.2]) (Option.some.inj H)) rfl (.cons (.cellN (z := 3) rfl rfl rfl rfl rfl rfl (.stl (.cons (.v _ _ (fun _ => rfl)) (.cons (.all rfl (List.length_map _) (els_plain fun _ => ⟨rfl, rfl⟩) (fun _ => rfl)) (.cons (.v _ _ (fun _ => rfl)) .nil))))) (.cons (.tmp rfl (.v _ _ (fun _ => rfl))) (.cons (.tmp rfl (.v _ _ (fun _ => rfl))) .nil)))
def backflushref04_SameReads_m (a0 : List GRead) (a1 : List GRead) : Option Bool := bif ((a0.length : Nat) : Int) != ((a1.length : Nat) : Int) then (some false) else (forL a0 (fun (k3 : Nat) (x5 : GRead) (s1 : Unit) loop2 => bd (idx a1 ((k3 : Nat) : Int)) fun x8 => bif !(GRead.eqb x5 x8) then (some false) else (loop2 ())) (fun (s1 : Unit) => some true) ())
theorem backflushref04_SameReads_c {a0 : List GRead} {a1 : List GRead} {r : Bool} (H : backflushref04_SameReads_m a0 a1 = some r) : PureC Try.prog true 21 [V.l 5 (List.map GRead.e a0), V.l 5 (List.map GRead.e a1)] (vb r) := by
  unfold backflushref04_SameReads_m at H
  refine pure_intro (N := 26) Try.func21 rfl rfl rfl rfl fun C hO => ?_
  refine ev_seq ?_
  refine ev_region ?_
  refine rq rfl rfl (q_assign rfl) ?_
  refine run_nil ?_
  refine ev_seq ?_
  refine ev_seq ?_
  refine ev_region ?_
  refine rq rfl rfl (q_move rfl) ?_
  refine rq rfl rfl (q_len_t rfl) ?_
  refine rq rfl rfl (q_move rfl) ?_
  refine rq rfl rfl (q_len_t rfl) ?_
  refine rq rfl rfl (q_nei rfl rfl) ?_
  refine run_nil ?_
  refine ev_cond rfl (fun hc => ?_) (fun hc => ?_)
  · replace H := ct hc H
    refine ev_seq ?_
    refine ev_region ?_
    refine rq rfl rfl (q_assign rfl) ?_
    refine run_nil ?_
    refine ev_ret ?_
    exact ret_ok [vb false] (congrArg (fun r : Bool => vb r) (Option.some.inj H)) rfl (.cons (.tmp rfl (.v _ _ (fun _ => rfl))) .nil)
  · replace H := cf hc H
    refine ev_skip ?_
    refine ev_seq ?_
    refine ev_seq ?_
    refine ev_region ?_
    refine rq rfl rfl (q_assign rfl) ?_
    refine run_nil ?_
    refine ev_block ?_
    refine ev_len_l (s := 0) rfl fun w7 => ?_
    rw [List.length_map] at w7
    refine ev_forL H (fun k3 s1 σ' => σ' = mkS [(0, .v false (V.l 5 (List.map GRead.e a0))), (1, .v false (V.l 5 (List.map GRead.e a1))), (4, .v true (vb false)), (5, .v true (vi ((k3 : Nat) : Int)))] [] [] (0, false)) ⟨_, rfl, shift_mk ⟨⟨_, rfl, .rfl⟩, ⟨⟨_, rfl, .rfl⟩, ⟨⟨_, rfl, (.flat rfl)⟩, ⟨⟨_, rfl, .rfl⟩, trivial⟩⟩⟩⟩ trivial rfl rfl⟩ ?_
    rintro k3 s1 _ rfl _ H
    refine ev_seq ?_
    refine ev_seq ?_
    refine ev_region ?_
    refine rq rfl rfl (q_move rfl) ?_
    refine rq rfl rfl (q_move rfl) ?_
    refine rq rfl rfl (q_len_t rfl) ?_
    refine rq rfl rfl (q_lss rfl rfl) ?_
    refine run_nil ?_
    refine ev_cond rfl (fun hc => ?_) (fun hc => ?_)
    · obtain ⟨x5, w6, x5_g, H⟩ := forL_in hc H
      have x5_h : idx a0 ((k3 : Nat) : Int) = some x5 := by rw [idx_nat]; exact x5_g
      refine ev_skip ?_
      refine ev_seq ?_
      refine ev_block ?_
      refine ev_seq ?_
      obtain ⟨x8, x8_h, H⟩ := bd_inv H
      refine ev_draw rfl (by kernel_rfl) ?_
      refine qq rfl rfl (q_move rfl) ?_
      refine qq rfl rfl (q_move rfl) ?_
      refine qq rfl rfl (q_idx_l rfl rfl (idx_inv x5_h).1 (map_get (idx_inv x5_h).2.1) rfl) ?_
      refine qq rfl rfl (q_load_e rfl rfl rfl) ?_
      refine qq rfl rfl (q_move rfl) ?_
      refine qq rfl rfl (q_move rfl) ?_
      refine qq rfl rfl (q_idx_l rfl rfl (idx_inv x8_h).1 (map_get (idx_inv x8_h).2.1) rfl) ?_
      refine qq rfl rfl (q_load_e rfl rfl rfl) ?_
      refine qq rfl rfl (q_nes rfl rfl (r := GRead.eqb x5 x8) rfl) ?_
      refine qn ?_
      refine ev_cond rfl (fun hc => ?_) (fun hc => ?_)
      · replace H := ct hc H
        refine ev_seq ?_
        refine ev_region ?_
        refine rq rfl rfl (q_assign rfl) ?_
        refine run_nil ?_
        refine ev_ret ?_
        exact ret_ok [vb false] (congrArg (fun r : Bool => vb r) (Option.some.inj H)) rfl (.cons (.tmp rfl (.v _ _ (fun _ => rfl))) .nil)
      · replace H := cf hc H
        refine ev_skip ?_
        refine ev_region ?_
        refine rq rfl rfl (q_move rfl) ?_
        refine rq rfl rfl (q_add rfl rfl) ?_
        refine rq rfl rfl (q_assign rfl) ?_
        refine run_nil ?_
        exact ⟨_, _, w6, H, rfl, shift_mk ⟨⟨_, rfl, .rfl⟩, ⟨⟨_, rfl, .rfl⟩, ⟨⟨_, rfl, (.flat rfl)⟩, ⟨⟨_, rfl, (.eq (congrArg (fun n => D.v true (vi n)) (wrap_succ w6 w7)))⟩, trivial⟩⟩⟩⟩ trivial rfl rfl⟩
    · replace H := forL_out hc H
      refine ev_exit ?_
      refine ev_seq ?_
      refine ev_region ?_
      refine rq rfl rfl (q_assign rfl) ?_
      refine run_nil ?_
      refine ev_ret ?_
      exact ret_ok [vb true] (congrArg (fun r : Bool => vb r) (Option.some.inj H)) rfl (.cons (.tmp rfl (.v _ _ (fun _ => rfl))) .nil)
def backflushref40_Same_m (a0 : GCertificate) (a1 : GCertificate) : Option Bool := bif bif bif a0.lot != a1.lot then true else a0.good != a1.good then true else ((a0.results.length : Nat) : Int) != ((a1.results.length : Nat) : Int) then (some false) else (forN 0 ((a0.results.length : Nat) : Int) (fun (k5 : Int) (s3 : Unit) loop4 => bd (idx a0.results k5) fun x14 => bd (idx a1.results k5) fun x15 => bif !(GPoint.eqb x14 x15) then (some false) else (loop4 ())) (fun (s3 : Unit) => some true) ())
theorem backflushref40_Same_c {a0 : GCertificate} {a1 : GCertificate} {r : Bool} (H : backflushref40_Same_m a0 a1 = some r) : PureC Try.prog true 22 [GCertificate.e a0, GCertificate.e a1] (vb r) := by
  unfold backflushref40_Same_m at H
  refine pure_intro (N := 45) Try.func22 rfl rfl rfl rfl fun C hO => ?_
  refine ev_seq ?_
  refine ev_region ?_
  refine re rfl (e_box 2 0 rfl rfl rfl) ?_; rintro _ ⟨b1, rfl⟩
  refine re rfl (e_box 3 0 rfl rfl rfl) ?_; rintro _ ⟨b2, rfl⟩
  refine rq rfl rfl (q_assign rfl) ?_
  refine run_nil ?_
  refine ev_seq ?_
  refine ev_seq ?_
  refine ev_region ?_
  refine rq rfl rfl (q_fld_p rfl) ?_
  refine rq rfl rfl (q_load1 rfl rfl rfl) ?_
  refine rq rfl rfl (q_fld_p rfl) ?_
  refine rq rfl rfl (q_load1 rfl rfl rfl) ?_
  refine rq rfl rfl (q_nei rfl rfl) ?_
  refine rq rfl rfl (q_move rfl) ?_
  refine rqc (l := []) ⟨⟨_, _, _, rfl, rfl, rfl, rfl⟩, rfl, fun hc => q_fld_p rfl, trivial⟩ rfl ?_
  refine rqc (l := [12]) ⟨⟨_, _, _, rfl, rfl, rfl, rfl⟩, rfl, fun hc => q_load1 rfl rfl rfl, ⟨fun h => h, trivial⟩⟩ rfl ?_
  refine rqc (l := []) ⟨⟨_, _, _, rfl, rfl, rfl, rfl⟩, rfl, fun hc => q_fld_p rfl, trivial⟩ rfl ?_
  refine rqc (l := [14]) ⟨⟨_, _, _, rfl, rfl, rfl, rfl⟩, rfl, fun hc => q_load1 rfl rfl rfl, ⟨fun h => h, trivial⟩⟩ rfl ?_
  refine rqc (l := [13, 15]) ⟨⟨_, _, _, rfl, rfl, rfl, rfl⟩, rfl, fun hc => q_neb rfl rfl, ⟨fun h => h, ⟨fun h => h, trivial⟩⟩⟩ rfl ?_
  refine rq rfl rfl (q_pickb rfl rfl rfl PB.v (PB.c (fun hp => by rw [hp]; rfl))) ?_
  refine rq rfl rfl (q_move rfl) ?_
  refine rqc (l := []) ⟨⟨_, _, _, rfl, rfl, rfl, rfl⟩, rfl, fun hc => q_fld_p rfl, trivial⟩ rfl ?_
  refine rqc (l := [19]) ⟨⟨_, _, _, rfl, rfl, rfl, rfl⟩, rfl, fun hc => q_load1 rfl rfl rfl, ⟨fun h => h, trivial⟩⟩ rfl ?_
  refine rqc (l := [20]) ⟨⟨_, _, _, rfl, rfl, rfl, rfl⟩, rfl, fun hc => q_len_t rfl, ⟨fun h => h, trivial⟩⟩ rfl ?_
  refine rqc (l := []) ⟨⟨_, _, _, rfl, rfl, rfl, rfl⟩, rfl, fun hc => q_fld_p rfl, trivial⟩ rfl ?_
  refine rqc (l := [22]) ⟨⟨_, _, _, rfl, rfl, rfl, rfl⟩, rfl, fun hc => q_load1 rfl rfl rfl, ⟨fun h => h, trivial⟩⟩ rfl ?_
  refine rqc (l := [23]) ⟨⟨_, _, _, rfl, rfl, rfl, rfl⟩, rfl, fun hc => q_len_t rfl, ⟨fun h => h, trivial⟩⟩ rfl ?_
  refine rqc (l := [21, 24]) ⟨⟨_, _, _, rfl, rfl, rfl, rfl⟩, rfl, fun hc => q_nei rfl rfl, ⟨fun h => h, ⟨fun h => h, trivial⟩⟩⟩ rfl ?_
  refine rq rfl rfl (q_pickb rfl rfl rfl PB.v (PB.c (fun hp => by rw [hp]; rfl))) ?_
  refine run_nil ?_
  refine ev_cond rfl (fun hc => ?_) (fun hc => ?_)
  · replace H := ct hc H
    refine ev_seq ?_
    refine ev_region ?_
    refine rq rfl rfl (q_assign rfl) ?_
    refine run_nil ?_
    refine ev_ret ?_
    exact ret_ok [vb false] (congrArg (fun r : Bool => vb r) (Option.some.inj H)) rfl (.cons (.tmp rfl (.v _ _ (fun _ => rfl))) .nil)
  · replace H := cf hc H
    refine ev_skip ?_
    refine ev_seq ?_
    refine ev_seq ?_
    refine ev_region ?_
    refine rq rfl rfl (q_assign rfl) ?_
    refine run_nil ?_
    refine ev_block ?_
    refine ev_forN H (fun k5 s3 σ' => σ' = mkS [(2, .p 2 0 b1 0), (3, .p 3 0 b2 0), (4, .v true (vb false)), (5, .v true (vi k5))] [.e 2 0 (some (b1, 3)) (.row 47 [.v true (vi a0.lot), .v false (V.l 2 (List.map GPoint.e a0.results)), .v true (vb a0.good)]), .e 3 0 (some (b2, 3)) (.row 47 [.v true (vi a1.lot), .v false (V.l 2 (List.map GPoint.e a1.results)), .v true (vb a1.good)])] [] (0, false)) ⟨_, rfl, shift_mk ⟨⟨_, rfl, .rfl⟩, ⟨⟨_, rfl, .rfl⟩, ⟨⟨_, rfl, (.flat rfl)⟩, ⟨⟨_, rfl, .rfl⟩, trivial⟩⟩⟩⟩ ⟨(.w rfl (.cons (.flat rfl) (.cons .rfl (.cons (.flat rfl) .nil)))), ⟨(.w rfl (.cons (.flat rfl) (.cons .rfl (.cons (.flat rfl) .nil)))), trivial⟩⟩ rfl rfl⟩ ?_
    rintro n7 k5 s3 _ rfl w8 w9 w10 w11 H
    refine ev_seq ?_
    refine ev_seq ?_
    refine ev_region ?_
    refine rq rfl rfl (q_move rfl) ?_
    refine rq rfl rfl (q_fld_p rfl) ?_
    refine rq rfl rfl (q_load1 rfl rfl rfl) ?_
    refine rq rfl rfl (q_len_t rfl) ?_
    refine rq rfl rfl (q_lss rfl rfl) ?_
    refine run_nil ?_
    refine ev_cond rfl (fun hc => ?_) (fun hc => ?_)
    · obtain ⟨n13, n13_e, w12, H⟩ := forN_in hc w8 H
      refine ev_skip ?_
      refine ev_seq ?_
      refine ev_block ?_
      refine ev_seq ?_
      obtain ⟨x14, x14_h, H⟩ := bd_inv H
      obtain ⟨x15, x15_h, H⟩ := bd_inv H
      refine ev_draw rfl (by kernel_rfl) ?_
      refine qq rfl rfl (q_fld_p rfl) ?_
      refine qq rfl rfl (q_load1 rfl rfl rfl) ?_
      refine qq rfl rfl (q_move rfl) ?_
      refine qq rfl rfl (q_idx_l rfl rfl (idx_inv x14_h).1 (map_get (idx_inv x14_h).2.1) rfl) ?_
      refine qq rfl rfl (q_load_e rfl rfl rfl) ?_
      refine qq rfl rfl (q_fld_p rfl) ?_
      refine qq rfl rfl (q_load1 rfl rfl rfl) ?_
      refine qq rfl rfl (q_move rfl) ?_
      refine qq rfl rfl (q_idx_l rfl rfl (idx_inv x15_h).1 (map_get (idx_inv x15_h).2.1) rfl) ?_
      refine qq rfl rfl (q_load_e rfl rfl rfl) ?_
      refine qq rfl rfl (q_nes rfl rfl (r := GPoint.eqb x14 x15) rfl) ?_
      refine qn ?_
      refine ev_cond rfl (fun hc => ?_) (fun hc => ?_)
      · replace H := ct hc H
        refine ev_seq ?_
        refine ev_region ?_
        refine rq rfl rfl (q_assign rfl) ?_
        refine run_nil ?_
        refine ev_ret ?_
        exact ret_ok [vb false] (congrArg (fun r : Bool => vb r) (Option.some.inj H)) rfl (.cons (.tmp rfl (.v _ _ (fun _ => rfl))) .nil)
      · replace H := cf hc H
        refine ev_skip ?_
        refine ev_region ?_
        refine rq rfl rfl (q_move rfl) ?_
        refine rq rfl rfl (q_add rfl rfl) ?_
        refine rq rfl rfl (q_assign rfl) ?_
        refine run_nil ?_
        exact ⟨_, _, _, n13_e, H, rfl, shift_mk ⟨⟨_, rfl, .rfl⟩, ⟨⟨_, rfl, .rfl⟩, ⟨⟨_, rfl, (.flat rfl)⟩, ⟨⟨_, rfl, (.eq (congrArg (fun n => D.v true (vi n)) (wrap_succ' (by omega) w12 w11)))⟩, trivial⟩⟩⟩⟩ ⟨(.w rfl (.cons (.flat rfl) (.cons .rfl (.cons (.flat rfl) .nil)))), ⟨(.w rfl (.cons (.flat rfl) (.cons .rfl (.cons (.flat rfl) .nil)))), trivial⟩⟩ rfl rfl⟩
    · replace H := forN_out hc w8 H
      refine ev_exit ?_
      refine ev_seq ?_
      refine ev_region ?_
      refine rq rfl rfl (q_assign rfl) ?_
      refine run_nil ?_
      refine ev_ret ?_
      exact ret_ok [vb true] (congrArg (fun r : Bool => vb r) (Option.some.inj H)) rfl (.cons (.tmp rfl (.v _ _ (fun _ => rfl))) .nil)
end Bf
