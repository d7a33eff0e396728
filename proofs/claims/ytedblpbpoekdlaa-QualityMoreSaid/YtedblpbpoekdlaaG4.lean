import Derived.Test.YtedblpbpoekdlaaG3
import Derived.Test.YtedblpbpoekdlaaF28
namespace Bf
open Go Go.RowKit Go.Proofs
attribute [local irreducible] Quiet Eff RunS Ev PureC Shift RunQ RetQ RetR SeqQ
set_option linter.unusedVariables false
set_option maxRecDepth 4000
def backflushlaw40_QualityCertifySpec_m (a0 : GWorld) (a1 : Int) (a2 : Int) (a3 : Int) (a4 : Int) (a5 : List GSpec) : Option Bool := bd (backflushlaw40_sane_m) fun x2 => bif !x2 then (some false) else (bd (backflushref40_Few_m a0 a5 []) fun x3 => bif !x3 then (some true) else (bd (quality_Result_m a0 a1 a2 a3 a4) fun x4 => bd (backflushref40_Result_m a0 a1 a2 a3 a4) fun x5 => bd (quality_Certify_m a0 a1 a3 a4 a5) fun x6 => bd (backflushref40_Certify_m a0 a1 a3 a4 a5) fun x8 => bdc (x4.1 == x5.1) (backflushref04_SameReads_m x4.2.1 x5.2.1) fun x10 => bdc (bif bif x4.1 == x5.1 then x10 else false then x4.2.2 == x5.2.2 else false) (backflushref40_Same_m x6.1 x8.1) fun x11 => bdc (bif bif bif x4.1 == x5.1 then x10 else false then x4.2.2 == x5.2.2 else false then x11 else false) (backflushref04_SameReads_m x6.2.1 x8.2.1) fun x12 => some (bif bif bif bif bif x4.1 == x5.1 then x10 else false then x4.2.2 == x5.2.2 else false then x11 else false then x12 else false then x6.2.2 == x8.2.2 else false)))
theorem backflushlaw40_QualityCertifySpec_c {a0 : GWorld} {a1 : Int} {a2 : Int} {a3 : Int} {a4 : Int} {a5 : List GSpec} {r : Bool} (H : backflushlaw40_QualityCertifySpec_m a0 a1 a2 a3 a4 a5 = some r) : PureC Try.prog true 3 [GWorld.e a0, vi a1, vi a2, vi a3, vi a4, V.l 3 (List.map GSpec.e a5)] (vb r) := by
  unfold backflushlaw40_QualityCertifySpec_m at H
  refine pure_intro (N := 99) Try.func3 rfl rfl rfl rfl fun C hO => ?_
  refine ev_shift (shift_mk (fs := [(0, .v false (GWorld.e a0)), (1, .v true (vi a1)), (2, .v true (vi a2)), (3, .v true (vi a3)), (4, .v true (vi a4)), (5, .v false (V.l 3 (List.map GSpec.e a5)))]) (es := []) ⟨⟨_, rfl, .rfl⟩, ⟨⟨_, rfl, (.flat rfl)⟩, ⟨⟨_, rfl, (.flat rfl)⟩, ⟨⟨_, rfl, (.flat rfl)⟩, ⟨⟨_, rfl, (.flat rfl)⟩, ⟨⟨_, rfl, .rfl⟩, trivial⟩⟩⟩⟩⟩⟩ trivial rfl rfl) ?_
  refine ev_seq ?_
  refine ev_region ?_
  refine re rfl (e_box 6 0 rfl rfl rfl) ?_; rintro _ ⟨b1, rfl⟩
  refine rq rfl rfl (q_assign rfl) ?_
  refine run_nil ?_
  refine ev_seq ?_
  refine ev_seq ?_
  refine ev_region ?_
  obtain ⟨x2, x2_h, H⟩ := bd_inv H
  refine rq rfl rfl (q_call rfl (.v _ _ (fun e => nomatch e)) ArgsOk.nil inferInstance (backflushlaw40_sane_c  x2_h)) ?_
  refine rq rfl rfl (q_not rfl) ?_
  refine run_nil ?_
  refine ev_cond rfl (fun hc => ?_) (fun hc => ?_)
  · replace H := ct hc H
    refine ev_seq ?_
    refine ev_region ?_
    refine rq rfl rfl (q_assign rfl) ?_
    refine run_nil ?_
    refine ev_ret ?_
    exact ret_ok [vb false] (congrArg (fun r : Bool => vb r) (Option.some.inj H)) rfl (.cons (.tmp rfl (.v _ _ (fun _ => rfl))) .nil)
  · replace H := cf hc H
    refine ev_skip ?_
    refine ev_seq ?_
    refine ev_seq ?_
    refine ev_region ?_
    refine rq rfl rfl (q_loadN rfl rfl rfl rfl) ?_
    refine rq rfl rfl (q_move rfl) ?_
    obtain ⟨x3, x3_h, H⟩ := bd_inv H
    refine rq rfl rfl (q_call rfl (.v _ _ (fun e => nomatch e)) (.v rfl (.v rfl (.z rfl ArgsOk.nil))) inferInstance (backflushref40_Few_c  x3_h)) ?_
    refine rq rfl rfl (q_not rfl) ?_
    refine run_nil ?_
    refine ev_cond rfl (fun hc => ?_) (fun hc => ?_)
    · replace H := ct hc H
      refine ev_seq ?_
      refine ev_region ?_
      refine rq rfl rfl (q_assign rfl) ?_
      refine run_nil ?_
      refine ev_ret ?_
      exact ret_ok [vb true] (congrArg (fun r : Bool => vb r) (Option.some.inj H)) rfl (.cons (.tmp rfl (.v _ _ (fun _ => rfl))) .nil)
    · replace H := cf hc H
      refine ev_skip ?_
      refine ev_seq ?_
      refine ev_region ?_
      refine rq rfl rfl (q_loadN rfl rfl rfl rfl) ?_
      refine rq rfl rfl (q_move rfl) ?_
      refine rq rfl rfl (q_move rfl) ?_
      refine rq rfl rfl (q_move rfl) ?_
      refine rq rfl rfl (q_move rfl) ?_
      obtain ⟨x4, x4_h, H⟩ := bd_inv H
      refine rq rfl rfl (q_call rfl (.v _ _ (fun e => nomatch e)) (.v rfl (.v rfl (.v rfl (.v rfl (.v rfl ArgsOk.nil))))) inferInstance (quality_Result_c  x4_h)) ?_
      refine rq rfl rfl (q_move rfl) ?_
      refine rq rfl rfl (q_extract rfl rfl) ?_
      refine rq rfl rfl (q_extract rfl rfl) ?_
      refine rq rfl rfl (q_extract rfl rfl) ?_
      refine rq rfl rfl (q_assign rfl) ?_
      refine rq rfl rfl (q_assign rfl) ?_
      refine rq rfl rfl (q_assign rfl) ?_
      refine run_nil ?_
      refine ev_seq ?_
      refine ev_region ?_
      refine rq rfl rfl (q_loadN rfl rfl rfl rfl) ?_
      refine rq rfl rfl (q_move rfl) ?_
      refine rq rfl rfl (q_move rfl) ?_
      refine rq rfl rfl (q_move rfl) ?_
      refine rq rfl rfl (q_move rfl) ?_
      obtain ⟨x5, x5_h, H⟩ := bd_inv H
      refine rq rfl rfl (q_call rfl (.v _ _ (fun e => nomatch e)) (.v rfl (.v rfl (.v rfl (.v rfl (.v rfl ArgsOk.nil))))) inferInstance (backflushref40_Result_c  x5_h)) ?_
      refine rq rfl rfl (q_move rfl) ?_
      refine rq rfl rfl (q_extract rfl rfl) ?_
      refine rq rfl rfl (q_extract rfl rfl) ?_
      refine rq rfl rfl (q_extract rfl rfl) ?_
      refine rq rfl rfl (q_assign rfl) ?_
      refine rq rfl rfl (q_assign rfl) ?_
      refine rq rfl rfl (q_assign rfl) ?_
      refine run_nil ?_
      refine ev_seq ?_
      refine ev_region ?_
      refine rq rfl rfl (q_loadN rfl rfl rfl rfl) ?_
      refine rq rfl rfl (q_move rfl) ?_
      refine rq rfl rfl (q_move rfl) ?_
      refine rq rfl rfl (q_move rfl) ?_
      refine rq rfl rfl (q_move rfl) ?_
      obtain ⟨x6, x6_h, H⟩ := bd_inv H
      refine rq rfl rfl (q_call rfl (.v _ _ (fun e => nomatch e)) (.v rfl (.v rfl (.v rfl (.v rfl (.v rfl ArgsOk.nil))))) inferInstance (quality_Certify_c  x6_h)) ?_
      refine rq rfl rfl (q_move rfl) ?_
      refine rq rfl rfl (q_extract rfl rfl) ?_
      refine rq rfl rfl (q_extract rfl rfl) ?_
      refine rq rfl rfl (q_extract rfl rfl) ?_
      refine re rfl (e_alloc 19 0 rfl rfl) ?_; rintro _ ⟨b7, rfl⟩
      refine re rfl (e_store rfl rfl rfl rfl rfl (Nat.le_of_ble_eq_true rfl) rfl) ?_; rintro _ rfl
      refine rq rfl rfl (q_assign rfl) ?_
      refine rq rfl rfl (q_assign rfl) ?_
      refine run_nil ?_
      refine ev_seq ?_
      refine ev_region ?_
      refine rq rfl rfl (q_loadN rfl rfl rfl rfl) ?_
      refine rq rfl rfl (q_move rfl) ?_
      refine rq rfl rfl (q_move rfl) ?_
      refine rq rfl rfl (q_move rfl) ?_
      refine rq rfl rfl (q_move rfl) ?_
      obtain ⟨x8, x8_h, H⟩ := bd_inv H
      refine rq rfl rfl (q_call rfl (.v _ _ (fun e => nomatch e)) (.v rfl (.v rfl (.v rfl (.v rfl (.v rfl ArgsOk.nil))))) inferInstance (backflushref40_Certify_c  x8_h)) ?_
      refine rq rfl rfl (q_move rfl) ?_
      refine rq rfl rfl (q_extract rfl rfl) ?_
      refine rq rfl rfl (q_extract rfl rfl) ?_
      refine rq rfl rfl (q_extract rfl rfl) ?_
      refine re rfl (e_alloc 22 0 rfl rfl) ?_; rintro _ ⟨b9, rfl⟩
      refine re rfl (e_store rfl rfl rfl rfl rfl (Nat.le_of_ble_eq_true rfl) rfl) ?_; rintro _ rfl
      refine rq rfl rfl (q_assign rfl) ?_
      refine rq rfl rfl (q_assign rfl) ?_
      refine run_nil ?_
      refine ev_seq ?_
      refine ev_region ?_
      refine rq rfl rfl (q_move rfl) ?_
      refine rq rfl rfl (q_move rfl) ?_
      refine rq rfl rfl (q_eqi rfl rfl) ?_
      refine rq rfl rfl (q_move rfl) ?_
      refine rqc (l := []) ⟨⟨_, _, _, rfl, rfl, rfl, rfl⟩, rfl, fun hc => q_move rfl, trivial⟩ rfl ?_
      refine rqc (l := []) ⟨⟨_, _, _, rfl, rfl, rfl, rfl⟩, rfl, fun hc => q_move rfl, trivial⟩ rfl ?_
      obtain ⟨x10, x10_h, _, H⟩ := bdc_inv H
      refine rqc (l := [75, 76]) ⟨⟨_, _, _, rfl, rfl, rfl, rfl⟩, rfl, fun hc => q_call rfl (.v _ _ (fun e => nomatch e)) (.v rfl (.v rfl ArgsOk.nil)) inferInstance (backflushref04_SameReads_c  (x10_h hc)), ⟨fun h => h, ⟨fun h => h, trivial⟩⟩⟩ rfl ?_
      refine rq rfl rfl (q_pickb rfl rfl rfl (PB.c (fun hp => hp)) PB.v) ?_
      refine rq rfl rfl (q_move rfl) ?_
      refine rqc (l := []) ⟨⟨_, _, _, rfl, rfl, rfl, rfl⟩, rfl, fun hc => q_move rfl, trivial⟩ rfl ?_
      refine rqc (l := []) ⟨⟨_, _, _, rfl, rfl, rfl, rfl⟩, rfl, fun hc => q_move rfl, trivial⟩ rfl ?_
      refine rqc (l := [80, 81]) ⟨⟨_, _, _, rfl, rfl, rfl, rfl⟩, rfl, fun hc => q_eqb rfl rfl, ⟨fun h => h, ⟨fun h => h, trivial⟩⟩⟩ rfl ?_
      refine rq rfl rfl (q_pickb rfl rfl rfl (PB.c (fun hp => hp)) PB.v) ?_
      refine rq rfl rfl (q_move rfl) ?_
      refine rqc (l := []) ⟨⟨_, _, _, rfl, rfl, rfl, rfl⟩, rfl, fun hc => q_loadN rfl rfl rfl rfl, trivial⟩ rfl ?_
      refine rqc (l := []) ⟨⟨_, _, _, rfl, rfl, rfl, rfl⟩, rfl, fun hc => q_loadN rfl rfl rfl rfl, trivial⟩ rfl ?_
      obtain ⟨x11, x11_h, _, H⟩ := bdc_inv H
      refine rqc (l := [85, 86]) ⟨⟨_, _, _, rfl, rfl, rfl, rfl⟩, rfl, fun hc => q_call rfl (.v _ _ (fun e => nomatch e)) (.v rfl (.v rfl ArgsOk.nil)) inferInstance (backflushref40_Same_c  (x11_h hc)), ⟨fun h => h, ⟨fun h => h, trivial⟩⟩⟩ rfl ?_
      refine rq rfl rfl (q_pickb rfl rfl rfl (PB.c (fun hp => hp)) PB.v) ?_
      refine rq rfl rfl (q_move rfl) ?_
      refine rqc (l := []) ⟨⟨_, _, _, rfl, rfl, rfl, rfl⟩, rfl, fun hc => q_move rfl, trivial⟩ rfl ?_
      refine rqc (l := []) ⟨⟨_, _, _, rfl, rfl, rfl, rfl⟩, rfl, fun hc => q_move rfl, trivial⟩ rfl ?_
      obtain ⟨x12, x12_h, _, H⟩ := bdc_inv H
      refine rqc (l := [90, 91]) ⟨⟨_, _, _, rfl, rfl, rfl, rfl⟩, rfl, fun hc => q_call rfl (.v _ _ (fun e => nomatch e)) (.v rfl (.v rfl ArgsOk.nil)) inferInstance (backflushref04_SameReads_c  (x12_h hc)), ⟨fun h => h, ⟨fun h => h, trivial⟩⟩⟩ rfl ?_
      refine rq rfl rfl (q_pickb rfl rfl rfl (PB.c (fun hp => hp)) PB.v) ?_
      refine rq rfl rfl (q_move rfl) ?_
      refine rqc (l := []) ⟨⟨_, _, _, rfl, rfl, rfl, rfl⟩, rfl, fun hc => q_move rfl, trivial⟩ rfl ?_
      refine rqc (l := []) ⟨⟨_, _, _, rfl, rfl, rfl, rfl⟩, rfl, fun hc => q_move rfl, trivial⟩ rfl ?_
      refine rqc (l := [95, 96]) ⟨⟨_, _, _, rfl, rfl, rfl, rfl⟩, rfl, fun hc => q_eqi rfl rfl, ⟨fun h => h, ⟨fun h => h, trivial⟩⟩⟩ rfl ?_
      refine rq rfl rfl (q_pickb rfl rfl rfl (PB.c (fun hp => hp)) PB.v) ?_
      refine rq rfl rfl (q_assign rfl) ?_
      refine run_nil ?_
      refine ev_ret ?_
      exact ret_ok [vb (bif bif bif bif bif x4.1 == x5.1 then x10 else false then x4.2.2 == x5.2.2 else false then x11 else false then x12 else false then x6.2.2 == x8.2.2 else false)] (congrArg (fun r : Bool => vb r) (Option.some.inj H)) rfl (.cons (.tmp rfl (.v _ _ (fun _ => rfl))) .nil)
def backflushref40_Check_m (a0 : GWorld) (a1 : GCertificate) (a2 : Int) (a3 : Int) (a4 : List GSpec) : Option (Bool × Int) := bd (backflushref40_Certify_m a0 a1.lot a2 a3 a4) fun x3 => bif x3.2.2 != 0 then (some (false, x3.2.2)) else (bd (backflushref40_Same_m x3.1 a1) fun x5 => some (x5, 0))
theorem backflushref40_Check_c {a0 : GWorld} {a1 : GCertificate} {a2 : Int} {a3 : Int} {a4 : List GSpec} {r : Bool × Int} (H : backflushref40_Check_m a0 a1 a2 a3 a4 = some r) : PureC Try.prog true 24 [GWorld.e a0, GCertificate.e a1, vi a2, vi a3, V.l 3 (List.map GSpec.e a4)] (V.t [vb r.1, vi r.2]) := by
  unfold backflushref40_Check_m at H
  refine pure_intro (N := 32) Try.func24 rfl rfl rfl rfl fun C hO => ?_
  refine ev_shift (shift_mk (fs := [(0, .v false (GWorld.e a0)), (1, .v false (GCertificate.e a1)), (2, .v true (vi a2)), (3, .v true (vi a3)), (4, .v false (V.l 3 (List.map GSpec.e a4)))]) (es := []) ⟨⟨_, rfl, .rfl⟩, ⟨⟨_, rfl, .rfl⟩, ⟨⟨_, rfl, (.flat rfl)⟩, ⟨⟨_, rfl, (.flat rfl)⟩, ⟨⟨_, rfl, .rfl⟩, trivial⟩⟩⟩⟩⟩ trivial rfl rfl) ?_
  refine ev_seq ?_
  refine ev_region ?_
  refine re rfl (e_box 5 0 rfl rfl rfl) ?_; rintro _ ⟨b1, rfl⟩
  refine re rfl (e_box 6 0 rfl rfl rfl) ?_; rintro _ ⟨b2, rfl⟩
  refine rq rfl rfl (q_assign rfl) ?_
  refine rq rfl rfl (q_assign rfl) ?_
  refine run_nil ?_
  refine ev_seq ?_
  refine ev_region ?_
  refine rq rfl rfl (q_loadN rfl rfl rfl rfl) ?_
  refine rq rfl rfl (q_fld_p rfl) ?_
  refine rq rfl rfl (q_load1 rfl rfl rfl) ?_
  refine rq rfl rfl (q_move rfl) ?_
  refine rq rfl rfl (q_move rfl) ?_
  refine rq rfl rfl (q_move rfl) ?_
  obtain ⟨x3, x3_h, H⟩ := bd_inv H
  refine rq rfl rfl (q_call rfl (.v _ _ (fun e => nomatch e)) (.v rfl (.v rfl (.v rfl (.v rfl (.v rfl ArgsOk.nil))))) inferInstance (backflushref40_Certify_c  x3_h)) ?_
  refine rq rfl rfl (q_move rfl) ?_
  refine rq rfl rfl (q_extract rfl rfl) ?_
  refine rq rfl rfl (q_extract rfl rfl) ?_
  refine rq rfl rfl (q_extract rfl rfl) ?_
  refine re rfl (e_alloc 12 0 rfl rfl) ?_; rintro _ ⟨b4, rfl⟩
  refine re rfl (e_store rfl rfl rfl rfl rfl (Nat.le_of_ble_eq_true rfl) rfl) ?_; rintro _ rfl
  refine rq rfl rfl (q_assign rfl) ?_
  refine rq rfl rfl (q_assign rfl) ?_
  refine run_nil ?_
  refine ev_seq ?_
  refine ev_seq ?_
  refine ev_region ?_
  refine rq rfl rfl (q_move rfl) ?_
  refine rq rfl rfl (q_nei rfl rfl) ?_
  refine run_nil ?_
  refine ev_cond rfl (fun hc => ?_) (fun hc => ?_)
  · replace H := ct hc H
    refine ev_seq ?_
    refine ev_region ?_
    refine rq rfl rfl (q_move rfl) ?_
    refine rq rfl rfl (q_assign rfl) ?_
    refine rq rfl rfl (q_assign rfl) ?_
    refine run_nil ?_
    refine ev_ret ?_
    exact ret_ok [vb false, vi x3.2.2] (congrArg (fun r : Bool × Int => V.t [vb r.1, vi r.2]) (Option.some.inj H)) rfl (.cons (.tmp rfl (.v _ _ (fun _ => rfl))) (.cons (.tmp rfl (.v _ _ (fun _ => rfl))) .nil))
  · replace H := cf hc H
    refine ev_skip ?_
    refine ev_seq ?_
    refine ev_region ?_
    refine rq rfl rfl (q_loadN rfl rfl rfl rfl) ?_
    refine rq rfl rfl (q_loadN rfl rfl rfl rfl) ?_
    obtain ⟨x5, x5_h, H⟩ := bd_inv H
    refine rq rfl rfl (q_call rfl (.v _ _ (fun e => nomatch e)) (.v rfl (.v rfl ArgsOk.nil)) inferInstance (backflushref40_Same_c  x5_h)) ?_
    refine rq rfl rfl (q_assign rfl) ?_
    refine rq rfl rfl (q_assign rfl) ?_
    refine run_nil ?_
    refine ev_ret ?_
    exact ret_ok [vb x5, vi 0] (congrArg (fun r : Bool × Int => V.t [vb r.1, vi r.2]) (Option.some.inj H)) rfl (.cons (.tmp rfl (.v _ _ (fun _ => rfl))) (.cons (.tmp rfl (.v _ _ (fun _ => rfl))) .nil))
def backflushref40_lots_m (a0 : List Int) : Option Bool := forL a0 (fun (k3 : Nat) (x5 : Int) (s1 : Unit) loop2 => bdc ((!(bif decide (x5 < 0) then true else decide (1024 ≤ x5))) && (decide (0 < ((k3 : Nat) : Int)))) (idx a0 (wr (((k3 : Nat) : Int) - 1))) fun x8 => bif bif bif decide (x5 < 0) then true else decide (1024 ≤ x5) then true else bif decide (0 < ((k3 : Nat) : Int)) then decide (x5 ≤ x8) else false then (some false) else (loop2 ())) (fun (s1 : Unit) => some (decide (((a0.length : Nat) : Int) ≤ 1024))) ()
theorem backflushref40_lots_c {a0 : List Int} {r : Bool} (H : backflushref40_lots_m a0 = some r) : PureC Try.prog true 52 [V.l 1 (List.map vi a0)] (vb r) := by
  unfold backflushref40_lots_m at H
  refine pure_intro (N := 41) Try.func52 rfl rfl rfl rfl fun C hO => ?_
  refine ev_seq ?_
  refine ev_region ?_
  refine rq rfl rfl (q_assign rfl) ?_
  refine run_nil ?_
  refine ev_seq ?_
  refine ev_seq ?_
  refine ev_region ?_
  refine rq rfl rfl (q_assign rfl) ?_
  refine run_nil ?_
  refine ev_block ?_
  refine ev_len_l (s := 0) rfl fun w7 => ?_
  rw [List.length_map] at w7
  refine ev_forL H (fun k3 s1 σ' => σ' = mkS [(0, .v false (V.l 1 (List.map vi a0))), (2, .v true (vb false)), (3, .v true (vi ((k3 : Nat) : Int)))] [] [] (0, false)) ⟨_, rfl, shift_mk ⟨⟨_, rfl, .rfl⟩, ⟨⟨_, rfl, (.flat rfl)⟩, ⟨⟨_, rfl, .rfl⟩, trivial⟩⟩⟩ trivial rfl rfl⟩ ?_
  rintro k3 s1 _ rfl _ H
  refine ev_seq ?_
  refine ev_seq ?_
  refine ev_region ?_
  refine rq rfl rfl (q_move rfl) ?_
  refine rq rfl rfl (q_move rfl) ?_
  refine rq rfl rfl (q_len_t rfl) ?_
  refine rq rfl rfl (q_lss rfl rfl) ?_
  refine run_nil ?_
  refine ev_cond rfl (fun hc => ?_) (fun hc => ?_)
  · obtain ⟨x5, w6, x5_g, H⟩ := forL_in hc H
    have x5_h : idx a0 ((k3 : Nat) : Int) = some x5 := by rw [idx_nat]; exact x5_g
    refine ev_skip ?_
    refine ev_seq ?_
    refine ev_block ?_
    refine ev_seq ?_
    obtain ⟨x8, x8_h, _, H⟩ := bdc_inv H
    refine ev_draw rfl (by kernel_rfl) ?_
    refine qq rfl rfl (q_move rfl) ?_
    refine qq rfl rfl (q_move rfl) ?_
    refine qq rfl rfl (q_idx_l rfl rfl (idx_inv x5_h).1 (map_get (idx_inv x5_h).2.1) rfl) ?_
    refine qq rfl rfl (q_load1_q rfl) ?_
    refine qq rfl rfl (q_lss rfl rfl) ?_
    refine qq rfl rfl (q_move rfl) ?_
    refine qc (l := []) ⟨⟨_, _, _, rfl, rfl, rfl, rfl⟩, rfl, fun hc => q_move rfl, trivial⟩ rfl rfl ?_
    refine qc (l := []) ⟨⟨_, _, _, rfl, rfl, rfl, rfl⟩, rfl, fun hc => q_move rfl, trivial⟩ rfl rfl ?_
    refine qc (l := [16, 17]) ⟨⟨_, _, _, rfl, rfl, rfl, rfl⟩, rfl, fun hc => q_idx_l rfl rfl (idx_inv x5_h).1 (map_get (idx_inv x5_h).2.1) rfl, ⟨fun h => h, ⟨fun h => h, trivial⟩⟩⟩ rfl rfl ?_
    refine qc (l := [18]) ⟨⟨_, _, _, rfl, rfl, rfl, rfl⟩, rfl, fun hc => q_load1_q rfl, ⟨fun h => h, trivial⟩⟩ rfl rfl ?_
    refine qc (l := [19]) ⟨⟨_, _, _, rfl, rfl, rfl, rfl⟩, rfl, fun hc => q_geq rfl rfl, ⟨fun h => h, trivial⟩⟩ rfl rfl ?_
    refine qq rfl rfl (q_pickb rfl rfl rfl PB.v (PB.c (fun hp => by rw [hp]; rfl))) ?_
    refine qq rfl rfl (q_move rfl) ?_
    refine qc (l := []) ⟨⟨_, _, _, rfl, rfl, rfl, rfl⟩, rfl, fun hc => q_move rfl, trivial⟩ rfl rfl ?_
    refine qc (l := [23]) ⟨⟨_, _, _, rfl, rfl, rfl, rfl⟩, rfl, fun hc => q_gtr rfl rfl, ⟨fun h => h, trivial⟩⟩ rfl rfl ?_
    refine qc (l := [24]) ⟨⟨_, _, _, rfl, rfl, rfl, rfl⟩, rfl, fun hc => q_move rfl, ⟨fun h => h, trivial⟩⟩ rfl rfl ?_
    refine qc (l := []) ⟨⟨_, _, _, rfl, rfl, rfl, rfl⟩, rfl, fun hc => q_move rfl, trivial⟩ rfl rfl ?_
    refine qc (l := []) ⟨⟨_, _, _, rfl, rfl, rfl, rfl⟩, rfl, fun hc => q_move rfl, trivial⟩ rfl rfl ?_
    refine qc (l := [26, 27]) ⟨⟨_, _, _, rfl, rfl, rfl, rfl⟩, rfl, fun hc => q_idx_l rfl rfl (idx_inv x5_h).1 (map_get (idx_inv x5_h).2.1) rfl, ⟨fun h => h, ⟨fun h => h, trivial⟩⟩⟩ rfl rfl ?_
    refine qc (l := [28]) ⟨⟨_, _, _, rfl, rfl, rfl, rfl⟩, rfl, fun hc => q_load1_q rfl, ⟨fun h => h, trivial⟩⟩ rfl rfl ?_
    refine qc (l := []) ⟨⟨_, _, _, rfl, rfl, rfl, rfl⟩, rfl, fun hc => q_move rfl, trivial⟩ rfl rfl ?_
    refine qc (l := []) ⟨⟨_, _, _, rfl, rfl, rfl, rfl⟩, rfl, fun hc => q_move rfl, trivial⟩ rfl rfl ?_
    refine qc (l := [31]) ⟨⟨_, _, _, rfl, rfl, rfl, rfl⟩, rfl, fun hc => q_sub rfl rfl, ⟨fun h => h, trivial⟩⟩ rfl rfl ?_
    refine qc (l := [30, 32]) ⟨⟨_, _, _, rfl, rfl, rfl, rfl⟩, rfl, fun hc => q_idx_l rfl rfl (idx_inv (x8_h hc)).1 (map_get (idx_inv (x8_h hc)).2.1) rfl, ⟨fun h => h, ⟨fun h => h, trivial⟩⟩⟩ rfl rfl ?_
    refine qc (l := [33]) ⟨⟨_, _, _, rfl, rfl, rfl, rfl⟩, rfl, fun hc => q_load1_q rfl, ⟨fun h => h, trivial⟩⟩ rfl rfl ?_
    refine qc (l := [29, 34]) ⟨⟨_, _, _, rfl, rfl, rfl, rfl⟩, rfl, fun hc => q_leq rfl rfl, ⟨fun h => h, ⟨fun h => h, trivial⟩⟩⟩ rfl rfl ?_
    refine qc (l := [25]) ⟨⟨_, _, _, rfl, rfl, rfl, rfl⟩, rfl, fun hc => q_pickb rfl rfl rfl (PB.c (fun hp => by simp_all)) PB.v, ⟨fun h => h, trivial⟩⟩ rfl rfl ?_
    refine qq rfl rfl (q_pickb rfl rfl rfl PB.v (PB.c (fun hp => by rw [hp]; rfl))) ?_
    refine qn ?_
    refine ev_cond rfl (fun hc => ?_) (fun hc => ?_)
    · replace H := ct hc H
      refine ev_seq ?_
      refine ev_region ?_
      refine rq rfl rfl (q_assign rfl) ?_
      refine run_nil ?_
      refine ev_ret ?_
      exact ret_ok [vb false] (congrArg (fun r : Bool => vb r) (Option.some.inj H)) rfl (.cons (.tmp rfl (.v _ _ (fun _ => rfl))) .nil)
    · replace H := cf hc H
      refine ev_skip ?_
      refine ev_region ?_
      refine rq rfl rfl (q_move rfl) ?_
      refine rq rfl rfl (q_add rfl rfl) ?_
      refine rq rfl rfl (q_assign rfl) ?_
      refine run_nil ?_
      exact ⟨_, _, w6, H, rfl, shift_mk ⟨⟨_, rfl, .rfl⟩, ⟨⟨_, rfl, (.flat rfl)⟩, ⟨⟨_, rfl, (.eq (congrArg (fun n => D.v true (vi n)) (wrap_succ w6 w7)))⟩, trivial⟩⟩⟩ trivial rfl rfl⟩
  · replace H := forL_out hc H
    refine ev_exit ?_
    refine ev_seq ?_
    refine ev_region ?_
    refine rq rfl rfl (q_move rfl) ?_
    refine rq rfl rfl (q_len_t rfl) ?_
    refine rq rfl rfl (q_leq rfl rfl) ?_
    refine rq rfl rfl (q_assign rfl) ?_
    refine run_nil ?_
    refine ev_ret ?_
    exact ret_ok [vb (decide (((a0.length : Nat) : Int) ≤ 1024))] (congrArg (fun r : Bool => vb r) (Option.some.inj H)) rfl (.cons (.tmp rfl (.v _ _ (fun _ => rfl))) .nil)
def backflushref40_has_m (a0 : List Int) (a1 : Int) : Option Bool := forL a0 (fun (k3 : Nat) (x5 : Int) (s1 : Unit) loop2 => bif x5 == a1 then (some true) else (loop2 ())) (fun (s1 : Unit) => some false) ()
theorem backflushref40_has_c {a0 : List Int} {a1 : Int} {r : Bool} (H : backflushref40_has_m a0 a1 = some r) : PureC Try.prog true 53 [V.l 1 (List.map vi a0), vi a1] (vb r) := by
  unfold backflushref40_has_m at H
  refine pure_intro (N := 18) Try.func53 rfl rfl rfl rfl fun C hO => ?_
  refine ev_shift (shift_mk (fs := [(0, .v false (V.l 1 (List.map vi a0))), (1, .v true (vi a1))]) (es := []) ⟨⟨_, rfl, .rfl⟩, ⟨⟨_, rfl, (.flat rfl)⟩, trivial⟩⟩ trivial rfl rfl) ?_
  refine ev_seq ?_
  refine ev_region ?_
  refine rq rfl rfl (q_assign rfl) ?_
  refine run_nil ?_
  refine ev_seq ?_
  refine ev_seq ?_
  refine ev_region ?_
  refine rq rfl rfl (q_assign rfl) ?_
  refine run_nil ?_
  refine ev_block ?_
  refine ev_len_l (s := 0) rfl fun w7 => ?_
  rw [List.length_map] at w7
  refine ev_forL H (fun k3 s1 σ' => σ' = mkS [(0, .v false (V.l 1 (List.map vi a0))), (1, .v true (vi a1)), (4, .v true (vb false)), (5, .v true (vi ((k3 : Nat) : Int)))] [] [] (0, false)) ⟨_, rfl, shift_mk ⟨⟨_, rfl, .rfl⟩, ⟨⟨_, rfl, (.flat rfl)⟩, ⟨⟨_, rfl, (.flat rfl)⟩, ⟨⟨_, rfl, .rfl⟩, trivial⟩⟩⟩⟩ trivial rfl rfl⟩ ?_
  rintro k3 s1 _ rfl _ H
  refine ev_seq ?_
  refine ev_seq ?_
  refine ev_region ?_
  refine rq rfl rfl (q_move rfl) ?_
  refine rq rfl rfl (q_move rfl) ?_
  refine rq rfl rfl (q_len_t rfl) ?_
  refine rq rfl rfl (q_lss rfl rfl) ?_
  refine run_nil ?_
  refine ev_cond rfl (fun hc => ?_) (fun hc => ?_)
  · obtain ⟨x5, w6, x5_g, H⟩ := forL_in hc H
    have x5_h : idx a0 ((k3 : Nat) : Int) = some x5 := by rw [idx_nat]; exact x5_g
    refine ev_skip ?_
    refine ev_seq ?_
    refine ev_block ?_
    refine ev_seq ?_
    refine ev_region ?_
    refine rq rfl rfl (q_move rfl) ?_
    refine rq rfl rfl (q_move rfl) ?_
    refine rq rfl rfl (q_idx_l rfl rfl (idx_inv x5_h).1 (map_get (idx_inv x5_h).2.1) rfl) ?_
    refine rq rfl rfl (q_load1_q rfl) ?_
    refine rq rfl rfl (q_move rfl) ?_
    refine rq rfl rfl (q_eqi rfl rfl) ?_
    refine run_nil ?_
    refine ev_cond rfl (fun hc => ?_) (fun hc => ?_)
    · replace H := ct hc H
      refine ev_seq ?_
      refine ev_region ?_
      refine rq rfl rfl (q_assign rfl) ?_
      refine run_nil ?_
      refine ev_ret ?_
      exact ret_ok [vb true] (congrArg (fun r : Bool => vb r) (Option.some.inj H)) rfl (.cons (.tmp rfl (.v _ _ (fun _ => rfl))) .nil)
    · replace H := cf hc H
      refine ev_skip ?_
      refine ev_region ?_
      refine rq rfl rfl (q_move rfl) ?_
      refine rq rfl rfl (q_add rfl rfl) ?_
      refine rq rfl rfl (q_assign rfl) ?_
      refine run_nil ?_
      exact ⟨_, _, w6, H, rfl, shift_mk ⟨⟨_, rfl, .rfl⟩, ⟨⟨_, rfl, (.flat rfl)⟩, ⟨⟨_, rfl, (.flat rfl)⟩, ⟨⟨_, rfl, (.eq (congrArg (fun n => D.v true (vi n)) (wrap_succ w6 w7)))⟩, trivial⟩⟩⟩⟩ trivial rfl rfl⟩
  · replace H := forL_out hc H
    refine ev_exit ?_
    refine ev_seq ?_
    refine ev_region ?_
    refine rq rfl rfl (q_assign rfl) ?_
    refine run_nil ?_
    refine ev_ret ?_
    exact ret_ok [vb false] (congrArg (fun r : Bool => vb r) (Option.some.inj H)) rfl (.cons (.tmp rfl (.v _ _ (fun _ => rfl))) .nil)
def backflushref40_State_m (a0 : GWorld) (a1 : Int) (a2 : Int) (a3 : Int) (a4 : List GSpec) (a5 : List Int) : Option (Int × (List GRead) × Int) := bd (backflushref40_specs_m a4) fun x2 => bdc (!(!x2)) (backflushref40_lots_m a5) fun x3 => bif bif !x2 then true else !x3 then (some (0, [], 400)) else (bd (backflushref18_Lot_m a0 a1 a2 a3) fun x4 => bif !x4.2.2 then (some (3, x4.2.1, 0)) else (bd (backflushref40_Certify_m a0 a1 a2 a3 a4) fun x6 => bif x4.1.state == 3 then (some (3, x6.2.1, 0)) else (bdc (!(x4.1.state == 2)) (backflushref40_has_m a5 a1) fun x8 => bif bif x4.1.state == 2 then true else x8 then (some (2, x6.2.1, 0)) else (bif bif bif x4.1.state == 1 then true else decide (x4.1.expiry ≤ a2) then true else !x6.1.good then (some (1, x6.2.1, 0)) else (some (0, x6.2.1, 0))))))
theorem backflushref40_State_c {a0 : GWorld} {a1 : Int} {a2 : Int} {a3 : Int} {a4 : List GSpec} {a5 : List Int} {r : Int × (List GRead) × Int} (H : backflushref40_State_m a0 a1 a2 a3 a4 a5 = some r) : PureC Try.prog true 26 [GWorld.e a0, vi a1, vi a2, vi a3, V.l 3 (List.map GSpec.e a4), V.l 1 (List.map vi a5)] (V.t [vi r.1, V.l 5 (List.map GRead.e r.2.1), vi r.2.2]) := by
  unfold backflushref40_State_m at H
  refine pure_intro (N := 80) Try.func26 rfl rfl rfl rfl fun C hO => ?_
  refine ev_shift (shift_mk (fs := [(0, .v false (GWorld.e a0)), (1, .v true (vi a1)), (2, .v true (vi a2)), (3, .v true (vi a3)), (4, .v false (V.l 3 (List.map GSpec.e a4))), (5, .v false (V.l 1 (List.map vi a5)))]) (es := []) ⟨⟨_, rfl, .rfl⟩, ⟨⟨_, rfl, (.flat rfl)⟩, ⟨⟨_, rfl, (.flat rfl)⟩, ⟨⟨_, rfl, (.flat rfl)⟩, ⟨⟨_, rfl, .rfl⟩, ⟨⟨_, rfl, .rfl⟩, trivial⟩⟩⟩⟩⟩⟩ trivial rfl rfl) ?_
  refine ev_seq ?_
  refine ev_region ?_
  refine re rfl (e_box 6 0 rfl rfl rfl) ?_; rintro _ ⟨b1, rfl⟩
  refine rq rfl rfl (q_assign rfl) ?_
  refine rq rfl rfl (q_assign rfl) ?_
  refine rq rfl rfl (q_assign rfl) ?_
  refine run_nil ?_
  refine ev_seq ?_
  refine ev_seq ?_
  refine ev_region ?_
  refine rq rfl rfl (q_move rfl) ?_
  obtain ⟨x2, x2_h, H⟩ := bd_inv H
  refine rq rfl rfl (q_call rfl (.v _ _ (fun e => nomatch e)) (.v rfl ArgsOk.nil) inferInstance (backflushref40_specs_c  x2_h)) ?_
  refine rq rfl rfl (q_not rfl) ?_
  refine rq rfl rfl (q_move rfl) ?_
  refine rqc (l := []) ⟨⟨_, _, _, rfl, rfl, rfl, rfl⟩, rfl, fun hc => q_move rfl, trivial⟩ rfl ?_
  obtain ⟨x3, x3_h, _, H⟩ := bdc_inv H
  refine rqc (l := [25]) ⟨⟨_, _, _, rfl, rfl, rfl, rfl⟩, rfl, fun hc => q_call rfl (.v _ _ (fun e => nomatch e)) (.v rfl ArgsOk.nil) inferInstance (backflushref40_lots_c  (x3_h hc)), ⟨fun h => h, trivial⟩⟩ rfl ?_
  refine rqc (l := [26]) ⟨⟨_, _, _, rfl, rfl, rfl, rfl⟩, rfl, fun hc => q_not rfl, ⟨fun h => h, trivial⟩⟩ rfl ?_
  refine rq rfl rfl (q_pickb rfl rfl rfl PB.v (PB.c (fun hp => by rw [hp]; rfl))) ?_
  refine run_nil ?_
  refine ev_cond rfl (fun hc => ?_) (fun hc => ?_)
  · replace H := ct hc H
    refine ev_seq ?_
    refine ev_region ?_
    refine rq rfl rfl (q_assign rfl) ?_
    refine rq rfl rfl (q_assign rfl) ?_
    refine rq rfl rfl (q_assign rfl) ?_
    refine run_nil ?_
    refine ev_ret ?_
    exact ret_ok [vi 0, V.l 5 (List.map GRead.e []), vi 400] (congrArg (fun r : Int × (List GRead) × Int => V.t [vi r.1, V.l 5 (List.map GRead.e r.2.1), vi r.2.2]) (Option.some.inj H)) rfl (.cons (.tmp rfl (.v _ _ (fun _ => rfl))) (.cons (.tmp rfl (.nil _ _)) (.cons (.tmp rfl (.v _ _ (fun _ => rfl))) .nil)))
  · replace H := cf hc H
    refine ev_skip ?_
    refine ev_seq ?_
    refine ev_region ?_
    refine rq rfl rfl (q_loadN rfl rfl rfl rfl) ?_
    refine rq rfl rfl (q_move rfl) ?_
    refine rq rfl rfl (q_move rfl) ?_
    refine rq rfl rfl (q_move rfl) ?_
    obtain ⟨x4, x4_h, H⟩ := bd_inv H
    refine rq rfl rfl (q_call rfl (.v _ _ (fun e => nomatch e)) (.v rfl (.v rfl (.v rfl (.v rfl ArgsOk.nil)))) inferInstance (backflushref18_Lot_c  x4_h)) ?_
    refine rq rfl rfl (q_move rfl) ?_
    refine rq rfl rfl (q_extract rfl rfl) ?_
    refine rq rfl rfl (q_extract rfl rfl) ?_
    refine rq rfl rfl (q_extract rfl rfl) ?_
    refine re rfl (e_alloc 15 0 rfl rfl) ?_; rintro _ ⟨b5, rfl⟩
    refine re rfl (e_store rfl rfl rfl rfl rfl (Nat.le_of_ble_eq_true rfl) rfl) ?_; rintro _ rfl
    refine rq rfl rfl (q_assign rfl) ?_
    refine rq rfl rfl (q_assign rfl) ?_
    refine run_nil ?_
    refine ev_seq ?_
    refine ev_seq ?_
    refine ev_region ?_
    refine rq rfl rfl (q_move rfl) ?_
    refine rq rfl rfl (q_not rfl) ?_
    refine run_nil ?_
    refine ev_cond rfl (fun hc => ?_) (fun hc => ?_)
    · replace H := ct hc H
      refine ev_seq ?_
      refine ev_region ?_
      refine rq rfl rfl (q_move rfl) ?_
      refine rq rfl rfl (q_assign rfl) ?_
      refine rq rfl rfl (q_assign rfl) ?_
      refine rq rfl rfl (q_assign rfl) ?_
      refine run_nil ?_
      refine ev_ret ?_
      exact ret_ok [vi 3, V.l 5 (List.map GRead.e x4.2.1), vi 0] (congrArg (fun r : Int × (List GRead) × Int => V.t [vi r.1, V.l 5 (List.map GRead.e r.2.1), vi r.2.2]) (Option.some.inj H)) rfl (.cons (.tmp rfl (.v _ _ (fun _ => rfl))) (.cons (.tmp rfl (.v _ _ (fun _ => rfl))) (.cons (.tmp rfl (.v _ _ (fun _ => rfl))) .nil)))
    · replace H := cf hc H
      refine ev_skip ?_
      refine ev_seq ?_
      refine ev_region ?_
      refine rq rfl rfl (q_loadN rfl rfl rfl rfl) ?_
      refine rq rfl rfl (q_move rfl) ?_
      refine rq rfl rfl (q_move rfl) ?_
      refine rq rfl rfl (q_move rfl) ?_
      refine rq rfl rfl (q_move rfl) ?_
      obtain ⟨x6, x6_h, H⟩ := bd_inv H
      refine rq rfl rfl (q_call rfl (.v _ _ (fun e => nomatch e)) (.v rfl (.v rfl (.v rfl (.v rfl (.v rfl ArgsOk.nil))))) inferInstance (backflushref40_Certify_c  x6_h)) ?_
      refine rq rfl rfl (q_move rfl) ?_
      refine rq rfl rfl (q_extract rfl rfl) ?_
      refine rq rfl rfl (q_extract rfl rfl) ?_
      refine rq rfl rfl (q_extract rfl rfl) ?_
      refine re rfl (e_alloc 18 0 rfl rfl) ?_; rintro _ ⟨b7, rfl⟩
      refine re rfl (e_store rfl rfl rfl rfl rfl (Nat.le_of_ble_eq_true rfl) rfl) ?_; rintro _ rfl
      refine rq rfl rfl (q_assign rfl) ?_
      refine rq rfl rfl (q_assign rfl) ?_
      refine run_nil ?_
      refine ev_seq ?_
      refine ev_seq ?_
      refine ev_region ?_
      refine rq rfl rfl (q_fld_p rfl) ?_
      refine rq rfl rfl (q_load1 rfl rfl rfl) ?_
      refine rq rfl rfl (q_eqi rfl rfl) ?_
      refine run_nil ?_
      refine ev_cond rfl (fun hc => ?_) (fun hc => ?_)
      · replace H := ct hc H
        refine ev_seq ?_
        refine ev_region ?_
        refine rq rfl rfl (q_move rfl) ?_
        refine rq rfl rfl (q_assign rfl) ?_
        refine rq rfl rfl (q_assign rfl) ?_
        refine rq rfl rfl (q_assign rfl) ?_
        refine run_nil ?_
        refine ev_ret ?_
        exact ret_ok [vi 3, V.l 5 (List.map GRead.e x6.2.1), vi 0] (congrArg (fun r : Int × (List GRead) × Int => V.t [vi r.1, V.l 5 (List.map GRead.e r.2.1), vi r.2.2]) (Option.some.inj H)) rfl (.cons (.tmp rfl (.v _ _ (fun _ => rfl))) (.cons (.tmp rfl (.v _ _ (fun _ => rfl))) (.cons (.tmp rfl (.v _ _ (fun _ => rfl))) .nil)))
      · replace H := cf hc H
        refine ev_skip ?_
        refine ev_seq ?_
        refine ev_seq ?_
        refine ev_region ?_
        refine rq rfl rfl (q_fld_p rfl) ?_
        refine rq rfl rfl (q_load1 rfl rfl rfl) ?_
        refine rq rfl rfl (q_eqi rfl rfl) ?_
        refine rq rfl rfl (q_move rfl) ?_
        refine rqc (l := []) ⟨⟨_, _, _, rfl, rfl, rfl, rfl⟩, rfl, fun hc => q_move rfl, trivial⟩ rfl ?_
        refine rqc (l := []) ⟨⟨_, _, _, rfl, rfl, rfl, rfl⟩, rfl, fun hc => q_move rfl, trivial⟩ rfl ?_
        obtain ⟨x8, x8_h, _, H⟩ := bdc_inv H
        refine rqc (l := [59, 60]) ⟨⟨_, _, _, rfl, rfl, rfl, rfl⟩, rfl, fun hc => q_call rfl (.v _ _ (fun e => nomatch e)) (.v rfl (.v rfl ArgsOk.nil)) inferInstance (backflushref40_has_c  (x8_h hc)), ⟨fun h => h, ⟨fun h => h, trivial⟩⟩⟩ rfl ?_
        refine rq rfl rfl (q_pickb rfl rfl rfl PB.v (PB.c (fun hp => by rw [hp]; rfl))) ?_
        refine run_nil ?_
        refine ev_cond rfl (fun hc => ?_) (fun hc => ?_)
        · replace H := ct hc H
          refine ev_seq ?_
          refine ev_region ?_
          refine rq rfl rfl (q_move rfl) ?_
          refine rq rfl rfl (q_assign rfl) ?_
          refine rq rfl rfl (q_assign rfl) ?_
          refine rq rfl rfl (q_assign rfl) ?_
          refine run_nil ?_
          refine ev_ret ?_
          exact ret_ok [vi 2, V.l 5 (List.map GRead.e x6.2.1), vi 0] (congrArg (fun r : Int × (List GRead) × Int => V.t [vi r.1, V.l 5 (List.map GRead.e r.2.1), vi r.2.2]) (Option.some.inj H)) rfl (.cons (.tmp rfl (.v _ _ (fun _ => rfl))) (.cons (.tmp rfl (.v _ _ (fun _ => rfl))) (.cons (.tmp rfl (.v _ _ (fun _ => rfl))) .nil)))
        · replace H := cf hc H
          refine ev_skip ?_
          refine ev_seq ?_
          refine ev_seq ?_
          refine ev_region ?_
          refine rq rfl rfl (q_fld_p rfl) ?_
          refine rq rfl rfl (q_load1 rfl rfl rfl) ?_
          refine rq rfl rfl (q_eqi rfl rfl) ?_
          refine rq rfl rfl (q_move rfl) ?_
          refine rqc (l := []) ⟨⟨_, _, _, rfl, rfl, rfl, rfl⟩, rfl, fun hc => q_move rfl, trivial⟩ rfl ?_
          refine rqc (l := []) ⟨⟨_, _, _, rfl, rfl, rfl, rfl⟩, rfl, fun hc => q_fld_p rfl, trivial⟩ rfl ?_
          refine rqc (l := [69]) ⟨⟨_, _, _, rfl, rfl, rfl, rfl⟩, rfl, fun hc => q_load1 rfl rfl rfl, ⟨fun h => h, trivial⟩⟩ rfl ?_
          refine rqc (l := [68, 70]) ⟨⟨_, _, _, rfl, rfl, rfl, rfl⟩, rfl, fun hc => q_geq rfl rfl, ⟨fun h => h, ⟨fun h => h, trivial⟩⟩⟩ rfl ?_
          refine rq rfl rfl (q_pickb rfl rfl rfl PB.v (PB.c (fun hp => by rw [hp]; rfl))) ?_
          refine rq rfl rfl (q_move rfl) ?_
          refine rqc (l := []) ⟨⟨_, _, _, rfl, rfl, rfl, rfl⟩, rfl, fun hc => q_fld_p rfl, trivial⟩ rfl ?_
          refine rqc (l := [74]) ⟨⟨_, _, _, rfl, rfl, rfl, rfl⟩, rfl, fun hc => q_load1 rfl rfl rfl, ⟨fun h => h, trivial⟩⟩ rfl ?_
          refine rqc (l := [75]) ⟨⟨_, _, _, rfl, rfl, rfl, rfl⟩, rfl, fun hc => q_not rfl, ⟨fun h => h, trivial⟩⟩ rfl ?_
          refine rq rfl rfl (q_pickb rfl rfl rfl PB.v (PB.c (fun hp => by rw [hp]; rfl))) ?_
          refine run_nil ?_
          refine ev_cond rfl (fun hc => ?_) (fun hc => ?_)
          · replace H := ct hc H
            refine ev_seq ?_
            refine ev_region ?_
            refine rq rfl rfl (q_move rfl) ?_
            refine rq rfl rfl (q_assign rfl) ?_
            refine rq rfl rfl (q_assign rfl) ?_
            refine rq rfl rfl (q_assign rfl) ?_
            refine run_nil ?_
            refine ev_ret ?_
            exact ret_ok [vi 1, V.l 5 (List.map GRead.e x6.2.1), vi 0] (congrArg (fun r : Int × (List GRead) × Int => V.t [vi r.1, V.l 5 (List.map GRead.e r.2.1), vi r.2.2]) (Option.some.inj H)) rfl (.cons (.tmp rfl (.v _ _ (fun _ => rfl))) (.cons (.tmp rfl (.v _ _ (fun _ => rfl))) (.cons (.tmp rfl (.v _ _ (fun _ => rfl))) .nil)))
          · replace H := cf hc H
            refine ev_skip ?_
            refine ev_seq ?_
            refine ev_region ?_
            refine rq rfl rfl (q_move rfl) ?_
            refine rq rfl rfl (q_assign rfl) ?_
            refine rq rfl rfl (q_assign rfl) ?_
            refine rq rfl rfl (q_assign rfl) ?_
            refine run_nil ?_
            refine ev_ret ?_
            exact ret_ok [vi 0, V.l 5 (List.map GRead.e x6.2.1), vi 0] (congrArg (fun r : Int × (List GRead) × Int => V.t [vi r.1, V.l 5 (List.map GRead.e r.2.1), vi r.2.2]) (Option.some.inj H)) rfl (.cons (.tmp rfl (.v _ _ (fun _ => rfl))) (.cons (.tmp rfl (.v _ _ (fun _ => rfl))) (.cons (.tmp rfl (.v _ _ (fun _ => rfl))) .nil)))
def backflushlaw40_QualityStateSpec_m (a0 : GWorld) (a1 : Int) (a2 : GCertificate) (a3 : Int) (a4 : Int) (a5 : List GSpec) (a6 : List Int) : Option Bool := bd (backflushlaw40_sane_m) fun x3 => bif !x3 then (some false) else (bd (backflushref40_Few_m a0 a5 a6) fun x4 => bif bif !x4 then true else decide (20 < ((a2.results.length : Nat) : Int)) then (some true) else (bd (quality_Check_m a0 a2 a3 a4 a5) fun x5 => bd (backflushref40_Check_m a0 a2 a3 a4 a5) fun x6 => bd (quality_State_m a0 a1 a3 a4 a5 a6) fun x7 => bd (backflushref40_State_m a0 a1 a3 a4 a5 a6) fun x8 => bdc (bif bif x5.1 == x6.1 then x5.2 == x6.2 else false then x7.1 == x8.1 else false) (backflushref04_SameReads_m x7.2.1 x8.2.1) fun x9 => some (bif bif bif bif x5.1 == x6.1 then x5.2 == x6.2 else false then x7.1 == x8.1 else false then x9 else false then x7.2.2 == x8.2.2 else false)))
theorem backflushlaw40_QualityStateSpec_c {a0 : GWorld} {a1 : Int} {a2 : GCertificate} {a3 : Int} {a4 : Int} {a5 : List GSpec} {a6 : List Int} {r : Bool} (H : backflushlaw40_QualityStateSpec_m a0 a1 a2 a3 a4 a5 a6 = some r) : PureC Try.prog true 4 [GWorld.e a0, vi a1, GCertificate.e a2, vi a3, vi a4, V.l 3 (List.map GSpec.e a5), V.l 1 (List.map vi a6)] (vb r) := by
  unfold backflushlaw40_QualityStateSpec_m at H
  refine pure_intro (N := 101) Try.func4 rfl rfl rfl rfl fun C hO => ?_
  refine ev_shift (shift_mk (fs := [(0, .v false (GWorld.e a0)), (1, .v true (vi a1)), (2, .v false (GCertificate.e a2)), (3, .v true (vi a3)), (4, .v true (vi a4)), (5, .v false (V.l 3 (List.map GSpec.e a5))), (6, .v false (V.l 1 (List.map vi a6)))]) (es := []) ⟨⟨_, rfl, .rfl⟩, ⟨⟨_, rfl, (.flat rfl)⟩, ⟨⟨_, rfl, .rfl⟩, ⟨⟨_, rfl, (.flat rfl)⟩, ⟨⟨_, rfl, (.flat rfl)⟩, ⟨⟨_, rfl, .rfl⟩, ⟨⟨_, rfl, .rfl⟩, trivial⟩⟩⟩⟩⟩⟩⟩ trivial rfl rfl) ?_
  refine ev_seq ?_
  refine ev_region ?_
  refine re rfl (e_box 7 0 rfl rfl rfl) ?_; rintro _ ⟨b1, rfl⟩
  refine re rfl (e_box 9 0 rfl rfl rfl) ?_; rintro _ ⟨b2, rfl⟩
  refine rq rfl rfl (q_assign rfl) ?_
  refine run_nil ?_
  refine ev_seq ?_
  refine ev_seq ?_
  refine ev_region ?_
  obtain ⟨x3, x3_h, H⟩ := bd_inv H
  refine rq rfl rfl (q_call rfl (.v _ _ (fun e => nomatch e)) ArgsOk.nil inferInstance (backflushlaw40_sane_c  x3_h)) ?_
  refine rq rfl rfl (q_not rfl) ?_
  refine run_nil ?_
  refine ev_cond rfl (fun hc => ?_) (fun hc => ?_)
  · replace H := ct hc H
    refine ev_seq ?_
    refine ev_region ?_
    refine rq rfl rfl (q_assign rfl) ?_
    refine run_nil ?_
    refine ev_ret ?_
    exact ret_ok [vb false] (congrArg (fun r : Bool => vb r) (Option.some.inj H)) rfl (.cons (.tmp rfl (.v _ _ (fun _ => rfl))) .nil)
  · replace H := cf hc H
    refine ev_skip ?_
    refine ev_seq ?_
    refine ev_seq ?_
    refine ev_region ?_
    refine rq rfl rfl (q_loadN rfl rfl rfl rfl) ?_
    refine rq rfl rfl (q_move rfl) ?_
    refine rq rfl rfl (q_move rfl) ?_
    obtain ⟨x4, x4_h, H⟩ := bd_inv H
    refine rq rfl rfl (q_call rfl (.v _ _ (fun e => nomatch e)) (.v rfl (.v rfl (.v rfl ArgsOk.nil))) inferInstance (backflushref40_Few_c  x4_h)) ?_
    refine rq rfl rfl (q_not rfl) ?_
    refine rq rfl rfl (q_move rfl) ?_
    refine rqc (l := []) ⟨⟨_, _, _, rfl, rfl, rfl, rfl⟩, rfl, fun hc => q_fld_p rfl, trivial⟩ rfl ?_
    refine rqc (l := [33]) ⟨⟨_, _, _, rfl, rfl, rfl, rfl⟩, rfl, fun hc => q_load1 rfl rfl rfl, ⟨fun h => h, trivial⟩⟩ rfl ?_
    refine rqc (l := [34]) ⟨⟨_, _, _, rfl, rfl, rfl, rfl⟩, rfl, fun hc => q_len_t rfl, ⟨fun h => h, trivial⟩⟩ rfl ?_
    refine rqc (l := [35]) ⟨⟨_, _, _, rfl, rfl, rfl, rfl⟩, rfl, fun hc => q_gtr rfl rfl, ⟨fun h => h, trivial⟩⟩ rfl ?_
    refine rq rfl rfl (q_pickb rfl rfl rfl PB.v (PB.c (fun hp => by rw [hp]; rfl))) ?_
    refine run_nil ?_
    refine ev_cond rfl (fun hc => ?_) (fun hc => ?_)
    · replace H := ct hc H
      refine ev_seq ?_
      refine ev_region ?_
      refine rq rfl rfl (q_assign rfl) ?_
      refine run_nil ?_
      refine ev_ret ?_
      exact ret_ok [vb true] (congrArg (fun r : Bool => vb r) (Option.some.inj H)) rfl (.cons (.tmp rfl (.v _ _ (fun _ => rfl))) .nil)
    · replace H := cf hc H
      refine ev_skip ?_
      refine ev_seq ?_
      refine ev_region ?_
      refine rq rfl rfl (q_loadN rfl rfl rfl rfl) ?_
      refine rq rfl rfl (q_loadN rfl rfl rfl rfl) ?_
      refine rq rfl rfl (q_move rfl) ?_
      refine rq rfl rfl (q_move rfl) ?_
      refine rq rfl rfl (q_move rfl) ?_
      obtain ⟨x5, x5_h, H⟩ := bd_inv H
      refine rq rfl rfl (q_call rfl (.v _ _ (fun e => nomatch e)) (.v rfl (.v rfl (.v rfl (.v rfl (.v rfl ArgsOk.nil))))) inferInstance (quality_Check_c  x5_h)) ?_
      refine rq rfl rfl (q_move rfl) ?_
      refine rq rfl rfl (q_extract rfl rfl) ?_
      refine rq rfl rfl (q_extract rfl rfl) ?_
      refine rq rfl rfl (q_assign rfl) ?_
      refine rq rfl rfl (q_assign rfl) ?_
      refine run_nil ?_
      refine ev_seq ?_
      refine ev_region ?_
      refine rq rfl rfl (q_loadN rfl rfl rfl rfl) ?_
      refine rq rfl rfl (q_loadN rfl rfl rfl rfl) ?_
      refine rq rfl rfl (q_move rfl) ?_
      refine rq rfl rfl (q_move rfl) ?_
      refine rq rfl rfl (q_move rfl) ?_
      obtain ⟨x6, x6_h, H⟩ := bd_inv H
      refine rq rfl rfl (q_call rfl (.v _ _ (fun e => nomatch e)) (.v rfl (.v rfl (.v rfl (.v rfl (.v rfl ArgsOk.nil))))) inferInstance (backflushref40_Check_c  x6_h)) ?_
      refine rq rfl rfl (q_move rfl) ?_
      refine rq rfl rfl (q_extract rfl rfl) ?_
      refine rq rfl rfl (q_extract rfl rfl) ?_
      refine rq rfl rfl (q_assign rfl) ?_
      refine rq rfl rfl (q_assign rfl) ?_
      refine run_nil ?_
      refine ev_seq ?_
      refine ev_region ?_
      refine rq rfl rfl (q_loadN rfl rfl rfl rfl) ?_
      refine rq rfl rfl (q_move rfl) ?_
      refine rq rfl rfl (q_move rfl) ?_
      refine rq rfl rfl (q_move rfl) ?_
      refine rq rfl rfl (q_move rfl) ?_
      refine rq rfl rfl (q_move rfl) ?_
      obtain ⟨x7, x7_h, H⟩ := bd_inv H
      refine rq rfl rfl (q_call rfl (.v _ _ (fun e => nomatch e)) (.v rfl (.v rfl (.v rfl (.v rfl (.v rfl (.v rfl ArgsOk.nil)))))) inferInstance (quality_State_c  x7_h)) ?_
      refine rq rfl rfl (q_move rfl) ?_
      refine rq rfl rfl (q_extract rfl rfl) ?_
      refine rq rfl rfl (q_extract rfl rfl) ?_
      refine rq rfl rfl (q_extract rfl rfl) ?_
      refine rq rfl rfl (q_assign rfl) ?_
      refine rq rfl rfl (q_assign rfl) ?_
      refine rq rfl rfl (q_assign rfl) ?_
      refine run_nil ?_
      refine ev_seq ?_
      refine ev_region ?_
      refine rq rfl rfl (q_loadN rfl rfl rfl rfl) ?_
      refine rq rfl rfl (q_move rfl) ?_
      refine rq rfl rfl (q_move rfl) ?_
      refine rq rfl rfl (q_move rfl) ?_
      refine rq rfl rfl (q_move rfl) ?_
      refine rq rfl rfl (q_move rfl) ?_
      obtain ⟨x8, x8_h, H⟩ := bd_inv H
      refine rq rfl rfl (q_call rfl (.v _ _ (fun e => nomatch e)) (.v rfl (.v rfl (.v rfl (.v rfl (.v rfl (.v rfl ArgsOk.nil)))))) inferInstance (backflushref40_State_c  x8_h)) ?_
      refine rq rfl rfl (q_move rfl) ?_
      refine rq rfl rfl (q_extract rfl rfl) ?_
      refine rq rfl rfl (q_extract rfl rfl) ?_
      refine rq rfl rfl (q_extract rfl rfl) ?_
      refine rq rfl rfl (q_assign rfl) ?_
      refine rq rfl rfl (q_assign rfl) ?_
      refine rq rfl rfl (q_assign rfl) ?_
      refine run_nil ?_
      refine ev_seq ?_
      refine ev_region ?_
      refine rq rfl rfl (q_move rfl) ?_
      refine rq rfl rfl (q_move rfl) ?_
      refine rq rfl rfl (q_eqb rfl rfl) ?_
      refine rq rfl rfl (q_move rfl) ?_
      refine rqc (l := []) ⟨⟨_, _, _, rfl, rfl, rfl, rfl⟩, rfl, fun hc => q_move rfl, trivial⟩ rfl ?_
      refine rqc (l := []) ⟨⟨_, _, _, rfl, rfl, rfl, rfl⟩, rfl, fun hc => q_move rfl, trivial⟩ rfl ?_
      refine rqc (l := [82, 83]) ⟨⟨_, _, _, rfl, rfl, rfl, rfl⟩, rfl, fun hc => q_eqi rfl rfl, ⟨fun h => h, ⟨fun h => h, trivial⟩⟩⟩ rfl ?_
      refine rq rfl rfl (q_pickb rfl rfl rfl (PB.c (fun hp => hp)) PB.v) ?_
      refine rq rfl rfl (q_move rfl) ?_
      refine rqc (l := []) ⟨⟨_, _, _, rfl, rfl, rfl, rfl⟩, rfl, fun hc => q_move rfl, trivial⟩ rfl ?_
      refine rqc (l := []) ⟨⟨_, _, _, rfl, rfl, rfl, rfl⟩, rfl, fun hc => q_move rfl, trivial⟩ rfl ?_
      refine rqc (l := [87, 88]) ⟨⟨_, _, _, rfl, rfl, rfl, rfl⟩, rfl, fun hc => q_eqi rfl rfl, ⟨fun h => h, ⟨fun h => h, trivial⟩⟩⟩ rfl ?_
      refine rq rfl rfl (q_pickb rfl rfl rfl (PB.c (fun hp => hp)) PB.v) ?_
      refine rq rfl rfl (q_move rfl) ?_
      refine rqc (l := []) ⟨⟨_, _, _, rfl, rfl, rfl, rfl⟩, rfl, fun hc => q_move rfl, trivial⟩ rfl ?_
      refine rqc (l := []) ⟨⟨_, _, _, rfl, rfl, rfl, rfl⟩, rfl, fun hc => q_move rfl, trivial⟩ rfl ?_
      obtain ⟨x9, x9_h, _, H⟩ := bdc_inv H
      refine rqc (l := [92, 93]) ⟨⟨_, _, _, rfl, rfl, rfl, rfl⟩, rfl, fun hc => q_call rfl (.v _ _ (fun e => nomatch e)) (.v rfl (.v rfl ArgsOk.nil)) inferInstance (backflushref04_SameReads_c  (x9_h hc)), ⟨fun h => h, ⟨fun h => h, trivial⟩⟩⟩ rfl ?_
      refine rq rfl rfl (q_pickb rfl rfl rfl (PB.c (fun hp => hp)) PB.v) ?_
      refine rq rfl rfl (q_move rfl) ?_
      refine rqc (l := []) ⟨⟨_, _, _, rfl, rfl, rfl, rfl⟩, rfl, fun hc => q_move rfl, trivial⟩ rfl ?_
      refine rqc (l := []) ⟨⟨_, _, _, rfl, rfl, rfl, rfl⟩, rfl, fun hc => q_move rfl, trivial⟩ rfl ?_
      refine rqc (l := [97, 98]) ⟨⟨_, _, _, rfl, rfl, rfl, rfl⟩, rfl, fun hc => q_eqi rfl rfl, ⟨fun h => h, ⟨fun h => h, trivial⟩⟩⟩ rfl ?_
      refine rq rfl rfl (q_pickb rfl rfl rfl (PB.c (fun hp => hp)) PB.v) ?_
      refine rq rfl rfl (q_assign rfl) ?_
      refine run_nil ?_
      refine ev_ret ?_
      exact ret_ok [vb (bif bif bif bif x5.1 == x6.1 then x5.2 == x6.2 else false then x7.1 == x8.1 else false then x9 else false then x7.2.2 == x8.2.2 else false)] (congrArg (fun r : Bool => vb r) (Option.some.inj H)) rfl (.cons (.tmp rfl (.v _ _ (fun _ => rfl))) .nil)
def backflushlaw40_QualityFree_m (a0 : GWorld) (a1 : Int) (a2 : Int) (a3 : Int) (a4 : List GSpec) (a5 : List Int) : Option Bool := bd (backflushlaw40_sane_m) fun x2 => bif !x2 then (some false) else (bd (backflushref40_Few_m a0 a4 a5) fun x3 => bif !x3 then (some true) else (bd (quality_State_m a0 a1 a2 a3 a4 a5) fun x4 => bif x4.2.2 != 0 then (some (x4.1 == 0)) else (bd (stock_Lot_m a0 a1 a2 a3) fun x5 => bif bif !x5.2.2 then true else x5.1.state == 3 then (some (x4.1 == 3)) else (forL a5 (fun (k9 : Nat) (x12 : Int) (s7 : Bool) loop8 => loop8 (bif s7 then x12 != a1 else false)) (fun (s7 : Bool) => forL a4 (fun (k17 : Nat) (x20 : GSpec) (s15 : Bool) loop16 => bd (facts_At_m a0.facts (⟨8, a1, x20.test⟩ : GKey) a2 a3) fun x24 => loop16 (bif bif bif bif s15 then x24.2 else false then decide (0 ≤ x24.1) else false then decide (x20.lo ≤ x24.1) else false then decide (x24.1 ≤ x20.hi) else false)) (fun (s15 : Bool) => some (bif x4.1 != 3 then s15 == (x4.1 == 0) else false)) s7) (bif x5.1.state == 0 then decide (a2 < x5.1.expiry) else false)))))
theorem backflushlaw40_QualityFree_c {a0 : GWorld} {a1 : Int} {a2 : Int} {a3 : Int} {a4 : List GSpec} {a5 : List Int} {r : Bool} (H : backflushlaw40_QualityFree_m a0 a1 a2 a3 a4 a5 = some r) : PureC Try.prog true 5 [GWorld.e a0, vi a1, vi a2, vi a3, V.l 3 (List.map GSpec.e a4), V.l 1 (List.map vi a5)] (vb r) := by
  unfold backflushlaw40_QualityFree_m at H
  refine pure_intro (N := 135) Try.func5 rfl rfl rfl rfl fun C hO => ?_
  refine ev_shift (shift_mk (fs := [(0, .v false (GWorld.e a0)), (1, .v true (vi a1)), (2, .v true (vi a2)), (3, .v true (vi a3)), (4, .v false (V.l 3 (List.map GSpec.e a4))), (5, .v false (V.l 1 (List.map vi a5)))]) (es := []) ⟨⟨_, rfl, .rfl⟩, ⟨⟨_, rfl, (.flat rfl)⟩, ⟨⟨_, rfl, (.flat rfl)⟩, ⟨⟨_, rfl, (.flat rfl)⟩, ⟨⟨_, rfl, .rfl⟩, ⟨⟨_, rfl, .rfl⟩, trivial⟩⟩⟩⟩⟩⟩ trivial rfl rfl) ?_
  refine ev_seq ?_
  refine ev_region ?_
  refine re rfl (e_box 6 0 rfl rfl rfl) ?_; rintro _ ⟨b1, rfl⟩
  refine rq rfl rfl (q_assign rfl) ?_
  refine run_nil ?_
  refine ev_seq ?_
  refine ev_seq ?_
  refine ev_region ?_
  obtain ⟨x2, x2_h, H⟩ := bd_inv H
  refine rq rfl rfl (q_call rfl (.v _ _ (fun e => nomatch e)) ArgsOk.nil inferInstance (backflushlaw40_sane_c  x2_h)) ?_
  refine rq rfl rfl (q_not rfl) ?_
  refine run_nil ?_
  refine ev_cond rfl (fun hc => ?_) (fun hc => ?_)
  · replace H := ct hc H
    refine ev_seq ?_
    refine ev_region ?_
    refine rq rfl rfl (q_assign rfl) ?_
    refine run_nil ?_
    refine ev_ret ?_
    exact ret_ok [vb false] (congrArg (fun r : Bool => vb r) (Option.some.inj H)) rfl (.cons (.tmp rfl (.v _ _ (fun _ => rfl))) .nil)
  · replace H := cf hc H
    refine ev_skip ?_
    refine ev_seq ?_
    refine ev_seq ?_
    refine ev_region ?_
    refine rq rfl rfl (q_loadN rfl rfl rfl rfl) ?_
    refine rq rfl rfl (q_move rfl) ?_
    refine rq rfl rfl (q_move rfl) ?_
    obtain ⟨x3, x3_h, H⟩ := bd_inv H
    refine rq rfl rfl (q_call rfl (.v _ _ (fun e => nomatch e)) (.v rfl (.v rfl (.v rfl ArgsOk.nil))) inferInstance (backflushref40_Few_c  x3_h)) ?_
    refine rq rfl rfl (q_not rfl) ?_
    refine run_nil ?_
    refine ev_cond rfl (fun hc => ?_) (fun hc => ?_)
    · replace H := ct hc H
      refine ev_seq ?_
      refine ev_region ?_
      refine rq rfl rfl (q_assign rfl) ?_
      refine run_nil ?_
      refine ev_ret ?_
      exact ret_ok [vb true] (congrArg (fun r : Bool => vb r) (Option.some.inj H)) rfl (.cons (.tmp rfl (.v _ _ (fun _ => rfl))) .nil)
    · replace H := cf hc H
      refine ev_skip ?_
      refine ev_seq ?_
      refine ev_region ?_
      refine rq rfl rfl (q_loadN rfl rfl rfl rfl) ?_
      refine rq rfl rfl (q_move rfl) ?_
      refine rq rfl rfl (q_move rfl) ?_
      refine rq rfl rfl (q_move rfl) ?_
      refine rq rfl rfl (q_move rfl) ?_
      refine rq rfl rfl (q_move rfl) ?_
      obtain ⟨x4, x4_h, H⟩ := bd_inv H
      refine rq rfl rfl (q_call rfl (.v _ _ (fun e => nomatch e)) (.v rfl (.v rfl (.v rfl (.v rfl (.v rfl (.v rfl ArgsOk.nil)))))) inferInstance (quality_State_c  x4_h)) ?_
      refine rq rfl rfl (q_move rfl) ?_
      refine rq rfl rfl (q_extract rfl rfl) ?_
      refine rq rfl rfl (q_extract rfl rfl) ?_
      refine rq rfl rfl (q_extract rfl rfl) ?_
      refine rq rfl rfl (q_assign rfl) ?_
      refine rq rfl rfl (q_assign rfl) ?_
      refine rq rfl rfl (q_assign rfl) ?_
      refine run_nil ?_
      refine ev_seq ?_
      refine ev_seq ?_
      refine ev_region ?_
      refine rq rfl rfl (q_move rfl) ?_
      refine rq rfl rfl (q_nei rfl rfl) ?_
      refine run_nil ?_
      refine ev_cond rfl (fun hc => ?_) (fun hc => ?_)
      · replace H := ct hc H
        refine ev_seq ?_
        refine ev_region ?_
        refine rq rfl rfl (q_move rfl) ?_
        refine rq rfl rfl (q_eqi rfl rfl) ?_
        refine rq rfl rfl (q_assign rfl) ?_
        refine run_nil ?_
        refine ev_ret ?_
        exact ret_ok [vb (x4.1 == 0)] (congrArg (fun r : Bool => vb r) (Option.some.inj H)) rfl (.cons (.tmp rfl (.v _ _ (fun _ => rfl))) .nil)
      · replace H := cf hc H
        refine ev_skip ?_
        refine ev_seq ?_
        refine ev_region ?_
        refine rq rfl rfl (q_loadN rfl rfl rfl rfl) ?_
        refine rq rfl rfl (q_move rfl) ?_
        refine rq rfl rfl (q_move rfl) ?_
        refine rq rfl rfl (q_move rfl) ?_
        obtain ⟨x5, x5_h, H⟩ := bd_inv H
        refine rq rfl rfl (q_call rfl (.v _ _ (fun e => nomatch e)) (.v rfl (.v rfl (.v rfl (.v rfl ArgsOk.nil)))) inferInstance (stock_Lot_c  x5_h)) ?_
        refine rq rfl rfl (q_move rfl) ?_
        refine rq rfl rfl (q_extract rfl rfl) ?_
        refine rq rfl rfl (q_extract rfl rfl) ?_
        refine rq rfl rfl (q_extract rfl rfl) ?_
        refine re rfl (e_alloc 16 0 rfl rfl) ?_; rintro _ ⟨b6, rfl⟩
        refine re rfl (e_store rfl rfl rfl rfl rfl (Nat.le_of_ble_eq_true rfl) rfl) ?_; rintro _ rfl
        refine rq rfl rfl (q_assign rfl) ?_
        refine rq rfl rfl (q_assign rfl) ?_
        refine run_nil ?_
        refine ev_seq ?_
        refine ev_seq ?_
        refine ev_region ?_
        refine rq rfl rfl (q_move rfl) ?_
        refine rq rfl rfl (q_not rfl) ?_
        refine rq rfl rfl (q_move rfl) ?_
        refine rqc (l := []) ⟨⟨_, _, _, rfl, rfl, rfl, rfl⟩, rfl, fun hc => q_fld_p rfl, trivial⟩ rfl ?_
        refine rqc (l := [60]) ⟨⟨_, _, _, rfl, rfl, rfl, rfl⟩, rfl, fun hc => q_load1 rfl rfl rfl, ⟨fun h => h, trivial⟩⟩ rfl ?_
        refine rqc (l := [61]) ⟨⟨_, _, _, rfl, rfl, rfl, rfl⟩, rfl, fun hc => q_eqi rfl rfl, ⟨fun h => h, trivial⟩⟩ rfl ?_
        refine rq rfl rfl (q_pickb rfl rfl rfl PB.v (PB.c (fun hp => by rw [hp]; rfl))) ?_
        refine run_nil ?_
        refine ev_cond rfl (fun hc => ?_) (fun hc => ?_)
        · replace H := ct hc H
          refine ev_seq ?_
          refine ev_region ?_
          refine rq rfl rfl (q_move rfl) ?_
          refine rq rfl rfl (q_eqi rfl rfl) ?_
          refine rq rfl rfl (q_assign rfl) ?_
          refine run_nil ?_
          refine ev_ret ?_
          exact ret_ok [vb (x4.1 == 3)] (congrArg (fun r : Bool => vb r) (Option.some.inj H)) rfl (.cons (.tmp rfl (.v _ _ (fun _ => rfl))) .nil)
        · replace H := cf hc H
          refine ev_skip ?_
          refine ev_seq ?_
          refine ev_region ?_
          refine rq rfl rfl (q_fld_p rfl) ?_
          refine rq rfl rfl (q_load1 rfl rfl rfl) ?_
          refine rq rfl rfl (q_eqi rfl rfl) ?_
          refine rq rfl rfl (q_move rfl) ?_
          refine rqc (l := []) ⟨⟨_, _, _, rfl, rfl, rfl, rfl⟩, rfl, fun hc => q_move rfl, trivial⟩ rfl ?_
          refine rqc (l := []) ⟨⟨_, _, _, rfl, rfl, rfl, rfl⟩, rfl, fun hc => q_fld_p rfl, trivial⟩ rfl ?_
          refine rqc (l := [71]) ⟨⟨_, _, _, rfl, rfl, rfl, rfl⟩, rfl, fun hc => q_load1 rfl rfl rfl, ⟨fun h => h, trivial⟩⟩ rfl ?_
          refine rqc (l := [70, 72]) ⟨⟨_, _, _, rfl, rfl, rfl, rfl⟩, rfl, fun hc => q_lss rfl rfl, ⟨fun h => h, ⟨fun h => h, trivial⟩⟩⟩ rfl ?_
          refine rq rfl rfl (q_pickb rfl rfl rfl (PB.c (fun hp => hp)) PB.v) ?_
          refine rq rfl rfl (q_assign rfl) ?_
          refine run_nil ?_
          refine ev_seq ?_
          refine ev_seq ?_
          refine ev_region ?_
          refine rq rfl rfl (q_move rfl) ?_
          refine rq rfl rfl (q_len_t rfl) ?_
          refine rq rfl rfl (q_move rfl) ?_
          refine run_nil ?_
          refine ev_block ?_
          refine ev_len_l (s := 75) rfl fun w14 => ?_
          rw [List.length_map] at w14
          refine ev_forL H (fun k9 s7 σ' => σ' = mkS [(1, .v true (vi a1)), (2, .v true (vi a2)), (3, .v true (vi a3)), (4, .v false (V.l 3 (List.map GSpec.e a4))), (6, .p 6 0 b1 0), (12, .v true (vb false)), (13, .v true (vi x4.1)), (19, .v true (vb s7)), (75, .v false (V.l 1 (List.map vi a5))), (76, .v true (vi ((a5.length : Nat) : Int))), (77, .v true (vi ((k9 : Nat) : Int)))] [.e 6 0 (some (b1, 11)) (.row 38 [.v false (V.l 8 (List.map GUnit.e a0.tables.source.units)), .v false (V.l 6 (List.map GItem.e a0.tables.source.items)), .v false (V.l 1 (List.map V.s a0.tables.source.plants)), .v false (V.l 4 (List.map GMachine.e a0.tables.source.machines)), .v false (V.l 2 (List.map GOption.e a0.tables.source.options)), .v false (V.l 1 (List.map (fun l => V.l 4 (List.map GCond.e l)) a0.tables.source.forbids)), .v false (V.l 17 (List.map GRecipe.e a0.tables.source.recipes)), .v false (V.l 4 (List.map GSwap.e a0.tables.source.swaps)), .v false (V.l 1 (List.map vi a0.tables.levels)), .v false (V.l 1 (List.map (fun l => V.l 6 (List.map GInst.e l)) a0.tables.codes)), .v false (V.l 8 (List.map GFact.e a0.facts))])] [] (0, false)) ⟨_, rfl, shift_mk ⟨⟨_, rfl, (.flat rfl)⟩, ⟨⟨_, rfl, (.flat rfl)⟩, ⟨⟨_, rfl, (.flat rfl)⟩, ⟨⟨_, rfl, .rfl⟩, ⟨⟨_, rfl, .rfl⟩, ⟨⟨_, rfl, (.flat rfl)⟩, ⟨⟨_, rfl, (.flat rfl)⟩, ⟨⟨_, rfl, (.flat rfl)⟩, ⟨⟨_, rfl, .rfl⟩, ⟨⟨_, rfl, (.flat rfl)⟩, ⟨⟨_, rfl, .rfl⟩, trivial⟩⟩⟩⟩⟩⟩⟩⟩⟩⟩⟩ ⟨(.e rfl), trivial⟩ rfl rfl⟩ ?_
          rintro k9 s7 _ rfl _ H
          refine ev_seq ?_
          refine ev_region ?_
          refine rq rfl rfl (q_lss rfl rfl) ?_
          refine run_nil ?_
          refine ev_seq ?_
          refine ev_cond rfl (fun hc => ?_) (fun hc => ?_)
          · obtain ⟨x12, w13, x12_g, H⟩ := forL_in hc H
            have x12_h : idx a5 ((k9 : Nat) : Int) = some x12 := by rw [idx_nat]; exact x12_g
            refine ev_skip ?_
            refine ev_seq ?_
            refine ev_block ?_
            refine ev_seq ?_
            refine ev_region ?_
            refine rq rfl rfl (q_idx_l rfl rfl (idx_inv x12_h).1 (map_get (idx_inv x12_h).2.1) rfl) ?_
            refine rq rfl rfl (q_load1_q rfl) ?_
            refine rq rfl rfl (q_assign rfl) ?_
            refine run_nil ?_
            refine ev_region ?_
            refine rq rfl rfl (q_move rfl) ?_
            refine rq rfl rfl (q_move rfl) ?_
            refine rqc (l := []) ⟨⟨_, _, _, rfl, rfl, rfl, rfl⟩, rfl, fun hc => q_move rfl, trivial⟩ rfl ?_
            refine rqc (l := []) ⟨⟨_, _, _, rfl, rfl, rfl, rfl⟩, rfl, fun hc => q_move rfl, trivial⟩ rfl ?_
            refine rqc (l := [83, 84]) ⟨⟨_, _, _, rfl, rfl, rfl, rfl⟩, rfl, fun hc => q_nei rfl rfl, ⟨fun h => h, ⟨fun h => h, trivial⟩⟩⟩ rfl ?_
            refine rq rfl rfl (q_pickb rfl rfl rfl (PB.c (fun hp => hp)) PB.v) ?_
            refine rq rfl rfl (q_assign rfl) ?_
            refine run_nil ?_
            refine ev_region ?_
            refine rq rfl rfl (q_add rfl rfl) ?_
            refine rq rfl rfl (q_move rfl) ?_
            refine run_nil ?_
            exact ⟨_, _, w13, H, rfl, shift_mk ⟨⟨_, rfl, (.flat rfl)⟩, ⟨⟨_, rfl, (.flat rfl)⟩, ⟨⟨_, rfl, (.flat rfl)⟩, ⟨⟨_, rfl, .rfl⟩, ⟨⟨_, rfl, .rfl⟩, ⟨⟨_, rfl, (.flat rfl)⟩, ⟨⟨_, rfl, (.flat rfl)⟩, ⟨⟨_, rfl, (.flat rfl)⟩, ⟨⟨_, rfl, .rfl⟩, ⟨⟨_, rfl, (.flat rfl)⟩, ⟨⟨_, rfl, (.eq (congrArg (fun n => D.v true (vi n)) (wrap_succ w13 w14)))⟩, trivial⟩⟩⟩⟩⟩⟩⟩⟩⟩⟩⟩ ⟨(.e rfl), trivial⟩ rfl rfl⟩
          · replace H := forL_out hc H
            refine ev_exit ?_
            refine ev_seq ?_
            refine ev_seq ?_
            refine ev_region ?_
            refine rq rfl rfl (q_move rfl) ?_
            refine rq rfl rfl (q_len_t rfl) ?_
            refine rq rfl rfl (q_move rfl) ?_
            refine run_nil ?_
            refine ev_block ?_
            refine ev_len_l (s := 88) rfl fun w22 => ?_
            rw [List.length_map] at w22
            refine ev_forL H (fun k17 s15 σ' => σ' = mkS [(1, .v true (vi a1)), (2, .v true (vi a2)), (3, .v true (vi a3)), (6, .p 6 0 b1 0), (12, .v true (vb false)), (13, .v true (vi x4.1)), (19, .v true (vb s15)), (88, .v false (V.l 3 (List.map GSpec.e a4))), (89, .v true (vi ((a4.length : Nat) : Int))), (90, .v true (vi ((k17 : Nat) : Int)))] [.e 6 0 (some (b1, 11)) (.row 38 [.v false (V.l 8 (List.map GUnit.e a0.tables.source.units)), .v false (V.l 6 (List.map GItem.e a0.tables.source.items)), .v false (V.l 1 (List.map V.s a0.tables.source.plants)), .v false (V.l 4 (List.map GMachine.e a0.tables.source.machines)), .v false (V.l 2 (List.map GOption.e a0.tables.source.options)), .v false (V.l 1 (List.map (fun l => V.l 4 (List.map GCond.e l)) a0.tables.source.forbids)), .v false (V.l 17 (List.map GRecipe.e a0.tables.source.recipes)), .v false (V.l 4 (List.map GSwap.e a0.tables.source.swaps)), .v false (V.l 1 (List.map vi a0.tables.levels)), .v false (V.l 1 (List.map (fun l => V.l 6 (List.map GInst.e l)) a0.tables.codes)), .v false (V.l 8 (List.map GFact.e a0.facts))])] [] (0, false)) ⟨_, rfl, shift_mk ⟨⟨_, rfl, (.flat rfl)⟩, ⟨⟨_, rfl, (.flat rfl)⟩, ⟨⟨_, rfl, (.flat rfl)⟩, ⟨⟨_, rfl, .rfl⟩, ⟨⟨_, rfl, (.flat rfl)⟩, ⟨⟨_, rfl, (.flat rfl)⟩, ⟨⟨_, rfl, (.flat rfl)⟩, ⟨⟨_, rfl, .rfl⟩, ⟨⟨_, rfl, (.flat rfl)⟩, ⟨⟨_, rfl, .rfl⟩, trivial⟩⟩⟩⟩⟩⟩⟩⟩⟩⟩ ⟨(.e rfl), trivial⟩ rfl rfl⟩ ?_
            rintro k17 s15 _ rfl _ H
            refine ev_seq ?_
            refine ev_region ?_
            refine rq rfl rfl (q_lss rfl rfl) ?_
            refine run_nil ?_
            refine ev_seq ?_
            refine ev_cond rfl (fun hc => ?_) (fun hc => ?_)
            · obtain ⟨x20, w21, x20_g, H⟩ := forL_in hc H
              have x20_h : idx a4 ((k17 : Nat) : Int) = some x20 := by rw [idx_nat]; exact x20_g
              refine ev_skip ?_
              refine ev_seq ?_
              refine ev_block ?_
              refine ev_seq ?_
              refine ev_region ?_
              refine rq rfl rfl (q_idx_l rfl rfl (idx_inv x20_h).1 (map_get (idx_inv x20_h).2.1) rfl) ?_
              refine rq rfl rfl (q_load_e rfl rfl rfl) ?_
              refine re rfl (e_alloc 23 0 rfl rfl) ?_; rintro _ ⟨b23, rfl⟩
              refine re rfl (e_store rfl rfl rfl rfl rfl (Nat.le_of_ble_eq_true rfl) rfl) ?_; rintro _ rfl
              refine run_nil ?_
              refine ev_seq ?_
              refine ev_region ?_
              refine rq rfl rfl (q_fld_p rfl) ?_
              refine rq rfl rfl (q_load1 rfl rfl rfl) ?_
              refine rq rfl rfl (q_move rfl) ?_
              refine rq rfl rfl (q_fld_p rfl) ?_
              refine rq rfl rfl (q_load1 rfl rfl rfl) ?_
              refine rq rfl rfl (q_build rfl (.v rfl rfl rfl rfl rfl (.v rfl rfl rfl rfl rfl (.v rfl rfl rfl rfl rfl .nil)))) ?_
              refine rq rfl rfl (q_move rfl) ?_
              refine rq rfl rfl (q_move rfl) ?_
              obtain ⟨x24, x24_h, H⟩ := bd_inv H
              refine rq rfl rfl (q_call rfl (.v _ _ (fun e => nomatch e)) (.v rfl (.v rfl (.v rfl (.v rfl ArgsOk.nil)))) inferInstance (facts_At_c  x24_h)) ?_
              refine rq rfl rfl (q_move rfl) ?_
              refine rq rfl rfl (q_extract rfl rfl) ?_
              refine rq rfl rfl (q_extract rfl rfl) ?_
              refine rq rfl rfl (q_assign rfl) ?_
              refine rq rfl rfl (q_assign rfl) ?_
              refine run_nil ?_
              refine ev_region ?_
              refine rq rfl rfl (q_move rfl) ?_
              refine rq rfl rfl (q_move rfl) ?_
              refine rqc (l := []) ⟨⟨_, _, _, rfl, rfl, rfl, rfl⟩, rfl, fun hc => q_move rfl, trivial⟩ rfl ?_
              refine rq rfl rfl (q_pickb rfl rfl rfl (PB.c (fun hp => hp)) PB.v) ?_
              refine rq rfl rfl (q_move rfl) ?_
              refine rqc (l := []) ⟨⟨_, _, _, rfl, rfl, rfl, rfl⟩, rfl, fun hc => q_move rfl, trivial⟩ rfl ?_
              refine rqc (l := [111]) ⟨⟨_, _, _, rfl, rfl, rfl, rfl⟩, rfl, fun hc => q_geq rfl rfl, ⟨fun h => h, trivial⟩⟩ rfl ?_
              refine rq rfl rfl (q_pickb rfl rfl rfl (PB.c (fun hp => hp)) PB.v) ?_
              refine rq rfl rfl (q_move rfl) ?_
              refine rqc (l := []) ⟨⟨_, _, _, rfl, rfl, rfl, rfl⟩, rfl, fun hc => q_move rfl, trivial⟩ rfl ?_
              refine rqc (l := []) ⟨⟨_, _, _, rfl, rfl, rfl, rfl⟩, rfl, fun hc => q_fld_p rfl, trivial⟩ rfl ?_
              refine rqc (l := [116]) ⟨⟨_, _, _, rfl, rfl, rfl, rfl⟩, rfl, fun hc => q_load1 rfl rfl rfl, ⟨fun h => h, trivial⟩⟩ rfl ?_
              refine rqc (l := [115, 117]) ⟨⟨_, _, _, rfl, rfl, rfl, rfl⟩, rfl, fun hc => q_geq rfl rfl, ⟨fun h => h, ⟨fun h => h, trivial⟩⟩⟩ rfl ?_
              refine rq rfl rfl (q_pickb rfl rfl rfl (PB.c (fun hp => hp)) PB.v) ?_
              refine rq rfl rfl (q_move rfl) ?_
              refine rqc (l := []) ⟨⟨_, _, _, rfl, rfl, rfl, rfl⟩, rfl, fun hc => q_move rfl, trivial⟩ rfl ?_
              refine rqc (l := []) ⟨⟨_, _, _, rfl, rfl, rfl, rfl⟩, rfl, fun hc => q_fld_p rfl, trivial⟩ rfl ?_
              refine rqc (l := [122]) ⟨⟨_, _, _, rfl, rfl, rfl, rfl⟩, rfl, fun hc => q_load1 rfl rfl rfl, ⟨fun h => h, trivial⟩⟩ rfl ?_
              refine rqc (l := [121, 123]) ⟨⟨_, _, _, rfl, rfl, rfl, rfl⟩, rfl, fun hc => q_leq rfl rfl, ⟨fun h => h, ⟨fun h => h, trivial⟩⟩⟩ rfl ?_
              refine rq rfl rfl (q_pickb rfl rfl rfl (PB.c (fun hp => hp)) PB.v) ?_
              refine rq rfl rfl (q_assign rfl) ?_
              refine run_nil ?_
              refine ev_region ?_
              refine rq rfl rfl (q_add rfl rfl) ?_
              refine rq rfl rfl (q_move rfl) ?_
              refine run_nil ?_
              exact ⟨_, _, w21, H, rfl, shift_mk ⟨⟨_, rfl, (.flat rfl)⟩, ⟨⟨_, rfl, (.flat rfl)⟩, ⟨⟨_, rfl, (.flat rfl)⟩, ⟨⟨_, rfl, .rfl⟩, ⟨⟨_, rfl, (.flat rfl)⟩, ⟨⟨_, rfl, (.flat rfl)⟩, ⟨⟨_, rfl, (.flat rfl)⟩, ⟨⟨_, rfl, .rfl⟩, ⟨⟨_, rfl, (.flat rfl)⟩, ⟨⟨_, rfl, (.eq (congrArg (fun n => D.v true (vi n)) (wrap_succ w21 w22)))⟩, trivial⟩⟩⟩⟩⟩⟩⟩⟩⟩⟩ ⟨(.e rfl), trivial⟩ rfl rfl⟩
            · replace H := forL_out hc H
              refine ev_exit ?_
              refine ev_seq ?_
              refine ev_region ?_
              refine rq rfl rfl (q_move rfl) ?_
              refine rq rfl rfl (q_nei rfl rfl) ?_
              refine rq rfl rfl (q_move rfl) ?_
              refine rqc (l := []) ⟨⟨_, _, _, rfl, rfl, rfl, rfl⟩, rfl, fun hc => q_move rfl, trivial⟩ rfl ?_
              refine rqc (l := []) ⟨⟨_, _, _, rfl, rfl, rfl, rfl⟩, rfl, fun hc => q_move rfl, trivial⟩ rfl ?_
              refine rqc (l := [131]) ⟨⟨_, _, _, rfl, rfl, rfl, rfl⟩, rfl, fun hc => q_eqi rfl rfl, ⟨fun h => h, trivial⟩⟩ rfl ?_
              refine rqc (l := [130, 132]) ⟨⟨_, _, _, rfl, rfl, rfl, rfl⟩, rfl, fun hc => q_eqb rfl rfl, ⟨fun h => h, ⟨fun h => h, trivial⟩⟩⟩ rfl ?_
              refine rq rfl rfl (q_pickb rfl rfl rfl (PB.c (fun hp => hp)) PB.v) ?_
              refine rq rfl rfl (q_assign rfl) ?_
              refine run_nil ?_
              refine ev_ret ?_
              exact ret_ok [vb (bif x4.1 != 3 then s15 == (x4.1 == 0) else false)] (congrArg (fun r : Bool => vb r) (Option.some.inj H)) rfl (.cons (.tmp rfl (.v _ _ (fun _ => rfl))) .nil)
def backflushlaw40_QualityMore_m (a0 : GWorld) (a1 : Int) (a2 : Int) (a3 : Int) (a4 : List GSpec) (a5 : List Int) (a6 : Int) (a7 : Int) : Option Bool := bd (backflushlaw40_sane_m) fun x2 => bif !x2 then (some false) else (bd (backflushref40_Few_m a0 a4 a5) fun x3 => bif !x3 then (some true) else (bd (quality_State_m a0 a1 a2 a3 a4 a5) fun x4 => bif x4.2.2 != 0 then (some true) else (jn (fun (_ : Unit) => bif bif bif ((a4.length : Nat) : Int) == 0 then true else decide (a7 < 0) then true else decide (1000 < a7) then (some true) else (gd (decide (((a4.length : Nat) : Int) ≠ 0)) <| gd (decide (0 ≤ (IntKind.i64.wrap a6).tmod ((a4.length : Nat) : Int))) <| gd (decide (0 ≤ ((IntKind.i64.wrap a6).tmod ((a4.length : Nat) : Int)).toNat ∧ ((IntKind.i64.wrap a6).tmod ((a4.length : Nat) : Int)).toNat ≤ a4.length)) <| gd (decide ((([] : List GSpec).length + ((a4.take (((IntKind.i64.wrap a6).tmod ((a4.length : Nat) : Int)).toNat)).drop (0)).length) * 25 ≤ 140737488355328)) <| gd (decide (0 ≤ wr (((IntKind.i64.wrap a6).tmod ((a4.length : Nat) : Int)) + 1))) <| gd (decide ((wr (((IntKind.i64.wrap a6).tmod ((a4.length : Nat) : Int)) + 1)).toNat ≤ a4.length)) <| gd (decide (((([] : List GSpec) ++ ((a4.take (((IntKind.i64.wrap a6).tmod ((a4.length : Nat) : Int)).toNat)).drop (0))).length + (a4.drop ((wr (((IntKind.i64.wrap a6).tmod ((a4.length : Nat) : Int)) + 1)).toNat)).length) * 25 ≤ 140737488355328)) <| gd (decide ((([] : List GSpec).length + a4.length) * 25 ≤ 140737488355328)) <| bd (idx (([] : List GSpec) ++ a4) ((IntKind.i64.wrap a6).tmod ((a4.length : Nat) : Int))) fun x22 => bif bif decide (1048576 < x22.hi) then true else decide (x22.lo < (-1048576)) then (some true) else (bd (idx ((([] : List GSpec) ++ a4).set ((IntKind.i64.wrap a6).tmod ((a4.length : Nat) : Int)).toNat { x22 with lo := wr (x22.lo - a7) }) ((IntKind.i64.wrap a6).tmod ((a4.length : Nat) : Int))) fun x23 => bd (quality_State_m a0 a1 a2 a3 ((([] : List GSpec) ++ ((a4.take (((IntKind.i64.wrap a6).tmod ((a4.length : Nat) : Int)).toNat)).drop (0))) ++ (a4.drop ((wr (((IntKind.i64.wrap a6).tmod ((a4.length : Nat) : Int)) + 1)).toNat))) a5) fun x24 => bd (quality_State_m a0 a1 a2 a3 (((([] : List GSpec) ++ a4).set ((IntKind.i64.wrap a6).tmod ((a4.length : Nat) : Int)).toNat { x22 with lo := wr (x22.lo - a7) }).set ((IntKind.i64.wrap a6).tmod ((a4.length : Nat) : Int)).toNat { x23 with hi := wr (x22.hi + a7) }) a5) fun x25 => some (bif bif x24.2.2 == 0 then x25.2.2 == 0 else false then bif x4.1 != 0 then true else bif x24.1 == 0 then x25.1 == 0 else false else false)))) fun j5 => bdc (decide (0 < ((a5.length : Nat) : Int))) (idx a5 (wr (((a5.length : Nat) : Int) - 1))) fun x26 => bif bif decide (0 < ((a5.length : Nat) : Int)) then decide (x26 < 1000) else false then (bd (idx a5 (wr (((a5.length : Nat) : Int) - 1))) fun x27 => gd (decide ((([] : List Int).length + a5.length) * 9 ≤ 140737488355328)) <| gd (decide (((([] : List Int) ++ a5).length + ([wr (x27 + 1)] : List Int).length) * 9 ≤ 140737488355328)) <| bd (quality_State_m a0 a1 a2 a3 a4 ((([] : List Int) ++ a5) ++ ([wr (x27 + 1)] : List Int))) fun x33 => bif bif bif x33.2.2 != 0 then true else bif (wr (x27 + 1)) != a1 then x33.1 != x4.1 else false then true else bif bif (wr (x27 + 1)) == a1 then x33.1 != 2 else false then x33.1 != 3 else false then (some false) else (j5 ())) else (j5 ()))))
set_option maxHeartbeats 4000000 in
theorem backflushlaw40_QualityMore_c {a0 : GWorld} {a1 : Int} {a2 : Int} {a3 : Int} {a4 : List GSpec} {a5 : List Int} {a6 : Int} {a7 : Int} {r : Bool} (H : backflushlaw40_QualityMore_m a0 a1 a2 a3 a4 a5 a6 a7 = some r) : PureC Try.prog true 6 [GWorld.e a0, vi a1, vi a2, vi a3, V.l 3 (List.map GSpec.e a4), V.l 1 (List.map vi a5), (V.i .u8) a6, vi a7] (vb r) := by
  unfold backflushlaw40_QualityMore_m at H
  refine pure_intro (N := 218) Try.func6 rfl rfl rfl rfl fun C hO => ?_
  refine ev_shift (shift_mk (fs := [(0, .v false (GWorld.e a0)), (1, .v true (vi a1)), (2, .v true (vi a2)), (3, .v true (vi a3)), (4, .v false (V.l 3 (List.map GSpec.e a4))), (5, .v false (V.l 1 (List.map vi a5))), (6, .v true ((V.i .u8) a6)), (7, .v true (vi a7))]) (es := []) ⟨⟨_, rfl, .rfl⟩, ⟨⟨_, rfl, (.flat rfl)⟩, ⟨⟨_, rfl, (.flat rfl)⟩, ⟨⟨_, rfl, (.flat rfl)⟩, ⟨⟨_, rfl, .rfl⟩, ⟨⟨_, rfl, .rfl⟩, ⟨⟨_, rfl, (.flat rfl)⟩, ⟨⟨_, rfl, (.flat rfl)⟩, trivial⟩⟩⟩⟩⟩⟩⟩⟩ trivial rfl rfl) ?_
  refine ev_seq ?_
  refine ev_region ?_
  refine re rfl (e_box 8 0 rfl rfl rfl) ?_; rintro _ ⟨b1, rfl⟩
  refine rq rfl rfl (q_assign rfl) ?_
  refine run_nil ?_
  refine ev_seq ?_
  refine ev_seq ?_
  refine ev_region ?_
  obtain ⟨x2, x2_h, H⟩ := bd_inv H
  refine rq rfl rfl (q_call rfl (.v _ _ (fun e => nomatch e)) ArgsOk.nil inferInstance (backflushlaw40_sane_c  x2_h)) ?_
  refine rq rfl rfl (q_not rfl) ?_
  refine run_nil ?_
  refine ev_cond rfl (fun hc => ?_) (fun hc => ?_)
  · replace H := ct hc H
    refine ev_seq ?_
    refine ev_region ?_
    refine rq rfl rfl (q_assign rfl) ?_
    refine run_nil ?_
    refine ev_ret ?_
    exact ret_ok [vb false] (congrArg (fun r : Bool => vb r) (Option.some.inj H)) rfl (.cons (.tmp rfl (.v _ _ (fun _ => rfl))) .nil)
  · replace H := cf hc H
    refine ev_skip ?_
    refine ev_seq ?_
    refine ev_seq ?_
    refine ev_region ?_
    refine rq rfl rfl (q_loadN rfl rfl rfl rfl) ?_
    refine rq rfl rfl (q_move rfl) ?_
    refine rq rfl rfl (q_move rfl) ?_
    obtain ⟨x3, x3_h, H⟩ := bd_inv H
    refine rq rfl rfl (q_call rfl (.v _ _ (fun e => nomatch e)) (.v rfl (.v rfl (.v rfl ArgsOk.nil))) inferInstance (backflushref40_Few_c  x3_h)) ?_
    refine rq rfl rfl (q_not rfl) ?_
    refine run_nil ?_
    refine ev_cond rfl (fun hc => ?_) (fun hc => ?_)
    · replace H := ct hc H
      refine ev_seq ?_
      refine ev_region ?_
      refine rq rfl rfl (q_assign rfl) ?_
      refine run_nil ?_
      refine ev_ret ?_
      exact ret_ok [vb true] (congrArg (fun r : Bool => vb r) (Option.some.inj H)) rfl (.cons (.tmp rfl (.v _ _ (fun _ => rfl))) .nil)
    · replace H := cf hc H
      refine ev_skip ?_
      refine ev_seq ?_
      refine ev_region ?_
      refine rq rfl rfl (q_loadN rfl rfl rfl rfl) ?_
      refine rq rfl rfl (q_move rfl) ?_
      refine rq rfl rfl (q_move rfl) ?_
      refine rq rfl rfl (q_move rfl) ?_
      refine rq rfl rfl (q_move rfl) ?_
      refine rq rfl rfl (q_move rfl) ?_
      obtain ⟨x4, x4_h, H⟩ := bd_inv H
      refine rq rfl rfl (q_call rfl (.v _ _ (fun e => nomatch e)) (.v rfl (.v rfl (.v rfl (.v rfl (.v rfl (.v rfl ArgsOk.nil)))))) inferInstance (quality_State_c  x4_h)) ?_
      refine rq rfl rfl (q_move rfl) ?_
      refine rq rfl rfl (q_extract rfl rfl) ?_
      refine rq rfl rfl (q_extract rfl rfl) ?_
      refine rq rfl rfl (q_extract rfl rfl) ?_
      refine rq rfl rfl (q_assign rfl) ?_
      refine rq rfl rfl (q_assign rfl) ?_
      refine rq rfl rfl (q_assign rfl) ?_
      refine run_nil ?_
      refine ev_seq ?_
      refine ev_seq ?_
      refine ev_region ?_
      refine rq rfl rfl (q_move rfl) ?_
      refine rq rfl rfl (q_nei rfl rfl) ?_
      refine run_nil ?_
      refine ev_cond rfl (fun hc => ?_) (fun hc => ?_)
      · replace H := ct hc H
        refine ev_seq ?_
        refine ev_region ?_
        refine rq rfl rfl (q_assign rfl) ?_
        refine run_nil ?_
        refine ev_ret ?_
        exact ret_ok [vb true] (congrArg (fun r : Bool => vb r) (Option.some.inj H)) rfl (.cons (.tmp rfl (.v _ _ (fun _ => rfl))) .nil)
      · replace H := cf hc H
        refine ev_skip ?_
        obtain ⟨j5, j5_e, H⟩ := jn_inv H
        refine ev_join (fun σ' => j5 () = some r ∧ σ' = mkS [(1, .v true (vi a1)), (2, .v true (vi a2)), (3, .v true (vi a3)), (4, .v false (V.l 3 (List.map GSpec.e a4))), (5, .v false (V.l 1 (List.map vi a5))), (6, .v true ((V.i .u8) a6)), (7, .v true (vi a7)), (8, .p 8 0 b1 0), (16, .v true (vb false)), (17, .v true (vi x4.1))] [.e 8 0 (some (b1, 11)) (.row 38 [.v false (V.l 8 (List.map GUnit.e a0.tables.source.units)), .v false (V.l 6 (List.map GItem.e a0.tables.source.items)), .v false (V.l 1 (List.map V.s a0.tables.source.plants)), .v false (V.l 4 (List.map GMachine.e a0.tables.source.machines)), .v false (V.l 2 (List.map GOption.e a0.tables.source.options)), .v false (V.l 1 (List.map (fun l => V.l 4 (List.map GCond.e l)) a0.tables.source.forbids)), .v false (V.l 17 (List.map GRecipe.e a0.tables.source.recipes)), .v false (V.l 4 (List.map GSwap.e a0.tables.source.swaps)), .v false (V.l 1 (List.map vi a0.tables.levels)), .v false (V.l 1 (List.map (fun l => V.l 6 (List.map GInst.e l)) a0.tables.codes)), .v false (V.l 8 (List.map GFact.e a0.facts))])] [] (0, false)) ?_ ?_
        · rintro _ ⟨H, rfl⟩
          subst j5_e
          refine ev_seq ?_
          refine ev_seq ?_
          refine ev_region ?_
          refine rq rfl rfl (q_move rfl) ?_
          refine rq rfl rfl (q_len_t rfl) ?_
          refine rq rfl rfl (q_eqi rfl rfl) ?_
          refine rq rfl rfl (q_move rfl) ?_
          refine rqc (l := []) ⟨⟨_, _, _, rfl, rfl, rfl, rfl⟩, rfl, fun hc => q_move rfl, trivial⟩ rfl ?_
          refine rqc (l := [117]) ⟨⟨_, _, _, rfl, rfl, rfl, rfl⟩, rfl, fun hc => q_lss rfl rfl, ⟨fun h => h, trivial⟩⟩ rfl ?_
          refine rq rfl rfl (q_pickb rfl rfl rfl PB.v (PB.c (fun hp => by rw [hp]; rfl))) ?_
          refine rq rfl rfl (q_move rfl) ?_
          refine rqc (l := []) ⟨⟨_, _, _, rfl, rfl, rfl, rfl⟩, rfl, fun hc => q_move rfl, trivial⟩ rfl ?_
          refine rqc (l := [121]) ⟨⟨_, _, _, rfl, rfl, rfl, rfl⟩, rfl, fun hc => q_gtr rfl rfl, ⟨fun h => h, trivial⟩⟩ rfl ?_
          refine rq rfl rfl (q_pickb rfl rfl rfl PB.v (PB.c (fun hp => by rw [hp]; rfl))) ?_
          refine run_nil ?_
          refine ev_cond rfl (fun hc => ?_) (fun hc => ?_)
          · replace H := ct hc H
            refine ev_seq ?_
            refine ev_region ?_
            refine rq rfl rfl (q_assign rfl) ?_
            refine run_nil ?_
            refine ev_ret ?_
            exact ret_ok [vb true] (congrArg (fun r : Bool => vb r) (Option.some.inj H)) rfl (.cons (.tmp rfl (.v _ _ (fun _ => rfl))) .nil)
          · replace H := cf hc H
            refine ev_skip ?_
            refine ev_seq ?_
            refine ev_region ?_
            refine rq rfl rfl (q_move rfl) ?_
            refine rq rfl rfl (q_conv rfl) ?_
            refine rq rfl rfl (q_move rfl) ?_
            refine rq rfl rfl (q_len_t rfl) ?_
            obtain ⟨w6, H⟩ := gdd_inv H
            refine rq rfl rfl (q_rem rfl rfl w6) ?_
            refine rq rfl rfl (q_assign rfl) ?_
            refine run_nil ?_
            refine ev_seq ?_
            obtain ⟨w8, H⟩ := gdd_inv H
            obtain ⟨w9, H⟩ := gdd_inv H
            obtain ⟨w10, H⟩ := gdd_inv H
            obtain ⟨w12, H⟩ := gdd_inv H
            obtain ⟨w13, H⟩ := gdd_inv H
            obtain ⟨w14, H⟩ := gdd_inv H
            refine ev_drawX (fun i => (assocN [(0, [129]), (4, [129]), (9, [129])] i).getD []) rfl ?_
            refine xq (r := some _) [129] 1 (.start _) rfl (by kernel_rfl) (by kernel_rfl) ⟨rfl, .inl ⟨rfl, Quiet.norm (q_move rfl)⟩⟩ rfl (fun hcl => ?_)
            refine xq (r := some _) [129] 2 hcl rfl (by kernel_rfl) (by kernel_rfl) ⟨rfl, .inl ⟨rfl, Quiet.norm (q_move rfl)⟩⟩ rfl (fun hcl => ?_)
            refine xq (r := some _) [129] 3 hcl rfl (by kernel_rfl) (by kernel_rfl) ⟨rfl, .inl ⟨rfl, Quiet.norm (q_slice_t rfl .none (.some rfl w8) w9)⟩⟩ rfl (fun hcl => ?_)
            refine xq (r := some _) [129] 5 hcl rfl (by kernel_rfl) (by kernel_rfl) ⟨rfl, .inl ⟨rfl, Quiet.norm (q_move rfl)⟩⟩ rfl (fun hcl => ?_)
            refine xq (r := some _) [129] 6 hcl rfl (by kernel_rfl) (by kernel_rfl) ⟨rfl, .inl ⟨rfl, Quiet.norm (q_move rfl)⟩⟩ rfl (fun hcl => ?_)
            refine xq (r := some _) [129] 7 hcl rfl (by kernel_rfl) (by kernel_rfl) ⟨rfl, .inl ⟨rfl, Quiet.norm (q_add rfl rfl)⟩⟩ rfl (fun hcl => ?_)
            refine xq (r := some _) [129] 8 hcl rfl (by kernel_rfl) (by kernel_rfl) ⟨rfl, .inl ⟨rfl, Quiet.norm (q_slice_t0 rfl (.some rfl w12) w13)⟩⟩ rfl (fun hcl => ?_)
            refine xb hcl (l := [0]) (by kernel_rfl) (by simp) (fun i hi hcl => ?_)
            obtain rfl : i = 0 := by simpa using hi
            refine xe rfl (x_buildSlice 129 0 rfl rfl rfl rfl rfl) ?_; rintro _ ⟨b16, rfl⟩
            refine xb hcl (l := [4]) (by kernel_rfl) (by simp) (fun i hi hcl => ?_)
            obtain rfl : i = 4 := by simpa using hi
            refine xe rfl (x_appt_f (f1 := true) rfl rfl rfl (fun _ => ⟨rfl, rfl⟩) (fun _ => rfl) rfl rfl rfl w10 rfl rfl) ?_; rintro _ ⟨q17, rfl⟩
            refine xb hcl (l := [9]) (by kernel_rfl) (by simp) (fun i hi hcl => ?_)
            obtain rfl : i = 9 := by simpa using hi
            refine xe rfl (x_appt_f (f1 := true) rfl rfl rfl (fun _ => ⟨rfl, rfl⟩) (fun _ => rfl) rfl rfl rfl w14 rfl rfl) ?_; rintro _ ⟨q18, rfl⟩
            refine xq (r := some _) [] 10 hcl rfl (by kernel_rfl) (by kernel_rfl) ⟨rfl, .inl ⟨rfl, Quiet.norm (q_assign rfl)⟩⟩ rfl (fun hcl => ?_)
            refine xn (by kernel_rfl) ?_
            refine ev_seq ?_
            refine ev_region ?_
            refine re rfl (e_buildSlice 139 0 rfl rfl rfl rfl) ?_; rintro _ ⟨b19, rfl⟩
            refine rq rfl rfl (q_move rfl) ?_
            obtain ⟨w20, H⟩ := gdd_inv H
            refine re rfl (e_appt_f (f1 := true) rfl rfl rfl (fun _ => ⟨rfl, rfl⟩) (fun _ => rfl) rfl rfl rfl w20 rfl) ?_; rintro _ ⟨q21, rfl⟩
            refine rq rfl rfl (q_assign rfl) ?_
            refine run_nil ?_
            refine ev_seq ?_
            refine ev_seq ?_
            refine ev_region ?_
            refine rq rfl rfl (q_move rfl) ?_
            refine rq rfl rfl (q_move rfl) ?_
            obtain ⟨x22, x22_h, H⟩ := bd_inv H
            refine rq rfl rfl (q_idx_pl rfl rfl (idx_inv x22_h).1 (idx_inv x22_h).2.2.2) ?_
            refine rq rfl rfl (q_fld_p rfl) ?_
            refine rq rfl rfl (q_load_elp (E := GSpec.e) (z := 3) (fun _ => rfl) rfl rfl (idx_inv x22_h).2.1 rfl) ?_
            refine rq rfl rfl (q_gtr rfl rfl) ?_
            refine rq rfl rfl (q_move rfl) ?_
            refine rqc (l := []) ⟨⟨_, _, _, rfl, rfl, rfl, rfl⟩, rfl, fun hc => q_move rfl, trivial⟩ rfl ?_
            refine rqc (l := []) ⟨⟨_, _, _, rfl, rfl, rfl, rfl⟩, rfl, fun hc => q_move rfl, trivial⟩ rfl ?_
            refine rqc (l := [149, 150]) ⟨⟨_, _, _, rfl, rfl, rfl, rfl⟩, rfl, fun hc => q_idx_pl rfl rfl (idx_inv x22_h).1 (idx_inv x22_h).2.2.2, ⟨fun h => h, ⟨fun h => h, trivial⟩⟩⟩ rfl ?_
            refine rqc (l := [151]) ⟨⟨_, _, _, rfl, rfl, rfl, rfl⟩, rfl, fun hc => q_fld_p rfl, ⟨fun h => h, trivial⟩⟩ rfl ?_
            refine rqc (l := [152]) ⟨⟨_, _, _, rfl, rfl, rfl, rfl⟩, rfl, fun hc => q_load_elp (E := GSpec.e) (z := 3) (fun _ => rfl) rfl rfl (idx_inv x22_h).2.1 rfl, ⟨fun h => h, trivial⟩⟩ rfl ?_
            refine rqc (l := [153]) ⟨⟨_, _, _, rfl, rfl, rfl, rfl⟩, rfl, fun hc => q_lss rfl rfl, ⟨fun h => h, trivial⟩⟩ rfl ?_
            refine rq rfl rfl (q_pickb rfl rfl rfl PB.v (PB.c (fun hp => by rw [hp]; rfl))) ?_
            refine run_nil ?_
            refine ev_cond rfl (fun hc => ?_) (fun hc => ?_)
            · replace H := ct hc H
              refine ev_seq ?_
              refine ev_region ?_
              refine rq rfl rfl (q_assign rfl) ?_
              refine run_nil ?_
              refine ev_ret ?_
              exact ret_ok [vb true] (congrArg (fun r : Bool => vb r) (Option.some.inj H)) rfl (.cons (.tmp rfl (.v _ _ (fun _ => rfl))) .nil)
            · replace H := cf hc H
              refine ev_skip ?_
              refine ev_seq ?_
              obtain ⟨x23, x23_h, H⟩ := bd_inv H
              refine ev_drawX (fun i => (assocN [(20, [139]), (23, [139])] i).getD []) rfl ?_
              refine xq (r := some _) [] 0 (.start _) rfl (by kernel_rfl) (by kernel_rfl) ⟨rfl, .inl ⟨rfl, Quiet.norm (q_move rfl)⟩⟩ rfl (fun hcl => ?_)
              refine xq (r := some _) [] 1 hcl rfl (by kernel_rfl) (by kernel_rfl) ⟨rfl, .inl ⟨rfl, Quiet.norm (q_move rfl)⟩⟩ rfl (fun hcl => ?_)
              refine xq (r := some _) [139] 2 hcl rfl (by kernel_rfl) (by kernel_rfl) ⟨rfl, .inl ⟨rfl, Quiet.norm (q_move rfl)⟩⟩ rfl (fun hcl => ?_)
              refine xq (r := some _) [139] 3 hcl rfl (by kernel_rfl) (by kernel_rfl) ⟨rfl, .inl ⟨rfl, Quiet.norm (q_move rfl)⟩⟩ rfl (fun hcl => ?_)
              refine xq (r := some _) [] 4 hcl rfl (by kernel_rfl) (by kernel_rfl) ⟨rfl, .inl ⟨rfl, Quiet.norm (q_move rfl)⟩⟩ rfl (fun hcl => ?_)
              refine xq (r := some _) [] 5 hcl rfl (by kernel_rfl) (by kernel_rfl) ⟨rfl, .inl ⟨rfl, Quiet.norm (q_move rfl)⟩⟩ rfl (fun hcl => ?_)
              refine xq (r := some _) [] 6 hcl rfl (by kernel_rfl) (by kernel_rfl) ⟨rfl, .inl ⟨rfl, Quiet.norm (q_idx_pl rfl rfl (idx_inv x22_h).1 (idx_inv x22_h).2.2.2)⟩⟩ rfl (fun hcl => ?_)
              refine xq (r := some _) [] 7 hcl rfl (by kernel_rfl) (by kernel_rfl) ⟨rfl, .inl ⟨rfl, Quiet.norm (q_fld_p rfl)⟩⟩ rfl (fun hcl => ?_)
              refine xq (r := some _) [] 8 hcl rfl (by kernel_rfl) (by kernel_rfl) ⟨rfl, .inl ⟨rfl, Quiet.norm (q_load_elp (E := GSpec.e) (z := 3) (fun _ => rfl) rfl rfl (idx_inv x22_h).2.1 rfl)⟩⟩ rfl (fun hcl => ?_)
              refine xq (r := some _) [] 9 hcl rfl (by kernel_rfl) (by kernel_rfl) ⟨rfl, .inl ⟨rfl, Quiet.norm (q_move rfl)⟩⟩ rfl (fun hcl => ?_)
              refine xq (r := some _) [] 10 hcl rfl (by kernel_rfl) (by kernel_rfl) ⟨rfl, .inl ⟨rfl, Quiet.norm (q_sub rfl rfl)⟩⟩ rfl (fun hcl => ?_)
              refine xq (r := some _) [] 11 hcl rfl (by kernel_rfl) (by kernel_rfl) ⟨rfl, .inl ⟨rfl, Quiet.norm (q_move rfl)⟩⟩ rfl (fun hcl => ?_)
              refine xq (r := some _) [] 12 hcl rfl (by kernel_rfl) (by kernel_rfl) ⟨rfl, .inl ⟨rfl, Quiet.norm (q_move rfl)⟩⟩ rfl (fun hcl => ?_)
              refine xq (r := some _) [] 13 hcl rfl (by kernel_rfl) (by kernel_rfl) ⟨rfl, .inl ⟨rfl, Quiet.norm (q_idx_pl rfl rfl (idx_inv x22_h).1 (idx_inv x22_h).2.2.2)⟩⟩ rfl (fun hcl => ?_)
              refine xq (r := some _) [] 14 hcl rfl (by kernel_rfl) (by kernel_rfl) ⟨rfl, .inl ⟨rfl, Quiet.norm (q_fld_p rfl)⟩⟩ rfl (fun hcl => ?_)
              refine xq (r := some _) [] 15 hcl rfl (by kernel_rfl) (by kernel_rfl) ⟨rfl, .inl ⟨rfl, Quiet.norm (q_load_elp (E := GSpec.e) (z := 3) (fun _ => rfl) rfl rfl (idx_inv x22_h).2.1 rfl)⟩⟩ rfl (fun hcl => ?_)
              refine xq (r := some _) [139] 16 hcl rfl (by kernel_rfl) (by kernel_rfl) ⟨rfl, .inl ⟨rfl, Quiet.norm (q_move rfl)⟩⟩ rfl (fun hcl => ?_)
              refine xq (r := some _) [139] 17 hcl rfl (by kernel_rfl) (by kernel_rfl) ⟨rfl, .inl ⟨rfl, Quiet.norm (q_add rfl rfl)⟩⟩ rfl (fun hcl => ?_)
              refine xq (r := some _) [] 18 hcl rfl (by kernel_rfl) (by kernel_rfl) ⟨rfl, .inl ⟨rfl, Quiet.norm (q_idx_pl rfl rfl (idx_inv x22_h).1 (idx_inv x22_h).2.2.2)⟩⟩ rfl (fun hcl => ?_)
              refine xq (r := some _) [] 19 hcl rfl (by kernel_rfl) (by kernel_rfl) ⟨rfl, .inl ⟨rfl, Quiet.norm (q_fld_p rfl)⟩⟩ rfl (fun hcl => ?_)
              refine xb hcl (l := [20]) (by kernel_rfl) (by simp) (fun i hi hcl => ?_)
              obtain rfl : i = 20 := by simpa using hi
              refine xe rfl (x_store_efp (E := GSpec.e) (z := 3) (a' := { x22 with lo := wr (x22.lo - a7) }) rfl rfl (fun _ => ⟨rfl, rfl⟩) (idx_inv x22_h).2.1 rfl rfl rfl (Nat.le_of_ble_eq_true rfl) rfl rfl rfl) ?_; rintro _ rfl
              refine xq (r := some _) [] 21 hcl rfl (by kernel_rfl) (by kernel_rfl) ⟨rfl, .inl ⟨rfl, Quiet.norm (q_idx_pl rfl rfl (idx_inv x23_h).1 (by simpa using (idx_inv x23_h).2.2.2))⟩⟩ rfl (fun hcl => ?_)
              refine xq (r := some _) [] 22 hcl rfl (by kernel_rfl) (by kernel_rfl) ⟨rfl, .inl ⟨rfl, Quiet.norm (q_fld_p rfl)⟩⟩ rfl (fun hcl => ?_)
              refine xb hcl (l := [23]) (by kernel_rfl) (by simp) (fun i hi hcl => ?_)
              obtain rfl : i = 23 := by simpa using hi
              refine xe rfl (x_store_efp (E := GSpec.e) (z := 3) (a' := { x23 with hi := wr (x22.hi + a7) }) rfl rfl (fun _ => ⟨rfl, rfl⟩) (idx_inv x23_h).2.1 rfl rfl rfl (Nat.le_of_ble_eq_true rfl) rfl rfl rfl) ?_; rintro _ rfl
              refine xn (by kernel_rfl) ?_
              refine ev_seq ?_
              refine ev_region ?_
              refine rq rfl rfl (q_loadN rfl rfl rfl rfl) ?_
              refine rq rfl rfl (q_move rfl) ?_
              refine rq rfl rfl (q_move rfl) ?_
              refine rq rfl rfl (q_move rfl) ?_
              refine rq rfl rfl (q_move rfl) ?_
              refine rq rfl rfl (q_move rfl) ?_
              obtain ⟨x24, x24_h, H⟩ := bd_inv H
              refine rq rfl rfl (q_call rfl (.v _ _ (fun e => nomatch e)) (.v rfl (.v rfl (.v rfl (.v rfl (.cons rfl (.all rfl (List.length_map _) (els_plain fun _ => ⟨rfl, rfl⟩) (fun e => nomatch e)) (.v rfl ArgsOk.nil)))))) inferInstance (quality_State_c  x24_h)) ?_
              refine rq rfl rfl (q_move rfl) ?_
              refine rq rfl rfl (q_extract rfl rfl) ?_
              refine rq rfl rfl (q_extract rfl rfl) ?_
              refine rq rfl rfl (q_extract rfl rfl) ?_
              refine rq rfl rfl (q_assign rfl) ?_
              refine rq rfl rfl (q_assign rfl) ?_
              refine rq rfl rfl (q_assign rfl) ?_
              refine run_nil ?_
              refine ev_seq ?_
              refine ev_shift (shift_as (s := 26) (d' := .o 139 0 q21 3 0 ((((([] : List GSpec) ++ a4).set ((IntKind.i64.wrap a6).tmod ((a4.length : Nat) : Int)).toNat { x22 with lo := wr (x22.lo - a7) }).set ((IntKind.i64.wrap a6).tmod ((a4.length : Nat) : Int)).toNat { x23 with hi := wr (x22.hi + a7) }).length)) rfl (by first | (simp; done) | (simp; rfl))) ?_
              refine ev_region ?_
              refine rq rfl rfl (q_loadN rfl rfl rfl rfl) ?_
              refine rq rfl rfl (q_move rfl) ?_
              refine rq rfl rfl (q_move rfl) ?_
              refine rq rfl rfl (q_move rfl) ?_
              refine rq rfl rfl (q_move rfl) ?_
              refine rq rfl rfl (q_move rfl) ?_
              obtain ⟨x25, x25_h, H⟩ := bd_inv H
              refine rq rfl rfl (q_call rfl (.v _ _ (fun e => nomatch e)) (.v rfl (.v rfl (.v rfl (.v rfl (.cons rfl (.all rfl (List.length_map _) (els_plain fun _ => ⟨rfl, rfl⟩) (fun e => nomatch e)) (.v rfl ArgsOk.nil)))))) inferInstance (quality_State_c  x25_h)) ?_
              refine rq rfl rfl (q_move rfl) ?_
              refine rq rfl rfl (q_extract rfl rfl) ?_
              refine rq rfl rfl (q_extract rfl rfl) ?_
              refine rq rfl rfl (q_extract rfl rfl) ?_
              refine rq rfl rfl (q_assign rfl) ?_
              refine rq rfl rfl (q_assign rfl) ?_
              refine rq rfl rfl (q_assign rfl) ?_
              refine run_nil ?_
              refine ev_seq ?_
              refine ev_region ?_
              refine rq rfl rfl (q_move rfl) ?_
              refine rq rfl rfl (q_eqi rfl rfl) ?_
              refine rq rfl rfl (q_move rfl) ?_
              refine rqc (l := []) ⟨⟨_, _, _, rfl, rfl, rfl, rfl⟩, rfl, fun hc => q_move rfl, trivial⟩ rfl ?_
              refine rqc (l := [203]) ⟨⟨_, _, _, rfl, rfl, rfl, rfl⟩, rfl, fun hc => q_eqi rfl rfl, ⟨fun h => h, trivial⟩⟩ rfl ?_
              refine rq rfl rfl (q_pickb rfl rfl rfl (PB.c (fun hp => hp)) PB.v) ?_
              refine rq rfl rfl (q_move rfl) ?_
              refine rqc (l := []) ⟨⟨_, _, _, rfl, rfl, rfl, rfl⟩, rfl, fun hc => q_move rfl, trivial⟩ rfl ?_
              refine rqc (l := [207]) ⟨⟨_, _, _, rfl, rfl, rfl, rfl⟩, rfl, fun hc => q_nei rfl rfl, ⟨fun h => h, trivial⟩⟩ rfl ?_
              refine rqc (l := [208]) ⟨⟨_, _, _, rfl, rfl, rfl, rfl⟩, rfl, fun hc => q_move rfl, ⟨fun h => h, trivial⟩⟩ rfl ?_
              refine rqc (l := []) ⟨⟨_, _, _, rfl, rfl, rfl, rfl⟩, rfl, fun hc => q_move rfl, trivial⟩ rfl ?_
              refine rqc (l := [210]) ⟨⟨_, _, _, rfl, rfl, rfl, rfl⟩, rfl, fun hc => q_eqi rfl rfl, ⟨fun h => h, trivial⟩⟩ rfl ?_
              refine rqc (l := [211]) ⟨⟨_, _, _, rfl, rfl, rfl, rfl⟩, rfl, fun hc => q_move rfl, ⟨fun h => h, trivial⟩⟩ rfl ?_
              refine rqc (l := []) ⟨⟨_, _, _, rfl, rfl, rfl, rfl⟩, rfl, fun hc => q_move rfl, trivial⟩ rfl ?_
              refine rqc (l := [213]) ⟨⟨_, _, _, rfl, rfl, rfl, rfl⟩, rfl, fun hc => q_eqi rfl rfl, ⟨fun h => h, trivial⟩⟩ rfl ?_
              refine rqc (l := [212]) ⟨⟨_, _, _, rfl, rfl, rfl, rfl⟩, rfl, fun hc => q_pickb rfl rfl rfl (PB.c (fun hp => by simp_all)) PB.v, ⟨fun h => h, trivial⟩⟩ rfl ?_
              refine rqc (l := [209]) ⟨⟨_, _, _, rfl, rfl, rfl, rfl⟩, rfl, fun hc => q_pickb rfl rfl rfl PB.v (PB.c (fun hp => by simp_all)), ⟨fun h => h, trivial⟩⟩ rfl ?_
              refine rq rfl rfl (q_pickb rfl rfl rfl (PB.c (fun hp => hp)) PB.v) ?_
              refine rq rfl rfl (q_assign rfl) ?_
              refine run_nil ?_
              refine ev_ret ?_
              exact ret_ok [vb (bif bif x24.2.2 == 0 then x25.2.2 == 0 else false then bif x4.1 != 0 then true else bif x24.1 == 0 then x25.1 == 0 else false else false)] (congrArg (fun r : Bool => vb r) (Option.some.inj H)) rfl (.cons (.tmp rfl (.v _ _ (fun _ => rfl))) .nil)
        · clear j5_e
          refine ev_seq ?_
          refine ev_region ?_
          refine rq rfl rfl (q_move rfl) ?_
          refine rq rfl rfl (q_len_t rfl) ?_
          refine rq rfl rfl (q_gtr rfl rfl) ?_
          refine rq rfl rfl (q_move rfl) ?_
          refine rqc (l := []) ⟨⟨_, _, _, rfl, rfl, rfl, rfl⟩, rfl, fun hc => q_move rfl, trivial⟩ rfl ?_
          refine rqc (l := []) ⟨⟨_, _, _, rfl, rfl, rfl, rfl⟩, rfl, fun hc => q_move rfl, trivial⟩ rfl ?_
          refine rqc (l := [58]) ⟨⟨_, _, _, rfl, rfl, rfl, rfl⟩, rfl, fun hc => q_len_t rfl, ⟨fun h => h, trivial⟩⟩ rfl ?_
          refine rqc (l := [59]) ⟨⟨_, _, _, rfl, rfl, rfl, rfl⟩, rfl, fun hc => q_sub rfl rfl, ⟨fun h => h, trivial⟩⟩ rfl ?_
          obtain ⟨x26, x26_h, _, H⟩ := bdc_inv H
          refine rqc (l := [57, 60]) ⟨⟨_, _, _, rfl, rfl, rfl, rfl⟩, rfl, fun hc => q_idx_l rfl rfl (idx_inv (x26_h hc)).1 (map_get (idx_inv (x26_h hc)).2.1) rfl, ⟨fun h => h, ⟨fun h => h, trivial⟩⟩⟩ rfl ?_
          refine rqc (l := [61]) ⟨⟨_, _, _, rfl, rfl, rfl, rfl⟩, rfl, fun hc => q_load1_q rfl, ⟨fun h => h, trivial⟩⟩ rfl ?_
          refine rqc (l := [62]) ⟨⟨_, _, _, rfl, rfl, rfl, rfl⟩, rfl, fun hc => q_lss rfl rfl, ⟨fun h => h, trivial⟩⟩ rfl ?_
          refine rq rfl rfl (q_pickb rfl rfl rfl (PB.c (fun hp => hp)) PB.v) ?_
          refine run_nil ?_
          refine ev_cond rfl (fun hc => ?_) (fun hc => ?_)
          · replace H := ct hc H
            refine ev_seq ?_
            refine ev_region ?_
            refine rq rfl rfl (q_move rfl) ?_
            refine rq rfl rfl (q_move rfl) ?_
            refine rq rfl rfl (q_len_t rfl) ?_
            refine rq rfl rfl (q_sub rfl rfl) ?_
            obtain ⟨x27, x27_h, H⟩ := bd_inv H
            refine rq rfl rfl (q_idx_l rfl rfl (idx_inv x27_h).1 (map_get (idx_inv x27_h).2.1) rfl) ?_
            refine rq rfl rfl (q_load1_q rfl) ?_
            refine rq rfl rfl (q_add rfl rfl) ?_
            refine rq rfl rfl (q_assign rfl) ?_
            refine run_nil ?_
            refine ev_seq ?_
            obtain ⟨w29, H⟩ := gdd_inv H
            obtain ⟨w31, H⟩ := gdd_inv H
            obtain ⟨x33, x33_h, H⟩ := bd_inv H
            refine ev_drawX (fun i => (assocN [(5, [78]), (7, [78]), (10, [78])] i).getD []) rfl ?_
            refine xq (r := some _) [78] 0 (.start _) rfl (by kernel_rfl) (by kernel_rfl) ⟨rfl, .inl ⟨rfl, Quiet.norm (q_loadN rfl rfl rfl rfl)⟩⟩ rfl (fun hcl => ?_)
            refine xq (r := some _) [78] 1 hcl rfl (by kernel_rfl) (by kernel_rfl) ⟨rfl, .inl ⟨rfl, Quiet.norm (q_move rfl)⟩⟩ rfl (fun hcl => ?_)
            refine xq (r := some _) [78] 2 hcl rfl (by kernel_rfl) (by kernel_rfl) ⟨rfl, .inl ⟨rfl, Quiet.norm (q_move rfl)⟩⟩ rfl (fun hcl => ?_)
            refine xq (r := some _) [78] 3 hcl rfl (by kernel_rfl) (by kernel_rfl) ⟨rfl, .inl ⟨rfl, Quiet.norm (q_move rfl)⟩⟩ rfl (fun hcl => ?_)
            refine xq (r := some _) [78] 4 hcl rfl (by kernel_rfl) (by kernel_rfl) ⟨rfl, .inl ⟨rfl, Quiet.norm (q_move rfl)⟩⟩ rfl (fun hcl => ?_)
            refine xq (r := some _) [78] 6 hcl rfl (by kernel_rfl) (by kernel_rfl) ⟨rfl, .inl ⟨rfl, Quiet.norm (q_move rfl)⟩⟩ rfl (fun hcl => ?_)
            refine xq (r := some _) [78] 8 hcl rfl (by kernel_rfl) (by kernel_rfl) ⟨rfl, .inl ⟨rfl, Quiet.norm (q_move rfl)⟩⟩ rfl (fun hcl => ?_)
            refine xq (r := some _) [78] 9 hcl rfl (by kernel_rfl) (by kernel_rfl) ⟨rfl, .inl ⟨rfl, Quiet.norm (q_buildSlice (z := 1) (xs := List.map vi ([wr (x27 + 1)] : List Int)) (fl := true) rfl rfl rfl rfl (by simp [V.plain, V.cells, vi, vb]) rfl)⟩⟩ rfl (fun hcl => ?_)
            refine xb hcl (l := [5]) (by kernel_rfl) (by simp) (fun i hi hcl => ?_)
            obtain rfl : i = 5 := by simpa using hi
            refine xe rfl (x_buildSlice 78 0 rfl rfl rfl rfl rfl) ?_; rintro _ ⟨b34, rfl⟩
            refine xb hcl (l := [7]) (by kernel_rfl) (by simp) (fun i hi hcl => ?_)
            obtain rfl : i = 7 := by simpa using hi
            refine xe rfl (x_appt_f (f1 := true) rfl rfl rfl (fun _ => ⟨rfl, rfl⟩) (fun _ => rfl) rfl rfl rfl w29 rfl rfl) ?_; rintro _ ⟨q35, rfl⟩
            refine xb hcl (l := [10]) (by kernel_rfl) (by simp) (fun i hi hcl => ?_)
            obtain rfl : i = 10 := by simpa using hi
            refine xe rfl (x_appt rfl rfl rfl (fun _ => ⟨rfl, rfl⟩) rfl rfl rfl w31 rfl rfl) ?_; rintro _ ⟨q36, rfl⟩
            refine xq (r := some _) [] 11 hcl rfl (by kernel_rfl) (by kernel_rfl) ⟨rfl, .inl ⟨rfl, Quiet.norm (q_call rfl (.v _ _ (fun e => nomatch e)) (.v rfl (.v rfl (.v rfl (.v rfl (.v rfl (.cons rfl (.all rfl (List.length_map _) (els_plain fun _ => ⟨rfl, rfl⟩) (fun e => nomatch e)) ArgsOk.nil)))))) inferInstance (quality_State_c  x33_h))⟩⟩ rfl (fun hcl => ?_)
            refine xq (r := some _) [] 12 hcl rfl (by kernel_rfl) (by kernel_rfl) ⟨rfl, .inl ⟨rfl, Quiet.norm (q_move rfl)⟩⟩ rfl (fun hcl => ?_)
            refine xq (r := some _) [] 13 hcl rfl (by kernel_rfl) (by kernel_rfl) ⟨rfl, .inl ⟨rfl, Quiet.norm (q_extract rfl rfl)⟩⟩ rfl (fun hcl => ?_)
            refine xq (r := some _) [] 14 hcl rfl (by kernel_rfl) (by kernel_rfl) ⟨rfl, .inl ⟨rfl, Quiet.norm (q_extract rfl rfl)⟩⟩ rfl (fun hcl => ?_)
            refine xq (r := some _) [] 15 hcl rfl (by kernel_rfl) (by kernel_rfl) ⟨rfl, .inl ⟨rfl, Quiet.norm (q_extract rfl rfl)⟩⟩ rfl (fun hcl => ?_)
            refine xq (r := some _) [] 16 hcl rfl (by kernel_rfl) (by kernel_rfl) ⟨rfl, .inl ⟨rfl, Quiet.norm (q_assign rfl)⟩⟩ rfl (fun hcl => ?_)
            refine xq (r := some _) [] 17 hcl rfl (by kernel_rfl) (by kernel_rfl) ⟨rfl, .inl ⟨rfl, Quiet.norm (q_assign rfl)⟩⟩ rfl (fun hcl => ?_)
            refine xq (r := some _) [] 18 hcl rfl (by kernel_rfl) (by kernel_rfl) ⟨rfl, .inl ⟨rfl, Quiet.norm (q_assign rfl)⟩⟩ rfl (fun hcl => ?_)
            refine xn (by kernel_rfl) ?_
            refine ev_seq ?_
            refine ev_region ?_
            refine rq rfl rfl (q_move rfl) ?_
            refine rq rfl rfl (q_nei rfl rfl) ?_
            refine rq rfl rfl (q_move rfl) ?_
            refine rqc (l := []) ⟨⟨_, _, _, rfl, rfl, rfl, rfl⟩, rfl, fun hc => q_move rfl, trivial⟩ rfl ?_
            refine rqc (l := []) ⟨⟨_, _, _, rfl, rfl, rfl, rfl⟩, rfl, fun hc => q_move rfl, trivial⟩ rfl ?_
            refine rqc (l := [91, 92]) ⟨⟨_, _, _, rfl, rfl, rfl, rfl⟩, rfl, fun hc => q_nei rfl rfl, ⟨fun h => h, ⟨fun h => h, trivial⟩⟩⟩ rfl ?_
            refine rqc (l := [93]) ⟨⟨_, _, _, rfl, rfl, rfl, rfl⟩, rfl, fun hc => q_move rfl, ⟨fun h => h, trivial⟩⟩ rfl ?_
            refine rqc (l := []) ⟨⟨_, _, _, rfl, rfl, rfl, rfl⟩, rfl, fun hc => q_move rfl, trivial⟩ rfl ?_
            refine rqc (l := []) ⟨⟨_, _, _, rfl, rfl, rfl, rfl⟩, rfl, fun hc => q_move rfl, trivial⟩ rfl ?_
            refine rqc (l := [95, 96]) ⟨⟨_, _, _, rfl, rfl, rfl, rfl⟩, rfl, fun hc => q_nei rfl rfl, ⟨fun h => h, ⟨fun h => h, trivial⟩⟩⟩ rfl ?_
            refine rqc (l := [94]) ⟨⟨_, _, _, rfl, rfl, rfl, rfl⟩, rfl, fun hc => q_pickb rfl rfl rfl (PB.c (fun hp => by simp_all)) PB.v, ⟨fun h => h, trivial⟩⟩ rfl ?_
            refine rq rfl rfl (q_pickb rfl rfl rfl PB.v (PB.c (fun hp => by rw [hp]; rfl))) ?_
            refine rq rfl rfl (q_move rfl) ?_
            refine rqc (l := []) ⟨⟨_, _, _, rfl, rfl, rfl, rfl⟩, rfl, fun hc => q_move rfl, trivial⟩ rfl ?_
            refine rqc (l := []) ⟨⟨_, _, _, rfl, rfl, rfl, rfl⟩, rfl, fun hc => q_move rfl, trivial⟩ rfl ?_
            refine rqc (l := [101, 102]) ⟨⟨_, _, _, rfl, rfl, rfl, rfl⟩, rfl, fun hc => q_eqi rfl rfl, ⟨fun h => h, ⟨fun h => h, trivial⟩⟩⟩ rfl ?_
            refine rqc (l := [103]) ⟨⟨_, _, _, rfl, rfl, rfl, rfl⟩, rfl, fun hc => q_move rfl, ⟨fun h => h, trivial⟩⟩ rfl ?_
            refine rqc (l := []) ⟨⟨_, _, _, rfl, rfl, rfl, rfl⟩, rfl, fun hc => q_move rfl, trivial⟩ rfl ?_
            refine rqc (l := [105]) ⟨⟨_, _, _, rfl, rfl, rfl, rfl⟩, rfl, fun hc => q_nei rfl rfl, ⟨fun h => h, trivial⟩⟩ rfl ?_
            refine rqc (l := [104]) ⟨⟨_, _, _, rfl, rfl, rfl, rfl⟩, rfl, fun hc => q_pickb rfl rfl rfl (PB.c (fun hp => by simp_all)) PB.v, ⟨fun h => h, trivial⟩⟩ rfl ?_
            refine rqc (l := [107]) ⟨⟨_, _, _, rfl, rfl, rfl, rfl⟩, rfl, fun hc => q_move rfl, ⟨fun h => h, trivial⟩⟩ rfl ?_
            refine rqc (l := []) ⟨⟨_, _, _, rfl, rfl, rfl, rfl⟩, rfl, fun hc => q_move rfl, trivial⟩ rfl ?_
            refine rqc (l := [109]) ⟨⟨_, _, _, rfl, rfl, rfl, rfl⟩, rfl, fun hc => q_nei rfl rfl, ⟨fun h => h, trivial⟩⟩ rfl ?_
            refine rqc (l := [108]) ⟨⟨_, _, _, rfl, rfl, rfl, rfl⟩, rfl, fun hc => q_pickb rfl rfl rfl (PB.c (fun hp => by simp_all)) PB.v, ⟨fun h => h, trivial⟩⟩ rfl ?_
            refine rq rfl rfl (q_pickb rfl rfl rfl PB.v (PB.c (fun hp => by rw [hp]; rfl))) ?_
            refine run_nil ?_
            refine ev_cond rfl (fun hc => ?_) (fun hc => ?_)
            · replace H := ct hc H
              refine ev_seq ?_
              refine ev_region ?_
              refine rq rfl rfl (q_assign rfl) ?_
              refine run_nil ?_
              refine ev_ret ?_
              exact ret_ok [vb false] (congrArg (fun r : Bool => vb r) (Option.some.inj H)) rfl (.cons (.tmp rfl (.v _ _ (fun _ => rfl))) .nil)
            · replace H := cf hc H
              refine ev_skip ?_
              exact ⟨_, ⟨H, rfl⟩, shift_mk ⟨⟨_, rfl, (.flat rfl)⟩, ⟨⟨_, rfl, (.flat rfl)⟩, ⟨⟨_, rfl, (.flat rfl)⟩, ⟨⟨_, rfl, .rfl⟩, ⟨⟨_, rfl, .rfl⟩, ⟨⟨_, rfl, (.flat rfl)⟩, ⟨⟨_, rfl, (.flat rfl)⟩, ⟨⟨_, rfl, .rfl⟩, ⟨⟨_, rfl, (.flat rfl)⟩, ⟨⟨_, rfl, (.flat rfl)⟩, trivial⟩⟩⟩⟩⟩⟩⟩⟩⟩⟩ ⟨(.e rfl), trivial⟩ rfl rfl⟩
          · replace H := cf hc H
            refine ev_skip ?_
            exact ⟨_, ⟨H, rfl⟩, shift_mk ⟨⟨_, rfl, (.flat rfl)⟩, ⟨⟨_, rfl, (.flat rfl)⟩, ⟨⟨_, rfl, (.flat rfl)⟩, ⟨⟨_, rfl, .rfl⟩, ⟨⟨_, rfl, .rfl⟩, ⟨⟨_, rfl, (.flat rfl)⟩, ⟨⟨_, rfl, (.flat rfl)⟩, ⟨⟨_, rfl, .rfl⟩, ⟨⟨_, rfl, (.flat rfl)⟩, ⟨⟨_, rfl, (.flat rfl)⟩, trivial⟩⟩⟩⟩⟩⟩⟩⟩⟩⟩ ⟨(.e rfl), trivial⟩ rfl rfl⟩
def backflushlaw40_QualityTrue_m (a0 : GWorld) (a1 : GCertificate) (a2 : Int) (a3 : Int) (a4 : List GSpec) : Option Bool := bd (backflushlaw40_sane_m) fun x3 => bif !x3 then (some false) else (bd (backflushref40_Few_m a0 a4 []) fun x4 => bif bif !x4 then true else decide (20 < ((a1.results.length : Nat) : Int)) then (some true) else (bd (quality_Check_m a0 a1 a2 a3 a4) fun x5 => bif x5.2 != 0 then (some (bif !x5.1 then x5.2 == 400 else false)) else (forL a4 (fun (k8 : Nat) (x13 : GSpec) (s6 : Bool × Int × Bool) loop7 => jn (fun (p17 : Bool) (p18 : Int) (p19 : Bool) => loop7 (p17, p18, p19)) fun j16 => bd (facts_At_m a0.facts (⟨8, a1.lot, x13.test⟩ : GKey) a2 a3) fun x21 => bif bif !x21.2 then true else decide (x21.1 < 0) then (j16 false s6.2.1 s6.2.2) else (bdc (bif s6.2.2 then decide (s6.2.1 < ((a1.results.length : Nat) : Int)) else false) (idx a1.results s6.2.1) fun x22 => j16 (bif bif s6.1 then decide (x13.lo ≤ x21.1) else false then decide (x21.1 ≤ x13.hi) else false) (wr (s6.2.1 + 1)) (bif bif s6.2.2 then decide (s6.2.1 < ((a1.results.length : Nat) : Int)) else false then GPoint.eqb x22 (⟨x13.test, x21.1⟩ : GPoint) else false))) (fun (s6 : Bool × Int × Bool) => some (x5.1 == (bif bif s6.2.2 then s6.2.1 == ((a1.results.length : Nat) : Int) else false then a1.good == s6.1 else false))) (true, 0, true))))
theorem backflushlaw40_QualityTrue_c {a0 : GWorld} {a1 : GCertificate} {a2 : Int} {a3 : Int} {a4 : List GSpec} {r : Bool} (H : backflushlaw40_QualityTrue_m a0 a1 a2 a3 a4 = some r) : PureC Try.prog true 7 [GWorld.e a0, GCertificate.e a1, vi a2, vi a3, V.l 3 (List.map GSpec.e a4)] (vb r) := by
  unfold backflushlaw40_QualityTrue_m at H
  refine pure_intro (N := 126) Try.func7 rfl rfl rfl rfl fun C hO => ?_
  refine ev_shift (shift_mk (fs := [(0, .v false (GWorld.e a0)), (1, .v false (GCertificate.e a1)), (2, .v true (vi a2)), (3, .v true (vi a3)), (4, .v false (V.l 3 (List.map GSpec.e a4)))]) (es := []) ⟨⟨_, rfl, .rfl⟩, ⟨⟨_, rfl, .rfl⟩, ⟨⟨_, rfl, (.flat rfl)⟩, ⟨⟨_, rfl, (.flat rfl)⟩, ⟨⟨_, rfl, .rfl⟩, trivial⟩⟩⟩⟩⟩ trivial rfl rfl) ?_
  refine ev_seq ?_
  refine ev_region ?_
  refine re rfl (e_box 5 0 rfl rfl rfl) ?_; rintro _ ⟨b1, rfl⟩
  refine re rfl (e_box 6 0 rfl rfl rfl) ?_; rintro _ ⟨b2, rfl⟩
  refine rq rfl rfl (q_assign rfl) ?_
  refine run_nil ?_
  refine ev_seq ?_
  refine ev_seq ?_
  refine ev_region ?_
  obtain ⟨x3, x3_h, H⟩ := bd_inv H
  refine rq rfl rfl (q_call rfl (.v _ _ (fun e => nomatch e)) ArgsOk.nil inferInstance (backflushlaw40_sane_c  x3_h)) ?_
  refine rq rfl rfl (q_not rfl) ?_
  refine run_nil ?_
  refine ev_cond rfl (fun hc => ?_) (fun hc => ?_)
  · replace H := ct hc H
    refine ev_seq ?_
    refine ev_region ?_
    refine rq rfl rfl (q_assign rfl) ?_
    refine run_nil ?_
    refine ev_ret ?_
    exact ret_ok [vb false] (congrArg (fun r : Bool => vb r) (Option.some.inj H)) rfl (.cons (.tmp rfl (.v _ _ (fun _ => rfl))) .nil)
  · replace H := cf hc H
    refine ev_skip ?_
    refine ev_seq ?_
    refine ev_seq ?_
    refine ev_region ?_
    refine rq rfl rfl (q_loadN rfl rfl rfl rfl) ?_
    refine rq rfl rfl (q_move rfl) ?_
    obtain ⟨x4, x4_h, H⟩ := bd_inv H
    refine rq rfl rfl (q_call rfl (.v _ _ (fun e => nomatch e)) (.v rfl (.v rfl (.z rfl ArgsOk.nil))) inferInstance (backflushref40_Few_c  x4_h)) ?_
    refine rq rfl rfl (q_not rfl) ?_
    refine rq rfl rfl (q_move rfl) ?_
    refine rqc (l := []) ⟨⟨_, _, _, rfl, rfl, rfl, rfl⟩, rfl, fun hc => q_fld_p rfl, trivial⟩ rfl ?_
    refine rqc (l := [27]) ⟨⟨_, _, _, rfl, rfl, rfl, rfl⟩, rfl, fun hc => q_load1 rfl rfl rfl, ⟨fun h => h, trivial⟩⟩ rfl ?_
    refine rqc (l := [28]) ⟨⟨_, _, _, rfl, rfl, rfl, rfl⟩, rfl, fun hc => q_len_t rfl, ⟨fun h => h, trivial⟩⟩ rfl ?_
    refine rqc (l := [29]) ⟨⟨_, _, _, rfl, rfl, rfl, rfl⟩, rfl, fun hc => q_gtr rfl rfl, ⟨fun h => h, trivial⟩⟩ rfl ?_
    refine rq rfl rfl (q_pickb rfl rfl rfl PB.v (PB.c (fun hp => by rw [hp]; rfl))) ?_
    refine run_nil ?_
    refine ev_cond rfl (fun hc => ?_) (fun hc => ?_)
    · replace H := ct hc H
      refine ev_seq ?_
      refine ev_region ?_
      refine rq rfl rfl (q_assign rfl) ?_
      refine run_nil ?_
      refine ev_ret ?_
      exact ret_ok [vb true] (congrArg (fun r : Bool => vb r) (Option.some.inj H)) rfl (.cons (.tmp rfl (.v _ _ (fun _ => rfl))) .nil)
    · replace H := cf hc H
      refine ev_skip ?_
      refine ev_seq ?_
      refine ev_region ?_
      refine rq rfl rfl (q_loadN rfl rfl rfl rfl) ?_
      refine rq rfl rfl (q_loadN rfl rfl rfl rfl) ?_
      refine rq rfl rfl (q_move rfl) ?_
      refine rq rfl rfl (q_move rfl) ?_
      refine rq rfl rfl (q_move rfl) ?_
      obtain ⟨x5, x5_h, H⟩ := bd_inv H
      refine rq rfl rfl (q_call rfl (.v _ _ (fun e => nomatch e)) (.v rfl (.v rfl (.v rfl (.v rfl (.v rfl ArgsOk.nil))))) inferInstance (quality_Check_c  x5_h)) ?_
      refine rq rfl rfl (q_move rfl) ?_
      refine rq rfl rfl (q_extract rfl rfl) ?_
      refine rq rfl rfl (q_extract rfl rfl) ?_
      refine rq rfl rfl (q_assign rfl) ?_
      refine rq rfl rfl (q_assign rfl) ?_
      refine run_nil ?_
      refine ev_seq ?_
      refine ev_seq ?_
      refine ev_region ?_
      refine rq rfl rfl (q_move rfl) ?_
      refine rq rfl rfl (q_nei rfl rfl) ?_
      refine run_nil ?_
      refine ev_cond rfl (fun hc => ?_) (fun hc => ?_)
      · replace H := ct hc H
        refine ev_seq ?_
        refine ev_region ?_
        refine rq rfl rfl (q_move rfl) ?_
        refine rq rfl rfl (q_not rfl) ?_
        refine rq rfl rfl (q_move rfl) ?_
        refine rqc (l := []) ⟨⟨_, _, _, rfl, rfl, rfl, rfl⟩, rfl, fun hc => q_move rfl, trivial⟩ rfl ?_
        refine rqc (l := [46]) ⟨⟨_, _, _, rfl, rfl, rfl, rfl⟩, rfl, fun hc => q_eqi rfl rfl, ⟨fun h => h, trivial⟩⟩ rfl ?_
        refine rq rfl rfl (q_pickb rfl rfl rfl (PB.c (fun hp => hp)) PB.v) ?_
        refine rq rfl rfl (q_assign rfl) ?_
        refine run_nil ?_
        refine ev_ret ?_
        exact ret_ok [vb (bif !x5.1 then x5.2 == 400 else false)] (congrArg (fun r : Bool => vb r) (Option.some.inj H)) rfl (.cons (.tmp rfl (.v _ _ (fun _ => rfl))) .nil)
      · replace H := cf hc H
        refine ev_skip ?_
        refine ev_seq ?_
        refine ev_region ?_
        refine rq rfl rfl (q_assign rfl) ?_
        refine rq rfl rfl (q_assign rfl) ?_
        refine run_nil ?_
        refine ev_seq ?_
        refine ev_region ?_
        refine rq rfl rfl (q_assign rfl) ?_
        refine run_nil ?_
        refine ev_seq ?_
        refine ev_seq ?_
        refine ev_region ?_
        refine rq rfl rfl (q_move rfl) ?_
        refine rq rfl rfl (q_len_t rfl) ?_
        refine rq rfl rfl (q_move rfl) ?_
        refine run_nil ?_
        refine ev_block ?_
        refine ev_len_l (s := 49) rfl fun w15 => ?_
        rw [List.length_map] at w15
        refine ev_forL H (fun k8 s6 σ' => σ' = mkS [(2, .v true (vi a2)), (3, .v true (vi a3)), (5, .p 5 0 b1 0), (6, .p 6 0 b2 0), (10, .v true (vb false)), (11, .v true (vb x5.1)), (13, .v true (vb s6.1)), (14, .v true (vi s6.2.1)), (15, .v true (vb s6.2.2)), (49, .v false (V.l 3 (List.map GSpec.e a4))), (50, .v true (vi ((a4.length : Nat) : Int))), (51, .v true (vi ((k8 : Nat) : Int)))] [.e 5 0 (some (b1, 11)) (.row 38 [.v false (V.l 8 (List.map GUnit.e a0.tables.source.units)), .v false (V.l 6 (List.map GItem.e a0.tables.source.items)), .v false (V.l 1 (List.map V.s a0.tables.source.plants)), .v false (V.l 4 (List.map GMachine.e a0.tables.source.machines)), .v false (V.l 2 (List.map GOption.e a0.tables.source.options)), .v false (V.l 1 (List.map (fun l => V.l 4 (List.map GCond.e l)) a0.tables.source.forbids)), .v false (V.l 17 (List.map GRecipe.e a0.tables.source.recipes)), .v false (V.l 4 (List.map GSwap.e a0.tables.source.swaps)), .v false (V.l 1 (List.map vi a0.tables.levels)), .v false (V.l 1 (List.map (fun l => V.l 6 (List.map GInst.e l)) a0.tables.codes)), .v false (V.l 8 (List.map GFact.e a0.facts))]), .e 6 0 (some (b2, 3)) (.row 47 [.v true (vi a1.lot), .v false (V.l 2 (List.map GPoint.e a1.results)), .v true (vb a1.good)])] [] (0, false)) ⟨_, rfl, shift_mk ⟨⟨_, rfl, (.flat rfl)⟩, ⟨⟨_, rfl, (.flat rfl)⟩, ⟨⟨_, rfl, .rfl⟩, ⟨⟨_, rfl, .rfl⟩, ⟨⟨_, rfl, (.flat rfl)⟩, ⟨⟨_, rfl, (.flat rfl)⟩, ⟨⟨_, rfl, (.flat rfl)⟩, ⟨⟨_, rfl, (.flat rfl)⟩, ⟨⟨_, rfl, (.flat rfl)⟩, ⟨⟨_, rfl, .rfl⟩, ⟨⟨_, rfl, (.flat rfl)⟩, ⟨⟨_, rfl, .rfl⟩, trivial⟩⟩⟩⟩⟩⟩⟩⟩⟩⟩⟩⟩ ⟨(.e rfl), ⟨(.w rfl (.cons (.flat rfl) (.cons .rfl (.cons (.flat rfl) .nil)))), trivial⟩⟩ rfl rfl⟩ ?_
        rintro k8 s6 _ rfl _ H
        refine ev_seq ?_
        refine ev_region ?_
        refine rq rfl rfl (q_lss rfl rfl) ?_
        refine run_nil ?_
        refine ev_seq ?_
        refine ev_cond rfl (fun hc => ?_) (fun hc => ?_)
        · obtain ⟨x13, w14, x13_g, H⟩ := forL_in hc H
          have x13_h : idx a4 ((k8 : Nat) : Int) = some x13 := by rw [idx_nat]; exact x13_g
          refine ev_skip ?_
          obtain ⟨j16, j16_e, H⟩ := jn_inv H
          refine ev_join (fun σ' => ∃ (p17 : Bool) (p18 : Int) (p19 : Bool), j16 p17 p18 p19 = some r ∧ σ' = mkS [(2, .v true (vi a2)), (3, .v true (vi a3)), (5, .p 5 0 b1 0), (6, .p 6 0 b2 0), (10, .v true (vb false)), (11, .v true (vb x5.1)), (13, .v true (vb p17)), (14, .v true (vi p18)), (15, .v true (vb p19)), (49, .v false (V.l 3 (List.map GSpec.e a4))), (50, .v true (vi ((a4.length : Nat) : Int))), (51, .v true (vi ((k8 : Nat) : Int)))] [.e 5 0 (some (b1, 11)) (.row 38 [.v false (V.l 8 (List.map GUnit.e a0.tables.source.units)), .v false (V.l 6 (List.map GItem.e a0.tables.source.items)), .v false (V.l 1 (List.map V.s a0.tables.source.plants)), .v false (V.l 4 (List.map GMachine.e a0.tables.source.machines)), .v false (V.l 2 (List.map GOption.e a0.tables.source.options)), .v false (V.l 1 (List.map (fun l => V.l 4 (List.map GCond.e l)) a0.tables.source.forbids)), .v false (V.l 17 (List.map GRecipe.e a0.tables.source.recipes)), .v false (V.l 4 (List.map GSwap.e a0.tables.source.swaps)), .v false (V.l 1 (List.map vi a0.tables.levels)), .v false (V.l 1 (List.map (fun l => V.l 6 (List.map GInst.e l)) a0.tables.codes)), .v false (V.l 8 (List.map GFact.e a0.facts))]), .e 6 0 (some (b2, 3)) (.row 47 [.v true (vi a1.lot), .v false (V.l 2 (List.map GPoint.e a1.results)), .v true (vb a1.good)])] [] (0, false)) ?_ ?_
          · rintro _ ⟨p17, p18, p19, H, rfl⟩
            subst j16_e
            refine ev_region ?_
            refine rq rfl rfl (q_add rfl rfl) ?_
            refine rq rfl rfl (q_move rfl) ?_
            refine run_nil ?_
            exact ⟨_, _, w14, H, rfl, shift_mk ⟨⟨_, rfl, (.flat rfl)⟩, ⟨⟨_, rfl, (.flat rfl)⟩, ⟨⟨_, rfl, .rfl⟩, ⟨⟨_, rfl, .rfl⟩, ⟨⟨_, rfl, (.flat rfl)⟩, ⟨⟨_, rfl, (.flat rfl)⟩, ⟨⟨_, rfl, (.flat rfl)⟩, ⟨⟨_, rfl, (.flat rfl)⟩, ⟨⟨_, rfl, (.flat rfl)⟩, ⟨⟨_, rfl, .rfl⟩, ⟨⟨_, rfl, (.flat rfl)⟩, ⟨⟨_, rfl, (.eq (congrArg (fun n => D.v true (vi n)) (wrap_succ w14 w15)))⟩, trivial⟩⟩⟩⟩⟩⟩⟩⟩⟩⟩⟩⟩ ⟨(.e rfl), ⟨(.w rfl (.cons (.flat rfl) (.cons .rfl (.cons (.flat rfl) .nil)))), trivial⟩⟩ rfl rfl⟩
          · clear j16_e
            refine ev_block ?_
            refine ev_seq ?_
            refine ev_region ?_
            refine rq rfl rfl (q_idx_l rfl rfl (idx_inv x13_h).1 (map_get (idx_inv x13_h).2.1) rfl) ?_
            refine rq rfl rfl (q_load_e rfl rfl rfl) ?_
            refine re rfl (e_alloc 17 0 rfl rfl) ?_; rintro _ ⟨b20, rfl⟩
            refine re rfl (e_store rfl rfl rfl rfl rfl (Nat.le_of_ble_eq_true rfl) rfl) ?_; rintro _ rfl
            refine run_nil ?_
            refine ev_seq ?_
            refine ev_region ?_
            refine rq rfl rfl (q_fld_p rfl) ?_
            refine rq rfl rfl (q_load1 rfl rfl rfl) ?_
            refine rq rfl rfl (q_fld_p rfl) ?_
            refine rq rfl rfl (q_load1 rfl rfl rfl) ?_
            refine rq rfl rfl (q_fld_p rfl) ?_
            refine rq rfl rfl (q_load1 rfl rfl rfl) ?_
            refine rq rfl rfl (q_build rfl (.v rfl rfl rfl rfl rfl (.v rfl rfl rfl rfl rfl (.v rfl rfl rfl rfl rfl .nil)))) ?_
            refine rq rfl rfl (q_move rfl) ?_
            refine rq rfl rfl (q_move rfl) ?_
            obtain ⟨x21, x21_h, H⟩ := bd_inv H
            refine rq rfl rfl (q_call rfl (.v _ _ (fun e => nomatch e)) (.v rfl (.v rfl (.v rfl (.v rfl ArgsOk.nil)))) inferInstance (facts_At_c  x21_h)) ?_
            refine rq rfl rfl (q_move rfl) ?_
            refine rq rfl rfl (q_extract rfl rfl) ?_
            refine rq rfl rfl (q_extract rfl rfl) ?_
            refine rq rfl rfl (q_assign rfl) ?_
            refine rq rfl rfl (q_assign rfl) ?_
            refine run_nil ?_
            refine ev_seq ?_
            refine ev_seq ?_
            refine ev_region ?_
            refine rq rfl rfl (q_move rfl) ?_
            refine rq rfl rfl (q_not rfl) ?_
            refine rq rfl rfl (q_move rfl) ?_
            refine rqc (l := []) ⟨⟨_, _, _, rfl, rfl, rfl, rfl⟩, rfl, fun hc => q_move rfl, trivial⟩ rfl ?_
            refine rqc (l := [71]) ⟨⟨_, _, _, rfl, rfl, rfl, rfl⟩, rfl, fun hc => q_lss rfl rfl, ⟨fun h => h, trivial⟩⟩ rfl ?_
            refine rq rfl rfl (q_pickb rfl rfl rfl PB.v (PB.c (fun hp => by rw [hp]; rfl))) ?_
            refine run_nil ?_
            refine ev_cond rfl (fun hc => ?_) (fun hc => ?_)
            · replace H := ct hc H
              refine ev_seq ?_
              refine ev_region ?_
              refine rq rfl rfl (q_assign rfl) ?_
              refine run_nil ?_
              refine ev_exit ?_
              exact ⟨_, ⟨false, s6.2.1, s6.2.2, H, rfl⟩, shift_mk ⟨⟨_, rfl, (.flat rfl)⟩, ⟨⟨_, rfl, (.flat rfl)⟩, ⟨⟨_, rfl, .rfl⟩, ⟨⟨_, rfl, .rfl⟩, ⟨⟨_, rfl, (.flat rfl)⟩, ⟨⟨_, rfl, (.flat rfl)⟩, ⟨⟨_, rfl, (.flat rfl)⟩, ⟨⟨_, rfl, (.flat rfl)⟩, ⟨⟨_, rfl, (.flat rfl)⟩, ⟨⟨_, rfl, .rfl⟩, ⟨⟨_, rfl, (.flat rfl)⟩, ⟨⟨_, rfl, (.flat rfl)⟩, trivial⟩⟩⟩⟩⟩⟩⟩⟩⟩⟩⟩⟩ ⟨(.e rfl), ⟨(.w rfl (.cons (.flat rfl) (.cons .rfl (.cons (.flat rfl) .nil)))), trivial⟩⟩ rfl rfl⟩
            · replace H := cf hc H
              refine ev_skip ?_
              refine ev_seq ?_
              refine ev_region ?_
              refine rq rfl rfl (q_move rfl) ?_
              refine rq rfl rfl (q_move rfl) ?_
              refine rqc (l := []) ⟨⟨_, _, _, rfl, rfl, rfl, rfl⟩, rfl, fun hc => q_move rfl, trivial⟩ rfl ?_
              refine rqc (l := []) ⟨⟨_, _, _, rfl, rfl, rfl, rfl⟩, rfl, fun hc => q_fld_p rfl, trivial⟩ rfl ?_
              refine rqc (l := [77]) ⟨⟨_, _, _, rfl, rfl, rfl, rfl⟩, rfl, fun hc => q_load1 rfl rfl rfl, ⟨fun h => h, trivial⟩⟩ rfl ?_
              refine rqc (l := [76, 78]) ⟨⟨_, _, _, rfl, rfl, rfl, rfl⟩, rfl, fun hc => q_geq rfl rfl, ⟨fun h => h, ⟨fun h => h, trivial⟩⟩⟩ rfl ?_
              refine rq rfl rfl (q_pickb rfl rfl rfl (PB.c (fun hp => hp)) PB.v) ?_
              refine rq rfl rfl (q_move rfl) ?_
              refine rqc (l := []) ⟨⟨_, _, _, rfl, rfl, rfl, rfl⟩, rfl, fun hc => q_move rfl, trivial⟩ rfl ?_
              refine rqc (l := []) ⟨⟨_, _, _, rfl, rfl, rfl, rfl⟩, rfl, fun hc => q_fld_p rfl, trivial⟩ rfl ?_
              refine rqc (l := [83]) ⟨⟨_, _, _, rfl, rfl, rfl, rfl⟩, rfl, fun hc => q_load1 rfl rfl rfl, ⟨fun h => h, trivial⟩⟩ rfl ?_
              refine rqc (l := [82, 84]) ⟨⟨_, _, _, rfl, rfl, rfl, rfl⟩, rfl, fun hc => q_leq rfl rfl, ⟨fun h => h, ⟨fun h => h, trivial⟩⟩⟩ rfl ?_
              refine rq rfl rfl (q_pickb rfl rfl rfl (PB.c (fun hp => hp)) PB.v) ?_
              refine rq rfl rfl (q_assign rfl) ?_
              refine run_nil ?_
              refine ev_seq ?_
              obtain ⟨x22, x22_h, _, H⟩ := bdc_inv H
              refine ev_draw rfl (by kernel_rfl) ?_
              refine qq rfl rfl (q_move rfl) ?_
              refine qq rfl rfl (q_move rfl) ?_
              refine qc (l := []) ⟨⟨_, _, _, rfl, rfl, rfl, rfl⟩, rfl, fun hc => q_move rfl, trivial⟩ rfl rfl ?_
              refine qc (l := []) ⟨⟨_, _, _, rfl, rfl, rfl, rfl⟩, rfl, fun hc => q_fld_p rfl, trivial⟩ rfl rfl ?_
              refine qc (l := [90]) ⟨⟨_, _, _, rfl, rfl, rfl, rfl⟩, rfl, fun hc => q_load1 rfl rfl rfl, ⟨fun h => h, trivial⟩⟩ rfl rfl ?_
              refine qc (l := [91]) ⟨⟨_, _, _, rfl, rfl, rfl, rfl⟩, rfl, fun hc => q_len_t rfl, ⟨fun h => h, trivial⟩⟩ rfl rfl ?_
              refine qc (l := [89, 92]) ⟨⟨_, _, _, rfl, rfl, rfl, rfl⟩, rfl, fun hc => q_lss rfl rfl, ⟨fun h => h, ⟨fun h => h, trivial⟩⟩⟩ rfl rfl ?_
              refine qq rfl rfl (q_pickb rfl rfl rfl (PB.c (fun hp => hp)) PB.v) ?_
              refine qq rfl rfl (q_move rfl) ?_
              refine qc (l := []) ⟨⟨_, _, _, rfl, rfl, rfl, rfl⟩, rfl, fun hc => q_fld_p rfl, trivial⟩ rfl rfl ?_
              refine qc (l := [96]) ⟨⟨_, _, _, rfl, rfl, rfl, rfl⟩, rfl, fun hc => q_load1 rfl rfl rfl, ⟨fun h => h, trivial⟩⟩ rfl rfl ?_
              refine qc (l := []) ⟨⟨_, _, _, rfl, rfl, rfl, rfl⟩, rfl, fun hc => q_move rfl, trivial⟩ rfl rfl ?_
              refine qc (l := [97, 98]) ⟨⟨_, _, _, rfl, rfl, rfl, rfl⟩, rfl, fun hc => q_idx_l rfl rfl (idx_inv (x22_h hc)).1 (map_get (idx_inv (x22_h hc)).2.1) rfl, ⟨fun h => h, ⟨fun h => h, trivial⟩⟩⟩ rfl rfl ?_
              refine qc (l := [99]) ⟨⟨_, _, _, rfl, rfl, rfl, rfl⟩, rfl, fun hc => q_load_e rfl rfl rfl, ⟨fun h => h, trivial⟩⟩ rfl rfl ?_
              refine qc (l := []) ⟨⟨_, _, _, rfl, rfl, rfl, rfl⟩, rfl, fun hc => q_fld_p rfl, trivial⟩ rfl rfl ?_
              refine qc (l := [101]) ⟨⟨_, _, _, rfl, rfl, rfl, rfl⟩, rfl, fun hc => q_load1 rfl rfl rfl, ⟨fun h => h, trivial⟩⟩ rfl rfl ?_
              refine qc (l := []) ⟨⟨_, _, _, rfl, rfl, rfl, rfl⟩, rfl, fun hc => q_move rfl, trivial⟩ rfl rfl ?_
              refine qc (l := [102, 103]) ⟨⟨_, _, _, rfl, rfl, rfl, rfl⟩, rfl, fun hc => q_build rfl (.v rfl rfl rfl rfl rfl (.v rfl rfl rfl rfl rfl .nil)), ⟨fun h => h, ⟨fun h => h, trivial⟩⟩⟩ rfl rfl ?_
              refine qc (l := [100, 104]) ⟨⟨_, _, _, rfl, rfl, rfl, rfl⟩, rfl, fun hc => q_eqs rfl rfl rfl, ⟨fun h => h, ⟨fun h => h, trivial⟩⟩⟩ rfl rfl ?_
              refine qq rfl rfl (q_pickb rfl rfl rfl (PB.c (fun hp => hp)) PB.v) ?_
              refine qq rfl rfl (q_assign rfl) ?_
              refine qn ?_
              refine ev_region ?_
              refine rq rfl rfl (q_move rfl) ?_
              refine rq rfl rfl (q_add rfl rfl) ?_
              refine rq rfl rfl (q_assign rfl) ?_
              refine run_nil ?_
              exact ⟨_, ⟨bif bif s6.1 then decide (x13.lo ≤ x21.1) else false then decide (x21.1 ≤ x13.hi) else false, wr (s6.2.1 + 1), bif bif s6.2.2 then decide (s6.2.1 < ((a1.results.length : Nat) : Int)) else false then GPoint.eqb x22 (⟨x13.test, x21.1⟩ : GPoint) else false, H, rfl⟩, shift_mk ⟨⟨_, rfl, (.flat rfl)⟩, ⟨⟨_, rfl, (.flat rfl)⟩, ⟨⟨_, rfl, .rfl⟩, ⟨⟨_, rfl, .rfl⟩, ⟨⟨_, rfl, (.flat rfl)⟩, ⟨⟨_, rfl, (.flat rfl)⟩, ⟨⟨_, rfl, (.flat rfl)⟩, ⟨⟨_, rfl, (.flat rfl)⟩, ⟨⟨_, rfl, (.flat rfl)⟩, ⟨⟨_, rfl, .rfl⟩, ⟨⟨_, rfl, (.flat rfl)⟩, ⟨⟨_, rfl, (.flat rfl)⟩, trivial⟩⟩⟩⟩⟩⟩⟩⟩⟩⟩⟩⟩ ⟨(.e rfl), ⟨(.w rfl (.cons (.flat rfl) (.cons .rfl (.cons (.flat rfl) .nil)))), trivial⟩⟩ rfl rfl⟩
        · replace H := forL_out hc H
          refine ev_exit ?_
          refine ev_seq ?_
          refine ev_region ?_
          refine rq rfl rfl (q_move rfl) ?_
          refine rq rfl rfl (q_move rfl) ?_
          refine rq rfl rfl (q_move rfl) ?_
          refine rqc (l := []) ⟨⟨_, _, _, rfl, rfl, rfl, rfl⟩, rfl, fun hc => q_move rfl, trivial⟩ rfl ?_
          refine rqc (l := []) ⟨⟨_, _, _, rfl, rfl, rfl, rfl⟩, rfl, fun hc => q_fld_p rfl, trivial⟩ rfl ?_
          refine rqc (l := [114]) ⟨⟨_, _, _, rfl, rfl, rfl, rfl⟩, rfl, fun hc => q_load1 rfl rfl rfl, ⟨fun h => h, trivial⟩⟩ rfl ?_
          refine rqc (l := [115]) ⟨⟨_, _, _, rfl, rfl, rfl, rfl⟩, rfl, fun hc => q_len_t rfl, ⟨fun h => h, trivial⟩⟩ rfl ?_
          refine rqc (l := [113, 116]) ⟨⟨_, _, _, rfl, rfl, rfl, rfl⟩, rfl, fun hc => q_eqi rfl rfl, ⟨fun h => h, ⟨fun h => h, trivial⟩⟩⟩ rfl ?_
          refine rq rfl rfl (q_pickb rfl rfl rfl (PB.c (fun hp => hp)) PB.v) ?_
          refine rq rfl rfl (q_move rfl) ?_
          refine rqc (l := []) ⟨⟨_, _, _, rfl, rfl, rfl, rfl⟩, rfl, fun hc => q_fld_p rfl, trivial⟩ rfl ?_
          refine rqc (l := [120]) ⟨⟨_, _, _, rfl, rfl, rfl, rfl⟩, rfl, fun hc => q_load1 rfl rfl rfl, ⟨fun h => h, trivial⟩⟩ rfl ?_
          refine rqc (l := []) ⟨⟨_, _, _, rfl, rfl, rfl, rfl⟩, rfl, fun hc => q_move rfl, trivial⟩ rfl ?_
          refine rqc (l := [121, 122]) ⟨⟨_, _, _, rfl, rfl, rfl, rfl⟩, rfl, fun hc => q_eqb rfl rfl, ⟨fun h => h, ⟨fun h => h, trivial⟩⟩⟩ rfl ?_
          refine rq rfl rfl (q_pickb rfl rfl rfl (PB.c (fun hp => hp)) PB.v) ?_
          refine rq rfl rfl (q_eqb rfl rfl) ?_
          refine rq rfl rfl (q_assign rfl) ?_
          refine run_nil ?_
          refine ev_ret ?_
          exact ret_ok [vb (x5.1 == (bif bif s6.2.2 then s6.2.1 == ((a1.results.length : Nat) : Int) else false then a1.good == s6.1 else false))] (congrArg (fun r : Bool => vb r) (Option.some.inj H)) rfl (.cons (.tmp rfl (.v _ _ (fun _ => rfl))) .nil)
def facts_values_m (a0 : List GFact) (a1 : GKey) (a2 : Int) : Option (List Int) := bd (facts_of_m a0 a1 a2) fun x5 => bd (facts_of_1_m x5.1 x5.2.1 x5.2.2) fun ys6 => forL ys6 (fun (k9 : Nat) (x10 : GFact) (s7 : (List GFact) × (List Bool)) loop8 => forN (max 0 x10.valid.from_) (min x10.valid.to_ 1024) (fun (k20 : Int) (s18 : (List GFact) × (List Bool)) loop19 => jn (fun (p32 : List GFact) (p33 : List Bool) => loop19 (p32, p33)) fun j31 => bd (idx s18.2 k20) fun x34 => gd (decide (k20 < 1024)) <| bdc (!(!x34)) (idx s18.1 k20) fun x36 => gdc (!(!x34)) (decide (k20 < 1024)) <| bdc (!(!x34)) (facts_compare_m x10 x36) fun x38 => bif bif !x34 then true else decide (0 ≤ x38) then (bd (idx s18.1 k20) fun x39 => gd (decide (k20 < 1024)) <| gd (decide (k20 < 1024)) <| j31 ((s18.1).set (k20).toNat x10) ((s18.2).set (k20).toNat true)) else (j31 s18.1 s18.2)) (fun (s18 : (List GFact) × (List Bool)) => loop8 (s18.1, s18.2)) (s7.1, s7.2)) (fun (s7 : (List GFact) × (List Bool)) => forN 0 1024 (fun (k44 : Int) (s42 : (List Int)) loop43 => jn (fun (p55 : List Int) => loop43 p55) fun j54 => bd (idx s42 k44) fun x56 => gd (decide (k44 < 1024)) <| bd (idx s7.2 k44) fun x58 => gd (decide (k44 < 1024)) <| bif x58 then (bd (idx s7.1 k44) fun x60 => gd (decide (k44 < 1024)) <| bd (idx ((s42).set (k44).toNat (-1)) k44) fun x62 => gd (decide (k44 < 1024)) <| j54 (((s42).set (k44).toNat (-1)).set (k44).toNat (max x60.value (-1)))) else (j54 ((s42).set (k44).toNat (-1)))) (fun (s42 : (List Int)) => gd (decide (s42.length = 1024)) <| some s42) (List.replicate 1024 0)) (List.replicate 1024 (⟨(⟨0, 0, 0⟩ : GKey), 0, (⟨0, 0⟩ : GSpan), 0, 0⟩ : GFact), List.replicate 1024 false)
theorem facts_values_c {a0 : List GFact} {a1 : GKey} {a2 : Int} {r : (List Int)} (H : facts_values_m a0 a1 a2 = some r) : PureC Try.prog true 91 [V.l 8 (List.map GFact.e a0), GKey.e a1, vi a2] (V.st (List.map vi r)) := by
  unfold facts_values_m at H
  refine pure_intro (N := 63) Try.func91 rfl rfl rfl rfl fun C hO => ?_
  refine ev_shift (shift_mk (fs := [(0, .v false (V.l 8 (List.map GFact.e a0))), (1, .v true (GKey.e a1)), (2, .v true (vi a2))]) (es := []) ⟨⟨_, rfl, .rfl⟩, ⟨⟨_, rfl, (.flat rfl)⟩, ⟨⟨_, rfl, (.flat rfl)⟩, trivial⟩⟩⟩ trivial rfl rfl) ?_
  refine ev_seq ?_
  refine ev_region ?_
  refine re rfl (e_box 4 0 rfl rfl rfl) ?_; rintro _ ⟨b1, rfl⟩
  refine re rfl (e_alloc_at (E := vi) (x0 := 0) 6 0 rfl rfl rfl rfl rfl) ?_; rintro _ ⟨b2, rfl⟩
  refine run_nil ?_
  refine ev_seq ?_
  refine ev_region ?_
  refine re rfl (e_alloc_at (E := GFact.e) (x0 := (⟨(⟨0, 0, 0⟩ : GKey), 0, (⟨0, 0⟩ : GSpan), 0, 0⟩ : GFact)) 7 0 rfl rfl rfl rfl rfl) ?_; rintro _ ⟨b3, rfl⟩
  refine run_nil ?_
  refine ev_seq ?_
  refine ev_region ?_
  refine re rfl (e_alloc_at (E := vb) (x0 := false) 8 0 rfl rfl rfl rfl rfl) ?_; rintro _ ⟨b4, rfl⟩
  refine run_nil ?_
  refine ev_seq ?_
  refine ev_seq ?_
  refine ev_region ?_
  refine rq rfl rfl (q_move rfl) ?_
  refine rq rfl rfl (q_loadN rfl rfl rfl rfl) ?_
  refine rq rfl rfl (q_move rfl) ?_
  obtain ⟨x5, x5_h, H⟩ := bd_inv H
  refine rq rfl rfl (q_calla rfl (.v rfl (.v rfl (.v rfl CapsOk.nil))) inferInstance (facts_of_c  x5_h)) ?_
  refine run_nil ?_
  refine ev_block ?_
  obtain ⟨ys6, ys6_h, H⟩ := bd_inv H
  obtain ⟨B11, K12, h13, h14, H⟩ := forL_gen H
  refine ev_shift (σ' := mkS [(6, .p 6 0 b2 0), (7, .p 7 0 b3 0), (8, .p 8 0 b4 0), (15, .v false (.c 89 [.q (V.cells (V.l 8 (List.map GFact.e x5.1))), .q (V.cells (GKey.e x5.2.1)), .q (V.cells (vi x5.2.2))]))] [.e 6 0 (some (b2, 1024)) (.row 155 (els true (List.map vi (List.replicate 1024 0)))), .e 7 0 (some (b3, 8192)) (.row 166 (els true (List.map GFact.e (List.replicate 1024 (⟨(⟨0, 0, 0⟩ : GKey), 0, (⟨0, 0⟩ : GSpan), 0, 0⟩ : GFact))))), .e 8 0 (some (b4, 1024)) (.row 167 (els true (List.map vb (List.replicate 1024 false))))] [] (0, false)) (shift_mk ⟨⟨_, rfl, .rfl⟩, ⟨⟨_, rfl, .rfl⟩, ⟨⟨_, rfl, .rfl⟩, ⟨⟨_, rfl, .rfl⟩, trivial⟩⟩⟩⟩ ⟨(.e rfl), ⟨(.e rfl), ⟨(.e rfl), trivial⟩⟩⟩ rfl rfl) ?_
  refine ev_range (els := ys6.map (fun y => [GFact.e y])) rfl inferInstance (facts_of_1_c ys6_h) 9004 9005 [6, 7, 8, 15] rfl (by decide) (fun n args h => by obtain ⟨x, _, rfl⟩ := range_at h; rfl) (fun D2 l2 L2 => ⟨fun n σ' => ∃ (s7 : (List GFact) × (List Bool)), forLg B11 K12 n (ys6.drop n) s7 = some r ∧ σ' = mkS [(6, .p 6 0 b2 0), (7, .p 7 0 b3 0), (8, .p 8 0 b4 0), (15, .v false (.c 89 [.q (V.cells (V.l 8 (List.map GFact.e x5.1))), .q (V.cells (GKey.e x5.2.1)), .q (V.cells (vi x5.2.2))]))] [.e 6 0 (some (b2, 1024)) (.row 155 (els true (List.map vi (List.replicate 1024 0)))), .e 7 0 (some (b3, 8192)) (.row 166 (els true (List.map GFact.e s7.1))), .e 8 0 (some (b4, 1024)) (.row 167 (els true (List.map vb s7.2))), .e 9005 0 (some (l2, 0)) (.obj (L2 .ready none)), .e 9004 0 (some (D2, 0)) (.obj (.deferred (some [])))] ({ target := .collected D2, args := #[] } :: []) (0, false), ?_, ?_, ?_, ?_⟩)
  · exact ⟨_, ⟨(List.replicate 1024 (⟨(⟨0, 0, 0⟩ : GKey), 0, (⟨0, 0⟩ : GSpan), 0, 0⟩ : GFact), List.replicate 1024 false), H, rfl⟩, le_mk ⟨rfl, ⟨rfl, ⟨rfl, ⟨rfl, trivial⟩⟩⟩⟩ ⟨rfl, ⟨rfl, ⟨rfl, ⟨rfl, ⟨rfl, trivial⟩⟩⟩⟩⟩ rfl rfl⟩
  · rintro n _ ⟨s7, _, rfl⟩
    exact ⟨rfl, rfl, rfl⟩
  · rintro k9 args _ val is hN he ⟨s7, H, rfl⟩ hcl
    obtain ⟨x10, x10_g, rfl⟩ := range_at he
    subst h13; subst h14
    replace H := forL_at x10_g H
    refine ev_region ?_
    refine re rfl (e_alloc 9 0 rfl rfl) ?_; rintro _ ⟨b17, rfl⟩
    refine re rfl (e_store rfl rfl rfl rfl rfl (Nat.le_of_ble_eq_true rfl) rfl) ?_; rintro _ rfl
    refine run_nil ?_
    refine ⟨rfl, ?_⟩
    refine ev_block ?_
    refine ev_seq ?_
    refine ev_region ?_
    refine rq rfl rfl (q_fld_p rfl) ?_
    refine rq rfl rfl (q_fld_p rfl) ?_
    refine rq rfl rfl (q_load1 rfl rfl rfl) ?_
    refine rq rfl rfl (q_max rfl rfl) ?_
    refine rq rfl rfl (q_assign rfl) ?_
    refine run_nil ?_
    refine ev_block ?_
    refine ev_forN H (fun k20 s18 σ' => σ' = mkS [(6, .p 6 0 b2 0), (7, .p 7 0 b3 0), (8, .p 8 0 b4 0), (9, .p 9 0 b17 0), (10, .v true (vi k20)), (15, .v false (.c 89 [.q (V.cells (V.l 8 (List.map GFact.e x5.1))), .q (V.cells (GKey.e x5.2.1)), .q (V.cells (vi x5.2.2))])), (16, .v true (GFact.e x10))] [.e 9005 0 (some (l2, 0)) (.obj (L2 .busy none)), .e 9004 0 (some (D2, 0)) (.obj (.deferred (some []))), .e 6 0 (some (b2, 1024)) (.row 155 (els true (List.map vi (List.replicate 1024 0)))), .e 7 0 (some (b3, 8192)) (.row 166 (els true (List.map GFact.e s18.1))), .e 8 0 (some (b4, 1024)) (.row 167 (els true (List.map vb s18.2))), .e 9 0 (some (b17, 8)) (.row 120 [.v true (vi x10.key.kind), .v true (vi x10.key.subject), .v true (vi x10.key.object), .v true (vi x10.value), .v true (vi x10.valid.from_), .v true (vi x10.valid.to_), .v true (vi x10.known), .v true (vi x10.no_)])] [] (0, false)) ⟨_, rfl, shift_mk ⟨⟨_, rfl, .rfl⟩, ⟨⟨_, rfl, .rfl⟩, ⟨⟨_, rfl, .rfl⟩, ⟨⟨_, rfl, .rfl⟩, ⟨⟨_, rfl, .rfl⟩, ⟨⟨_, rfl, .rfl⟩, ⟨⟨_, rfl, (.flat rfl)⟩, trivial⟩⟩⟩⟩⟩⟩⟩ ⟨(.e rfl), ⟨(.e rfl), ⟨(.e rfl), ⟨(.e rfl), ⟨(.e rfl), ⟨(.w rfl (.cons (.flat rfl) (.cons (.flat rfl) (.cons (.flat rfl) (.cons (.flat rfl) (.cons (.flat rfl) (.cons (.flat rfl) (.cons (.flat rfl) (.cons (.flat rfl) .nil))))))))), trivial⟩⟩⟩⟩⟩⟩ rfl rfl⟩ ?_
    rintro n24 k20 s18 _ rfl w25 w26 w27 w28 H
    refine ev_seq ?_
    refine ev_seq ?_
    refine ev_region ?_
    refine rq rfl rfl (q_move rfl) ?_
    refine rq rfl rfl (q_fld_p rfl) ?_
    refine rq rfl rfl (q_fld_p rfl) ?_
    refine rq rfl rfl (q_load1 rfl rfl rfl) ?_
    refine rq rfl rfl (q_min rfl rfl) ?_
    refine rq rfl rfl (q_lss rfl rfl) ?_
    refine run_nil ?_
    refine ev_cond rfl (fun hc => ?_) (fun hc => ?_)
    · obtain ⟨n30, n30_e, w29, H⟩ := forN_in hc w25 H
      refine ev_skip ?_
      obtain ⟨j31, j31_e, H⟩ := jn_inv H
      refine ev_join (fun σ' => ∃ (p32 : List GFact) (p33 : List Bool), j31 p32 p33 = some r ∧ σ' = mkS [(6, .p 6 0 b2 0), (7, .p 7 0 b3 0), (8, .p 8 0 b4 0), (9, .p 9 0 b17 0), (10, .v true (vi k20)), (15, .v false (.c 89 [.q (V.cells (V.l 8 (List.map GFact.e x5.1))), .q (V.cells (GKey.e x5.2.1)), .q (V.cells (vi x5.2.2))])), (16, .v true (GFact.e x10))] [.e 9005 0 (some (l2, 0)) (.obj (L2 .busy none)), .e 9004 0 (some (D2, 0)) (.obj (.deferred (some []))), .e 6 0 (some (b2, 1024)) (.row 155 (els true (List.map vi (List.replicate 1024 0)))), .e 7 0 (some (b3, 8192)) (.row 166 (els true (List.map GFact.e p32))), .e 8 0 (some (b4, 1024)) (.row 167 (els true (List.map vb p33))), .e 9 0 (some (b17, 8)) (.row 120 [.v true (vi x10.key.kind), .v true (vi x10.key.subject), .v true (vi x10.key.object), .v true (vi x10.value), .v true (vi x10.valid.from_), .v true (vi x10.valid.to_), .v true (vi x10.known), .v true (vi x10.no_)])] [] (0, false)) ?_ ?_
      · rintro _ ⟨p32, p33, H, rfl⟩
        subst j31_e
        refine ev_region ?_
        refine rq rfl rfl (q_move rfl) ?_
        refine rq rfl rfl (q_add rfl rfl) ?_
        refine rq rfl rfl (q_assign rfl) ?_
        refine run_nil ?_
        exact ⟨_, _, _, n30_e, H, rfl, shift_mk ⟨⟨_, rfl, .rfl⟩, ⟨⟨_, rfl, .rfl⟩, ⟨⟨_, rfl, .rfl⟩, ⟨⟨_, rfl, .rfl⟩, ⟨⟨_, rfl, (.eq (congrArg (fun n => D.v true (vi n)) (wrap_succ' (by omega) w29 w28)))⟩, ⟨⟨_, rfl, .rfl⟩, ⟨⟨_, rfl, (.flat rfl)⟩, trivial⟩⟩⟩⟩⟩⟩⟩ ⟨(.e rfl), ⟨(.e rfl), ⟨(.e rfl), ⟨(.e rfl), ⟨(.e rfl), ⟨(.w rfl (.cons (.flat rfl) (.cons (.flat rfl) (.cons (.flat rfl) (.cons (.flat rfl) (.cons (.flat rfl) (.cons (.flat rfl) (.cons (.flat rfl) (.cons (.flat rfl) .nil))))))))), trivial⟩⟩⟩⟩⟩⟩ rfl rfl⟩
      · clear j31_e
        refine ev_block ?_
        refine ev_seq ?_
        obtain ⟨x34, x34_h, H⟩ := bd_inv H
        obtain ⟨w35, H⟩ := gdd_inv H
        obtain ⟨x36, x36_h, _, H⟩ := bdc_inv H
        obtain ⟨w37, H⟩ := gdcd_inv H
        obtain ⟨x38, x38_h, _, H⟩ := bdc_inv H
        refine ev_draw rfl (by kernel_rfl) ?_
        refine qq rfl rfl (q_move rfl) ?_
        refine qq rfl rfl (q_idx_a rfl rfl (idx_inv x34_h).1 w35) ?_
        refine qq rfl rfl (q_load_el0 (E := vb) (fun _ => rfl) rfl rfl (idx_inv x34_h).2.1) ?_
        refine qq rfl rfl (q_not rfl) ?_
        refine qq rfl rfl (q_move rfl) ?_
        refine qc (l := []) ⟨⟨_, _, _, rfl, rfl, rfl, rfl⟩, rfl, fun hc => q_loadN rfl rfl rfl rfl, trivial⟩ rfl rfl ?_
        refine qc (l := []) ⟨⟨_, _, _, rfl, rfl, rfl, rfl⟩, rfl, fun hc => q_move rfl, trivial⟩ rfl rfl ?_
        refine qc (l := [35]) ⟨⟨_, _, _, rfl, rfl, rfl, rfl⟩, rfl, fun hc => q_idx_a rfl rfl (idx_inv (x36_h hc)).1 (w37 hc), ⟨fun h => h, trivial⟩⟩ rfl rfl ?_
        refine qc (l := [36]) ⟨⟨_, _, _, rfl, rfl, rfl, rfl⟩, rfl, fun hc => q_load_ee (E := GFact.e) (z := 8) (fun _ => ⟨rfl, rfl⟩) rfl rfl rfl (idx_inv (x36_h hc)).2.1, ⟨fun h => h, trivial⟩⟩ rfl rfl ?_
        refine qc (l := [34, 37]) ⟨⟨_, _, _, rfl, rfl, rfl, rfl⟩, rfl, fun hc => q_call rfl (.v _ _ (fun e => nomatch e)) (.v rfl (.v rfl ArgsOk.nil)) inferInstance (facts_compare_c  (x38_h hc)), ⟨fun h => h, ⟨fun h => h, trivial⟩⟩⟩ rfl rfl ?_
        refine qc (l := [38]) ⟨⟨_, _, _, rfl, rfl, rfl, rfl⟩, rfl, fun hc => q_geq rfl rfl, ⟨fun h => h, trivial⟩⟩ rfl rfl ?_
        refine qq rfl rfl (q_pickb rfl rfl rfl PB.v (PB.c (fun hp => by rw [hp]; rfl))) ?_
        refine qn ?_
        refine ev_cond rfl (fun hc => ?_) (fun hc => ?_)
        · replace H := ct hc H
          refine ev_region ?_
          refine rq rfl rfl (q_move rfl) ?_
          refine rq rfl rfl (q_move rfl) ?_
          refine rq rfl rfl (q_loadN rfl rfl rfl rfl) ?_
          obtain ⟨x39, x39_h, H⟩ := bd_inv H
          obtain ⟨w40, H⟩ := gdd_inv H
          refine rq rfl rfl (q_idx_a rfl rfl (idx_inv x39_h).1 w40) ?_
          refine re rfl (e_store_ee (E := GFact.e) (z := 8) rfl rfl (fun _ => ⟨rfl, rfl⟩) (idx_inv x39_h).2.2.1 rfl rfl) ?_; rintro _ rfl
          obtain ⟨w41, H⟩ := gdd_inv H
          refine rq rfl rfl (q_idx_a rfl rfl (idx_inv x34_h).1 w41) ?_
          refine re rfl (e_store_ee (E := vb) (z := 1) rfl rfl (fun _ => ⟨rfl, rfl⟩) (idx_inv x34_h).2.2.1 rfl rfl) ?_; rintro _ rfl
          refine run_nil ?_
          exact ⟨_, ⟨(s18.1).set (k20).toNat x10, (s18.2).set (k20).toNat true, H, rfl⟩, shift_mk ⟨⟨_, rfl, .rfl⟩, ⟨⟨_, rfl, .rfl⟩, ⟨⟨_, rfl, .rfl⟩, ⟨⟨_, rfl, .rfl⟩, ⟨⟨_, rfl, (.flat rfl)⟩, ⟨⟨_, rfl, .rfl⟩, ⟨⟨_, rfl, (.flat rfl)⟩, trivial⟩⟩⟩⟩⟩⟩⟩ ⟨(.e rfl), ⟨(.e rfl), ⟨(.e rfl), ⟨(.e rfl), ⟨(.e rfl), ⟨(.w rfl (.cons (.flat rfl) (.cons (.flat rfl) (.cons (.flat rfl) (.cons (.flat rfl) (.cons (.flat rfl) (.cons (.flat rfl) (.cons (.flat rfl) (.cons (.flat rfl) .nil))))))))), trivial⟩⟩⟩⟩⟩⟩ rfl rfl⟩
        · replace H := cf hc H
          refine ev_skip ?_
          exact ⟨_, ⟨s18.1, s18.2, H, rfl⟩, shift_mk ⟨⟨_, rfl, .rfl⟩, ⟨⟨_, rfl, .rfl⟩, ⟨⟨_, rfl, .rfl⟩, ⟨⟨_, rfl, .rfl⟩, ⟨⟨_, rfl, (.flat rfl)⟩, ⟨⟨_, rfl, .rfl⟩, ⟨⟨_, rfl, (.flat rfl)⟩, trivial⟩⟩⟩⟩⟩⟩⟩ ⟨(.e rfl), ⟨(.e rfl), ⟨(.e rfl), ⟨(.e rfl), ⟨(.e rfl), ⟨(.w rfl (.cons (.flat rfl) (.cons (.flat rfl) (.cons (.flat rfl) (.cons (.flat rfl) (.cons (.flat rfl) (.cons (.flat rfl) (.cons (.flat rfl) (.cons (.flat rfl) .nil))))))))), trivial⟩⟩⟩⟩⟩⟩ rfl rfl⟩
    · replace H := forN_out hc w25 H
      refine ev_exit ?_
      exact ⟨rfl, _, ⟨(s18.1, s18.2), H, rfl⟩, cov_mk rfl ⟨rfl, ⟨rfl, ⟨rfl, ⟨rfl, trivial⟩⟩⟩⟩ ⟨rfl, ⟨rfl, ⟨rfl, ⟨rfl, ⟨rfl, trivial⟩⟩⟩⟩⟩ rfl⟩
  · rintro _ ⟨s7, H, rfl⟩
    rw [List.length_map] at H
    subst h13; subst h14
    replace H := forL_end H
    refine ev_seq ?_
    refine ev_seq ?_
    refine ev_region ?_
    refine rq rfl rfl (q_move rfl) ?_
    refine run_nil ?_
    refine ev_block ?_
    refine ev_forN H (fun k44 s42 σ' => σ' = mkS [(6, .p 6 0 b2 0), (7, .p 7 0 b3 0), (8, .p 8 0 b4 0), (46, .v true (vi k44))] [.e 9004 0 (some (D2, 0)) (.obj (.deferred (some []))), .e 6 0 (some (b2, 1024)) (.row 155 (els true (List.map vi s42))), .e 7 0 (some (b3, 8192)) (.row 166 (els true (List.map GFact.e s7.1))), .e 8 0 (some (b4, 1024)) (.row 167 (els true (List.map vb s7.2)))] ({ target := .collected D2, args := #[] } :: []) (0, false)) ⟨_, rfl, shift_mk ⟨⟨_, rfl, .rfl⟩, ⟨⟨_, rfl, .rfl⟩, ⟨⟨_, rfl, .rfl⟩, ⟨⟨_, rfl, .rfl⟩, trivial⟩⟩⟩⟩ ⟨(.e rfl), ⟨(.e rfl), ⟨(.e rfl), ⟨(.e rfl), trivial⟩⟩⟩⟩ rfl rfl⟩ ?_
    rintro n47 k44 s42 _ rfl w48 w49 w50 w51 H
    refine ev_seq ?_
    refine ev_region ?_
    refine rq rfl rfl (q_lss rfl rfl) ?_
    refine run_nil ?_
    refine ev_seq ?_
    refine ev_cond rfl (fun hc => ?_) (fun hc => ?_)
    · obtain ⟨n53, n53_e, w52, H⟩ := forN_in hc w48 H
      refine ev_skip ?_
      obtain ⟨j54, j54_e, H⟩ := jn_inv H
      refine ev_join (fun σ' => ∃ (p55 : List Int), j54 p55 = some r ∧ σ' = mkS [(6, .p 6 0 b2 0), (7, .p 7 0 b3 0), (8, .p 8 0 b4 0), (46, .v true (vi k44))] [.e 9004 0 (some (D2, 0)) (.obj (.deferred (some []))), .e 6 0 (some (b2, 1024)) (.row 155 (els true (List.map vi p55))), .e 7 0 (some (b3, 8192)) (.row 166 (els true (List.map GFact.e s7.1))), .e 8 0 (some (b4, 1024)) (.row 167 (els true (List.map vb s7.2)))] ({ target := .collected D2, args := #[] } :: []) (0, false)) ?_ ?_
      · rintro _ ⟨p55, H, rfl⟩
        subst j54_e
        refine ev_region ?_
        refine rq rfl rfl (q_add rfl rfl) ?_
        refine rq rfl rfl (q_move rfl) ?_
        refine run_nil ?_
        exact ⟨_, _, _, n53_e, H, rfl, shift_mk ⟨⟨_, rfl, .rfl⟩, ⟨⟨_, rfl, .rfl⟩, ⟨⟨_, rfl, .rfl⟩, ⟨⟨_, rfl, (.eq (congrArg (fun n => D.v true (vi n)) (wrap_succ' (by omega) w52 w51)))⟩, trivial⟩⟩⟩⟩ ⟨(.e rfl), ⟨(.e rfl), ⟨(.e rfl), ⟨(.e rfl), trivial⟩⟩⟩⟩ rfl rfl⟩
      · clear j54_e
        refine ev_block ?_
        refine ev_seq ?_
        refine ev_region ?_
        refine rq rfl rfl (q_move rfl) ?_
        refine rq rfl rfl (q_assign rfl) ?_
        refine run_nil ?_
        refine ev_seq ?_
        refine ev_region ?_
        refine rq rfl rfl (q_move rfl) ?_
        obtain ⟨x56, x56_h, H⟩ := bd_inv H
        obtain ⟨w57, H⟩ := gdd_inv H
        refine rq rfl rfl (q_idx_a rfl rfl (idx_inv x56_h).1 w57) ?_
        refine re rfl (e_store_ee (E := vi) (z := 1) rfl rfl (fun _ => ⟨rfl, rfl⟩) (idx_inv x56_h).2.2.1 rfl rfl) ?_; rintro _ rfl
        refine run_nil ?_
        refine ev_seq ?_
        refine ev_region ?_
        refine rq rfl rfl (q_move rfl) ?_
        obtain ⟨x58, x58_h, H⟩ := bd_inv H
        obtain ⟨w59, H⟩ := gdd_inv H
        refine rq rfl rfl (q_idx_a rfl rfl (idx_inv x58_h).1 w59) ?_
        refine rq rfl rfl (q_load_el0 (E := vb) (fun _ => rfl) rfl rfl (idx_inv x58_h).2.1) ?_
        refine run_nil ?_
        refine ev_cond rfl (fun hc => ?_) (fun hc => ?_)
        · replace H := ct hc H
          refine ev_region ?_
          refine rq rfl rfl (q_move rfl) ?_
          refine rq rfl rfl (q_move rfl) ?_
          obtain ⟨x60, x60_h, H⟩ := bd_inv H
          obtain ⟨w61, H⟩ := gdd_inv H
          refine rq rfl rfl (q_idx_a rfl rfl (idx_inv x60_h).1 w61) ?_
          refine rq rfl rfl (q_fld_p rfl) ?_
          refine rq rfl rfl (q_load_el (E := GFact.e) (z := 8) (fun _ => rfl) rfl rfl (idx_inv x60_h).2.1 rfl) ?_
          refine rq rfl rfl (q_max rfl rfl) ?_
          obtain ⟨x62, x62_h, H⟩ := bd_inv H
          obtain ⟨w63, H⟩ := gdd_inv H
          refine rq rfl rfl (q_idx_a rfl rfl (idx_inv x62_h).1 w63) ?_
          refine re rfl (e_store_ee (E := vi) (z := 1) rfl rfl (fun _ => ⟨rfl, rfl⟩) (idx_inv x62_h).2.2.1 rfl rfl) ?_; rintro _ rfl
          refine run_nil ?_
          exact ⟨_, ⟨((s42).set (k44).toNat (-1)).set (k44).toNat (max x60.value (-1)), H, rfl⟩, shift_mk ⟨⟨_, rfl, .rfl⟩, ⟨⟨_, rfl, .rfl⟩, ⟨⟨_, rfl, .rfl⟩, ⟨⟨_, rfl, (.flat rfl)⟩, trivial⟩⟩⟩⟩ ⟨(.e rfl), ⟨(.e rfl), ⟨(.e rfl), ⟨(.e rfl), trivial⟩⟩⟩⟩ rfl rfl⟩
        · replace H := cf hc H
          refine ev_skip ?_
          exact ⟨_, ⟨(s42).set (k44).toNat (-1), H, rfl⟩, shift_mk ⟨⟨_, rfl, .rfl⟩, ⟨⟨_, rfl, .rfl⟩, ⟨⟨_, rfl, .rfl⟩, ⟨⟨_, rfl, (.flat rfl)⟩, trivial⟩⟩⟩⟩ ⟨(.e rfl), ⟨(.e rfl), ⟨(.e rfl), ⟨(.e rfl), trivial⟩⟩⟩⟩ rfl rfl⟩
    · replace H := forN_out hc w48 H
      refine ev_exit ?_
      refine ev_seq ?_
      refine ev_region ?_
      obtain ⟨w64, H⟩ := gdd_inv H
      refine rq rfl rfl (q_load_at (E := vi) (fun _ => rfl) rfl rfl w64 rfl) ?_
      refine re rfl (e_store_at (E := vi) (fun _ => ⟨rfl, rfl⟩) rfl rfl w64 w64 rfl rfl) ?_; rintro _ rfl
      refine run_nil ?_
      refine ev_ret ?_
      exact ret_okm [V.st (List.map vi s42)] (congrArg (fun r : (List Int) => V.st (List.map vi r)) (Option.some.inj H)) (.cons 9004 0 D2 0 rfl (.nil _)) (.cons (res_at (E := vi) (fun _ => rfl) rfl rfl rfl rfl w64 rfl (fun _ => rfl)) .nil)
def facts_Points_m (a0 : List GFact) (a1 : GKey) (a2 : Int) (a3 : Int) (a4 : Int) : Option (List GPoint) := bd (facts_values_m a0 a1 a4) fun x2 => gd (decide ((List.replicate 1024 0).length = 1024)) <| gd (decide (x2.length = 1024)) <| forN (max 0 a2) (min a3 1024) (fun (k8 : Int) (s6 : (List GPoint)) loop7 => jn (fun (p20 : List GPoint) => loop7 p20) fun j19 => bd (idx x2 k8) fun x22 => gd (decide (k8 < 1024)) <| bif decide (0 ≤ x22) then (gd (decide (k8 < 1024)) <| gd (decide ((s6.length + ([(⟨k8, x22⟩ : GPoint)] : List GPoint).length) * 17 ≤ 140737488355328)) <| j19 (s6 ++ ([(⟨k8, x22⟩ : GPoint)] : List GPoint))) else (j19 s6)) (fun (s6 : (List GPoint)) => some s6) ([] : List GPoint)
theorem facts_Points_c {a0 : List GFact} {a1 : GKey} {a2 : Int} {a3 : Int} {a4 : Int} {r : (List GPoint)} (H : facts_Points_m a0 a1 a2 a3 a4 = some r) : PureC Try.prog true 60 [V.l 8 (List.map GFact.e a0), GKey.e a1, vi a2, vi a3, vi a4] (V.l 2 (List.map GPoint.e r)) := by
  unfold facts_Points_m at H
  refine pure_intro (N := 38) Try.func60 rfl rfl rfl rfl fun C hO => ?_
  refine ev_shift (shift_mk (fs := [(0, .v false (V.l 8 (List.map GFact.e a0))), (1, .v true (GKey.e a1)), (2, .v true (vi a2)), (3, .v true (vi a3)), (4, .v true (vi a4))]) (es := []) ⟨⟨_, rfl, .rfl⟩, ⟨⟨_, rfl, (.flat rfl)⟩, ⟨⟨_, rfl, (.flat rfl)⟩, ⟨⟨_, rfl, (.flat rfl)⟩, ⟨⟨_, rfl, (.flat rfl)⟩, trivial⟩⟩⟩⟩⟩ trivial rfl rfl) ?_
  refine ev_seq ?_
  refine ev_region ?_
  refine re rfl (e_box 6 0 rfl rfl rfl) ?_; rintro _ ⟨b1, rfl⟩
  refine rq rfl rfl (q_assign rfl) ?_
  refine run_nil ?_
  refine ev_seq ?_
  refine ev_region ?_
  refine rq rfl rfl (q_move rfl) ?_
  refine rq rfl rfl (q_loadN rfl rfl rfl rfl) ?_
  refine rq rfl rfl (q_move rfl) ?_
  obtain ⟨x2, x2_h, H⟩ := bd_inv H
  refine rq rfl rfl (q_call rfl (.v _ _ (fun e => nomatch e)) (.v rfl (.v rfl (.v rfl ArgsOk.nil))) inferInstance (facts_values_c  x2_h)) ?_
  refine re rfl (e_alloc_at (E := vi) (x0 := 0) 11 0 rfl rfl rfl rfl rfl) ?_; rintro _ ⟨b3, rfl⟩
  obtain ⟨w4, H⟩ := gdd_inv H
  obtain ⟨w5, H⟩ := gdd_inv H
  refine re rfl (e_store_at (E := vi) (fun _ => ⟨rfl, rfl⟩) rfl rfl w4 w5 rfl rfl) ?_; rintro _ rfl
  refine run_nil ?_
  refine ev_seq ?_
  refine ev_seq ?_
  refine ev_region ?_
  refine rq rfl rfl (q_move rfl) ?_
  refine rq rfl rfl (q_max rfl rfl) ?_
  refine rq rfl rfl (q_assign rfl) ?_
  refine run_nil ?_
  refine ev_block ?_
  refine ev_forN H (fun k8 s6 σ' => ∃ (q11 : Pl), σ' = mkS [(3, .v true (vi a3)), (10, .o 36 0 q11 2 0 s6.length), (11, .p 11 0 b3 0), (12, .v true (vi k8))] [.e 36 0 q11 (.row 72 (els true (List.map GPoint.e s6))), .e 11 0 (some (b3, 1024)) (.row 155 (els true (List.map vi x2)))] [] (0, false)) ⟨_, ⟨none, rfl⟩, shift_mk ⟨⟨_, rfl, (.flat rfl)⟩, ⟨⟨_, rfl, .nilo⟩, ⟨⟨_, rfl, .rfl⟩, ⟨⟨_, rfl, .rfl⟩, trivial⟩⟩⟩⟩ ⟨(.nn rfl), ⟨(.e rfl), trivial⟩⟩ rfl rfl⟩ ?_
  rintro n12 k8 s6 _ ⟨q11, rfl⟩ w13 w14 w15 w16 H
  refine ev_seq ?_
  refine ev_seq ?_
  refine ev_region ?_
  refine rq rfl rfl (q_move rfl) ?_
  refine rq rfl rfl (q_move rfl) ?_
  refine rq rfl rfl (q_min rfl rfl) ?_
  refine rq rfl rfl (q_lss rfl rfl) ?_
  refine run_nil ?_
  refine ev_cond rfl (fun hc => ?_) (fun hc => ?_)
  · obtain ⟨n18, n18_e, w17, H⟩ := forN_in hc w13 H
    refine ev_skip ?_
    obtain ⟨j19, j19_e, H⟩ := jn_inv H
    refine ev_join (fun σ' => ∃ (p20 : List GPoint) (q21 : Pl), j19 p20 = some r ∧ σ' = mkS [(3, .v true (vi a3)), (10, .o 36 0 q21 2 0 p20.length), (11, .p 11 0 b3 0), (12, .v true (vi k8))] [.e 36 0 q21 (.row 72 (els true (List.map GPoint.e p20))), .e 11 0 (some (b3, 1024)) (.row 155 (els true (List.map vi x2)))] [] (0, false)) ?_ ?_
    · rintro _ ⟨p20, q21, H, rfl⟩
      subst j19_e
      refine ev_region ?_
      refine rq rfl rfl (q_move rfl) ?_
      refine rq rfl rfl (q_add rfl rfl) ?_
      refine rq rfl rfl (q_assign rfl) ?_
      refine run_nil ?_
      exact ⟨_, _, _, n18_e, H, ⟨q21, rfl⟩, shift_mk ⟨⟨_, rfl, (.flat rfl)⟩, ⟨⟨_, rfl, .rfl⟩, ⟨⟨_, rfl, .rfl⟩, ⟨⟨_, rfl, (.eq (congrArg (fun n => D.v true (vi n)) (wrap_succ' (by omega) w17 w16)))⟩, trivial⟩⟩⟩⟩ ⟨(.e rfl), ⟨(.e rfl), trivial⟩⟩ rfl rfl⟩
    · clear j19_e
      refine ev_block ?_
      refine ev_seq ?_
      refine ev_region ?_
      refine rq rfl rfl (q_move rfl) ?_
      obtain ⟨x22, x22_h, H⟩ := bd_inv H
      obtain ⟨w23, H⟩ := gdd_inv H
      refine rq rfl rfl (q_idx_a rfl rfl (idx_inv x22_h).1 w23) ?_
      refine rq rfl rfl (q_load_el0 (E := vi) (fun _ => rfl) rfl rfl (idx_inv x22_h).2.1) ?_
      refine rq rfl rfl (q_geq rfl rfl) ?_
      refine run_nil ?_
      refine ev_cond rfl (fun hc => ?_) (fun hc => ?_)
      · replace H := ct hc H
        refine ev_region ?_
        refine rq rfl rfl (q_move rfl) ?_
        refine rq rfl rfl (q_move rfl) ?_
        refine rq rfl rfl (q_move rfl) ?_
        obtain ⟨w24, H⟩ := gdd_inv H
        refine rq rfl rfl (q_idx_a rfl rfl (idx_inv x22_h).1 w24) ?_
        refine rq rfl rfl (q_load_el0 (E := vi) (fun _ => rfl) rfl rfl (idx_inv x22_h).2.1) ?_
        refine rq rfl rfl (q_build rfl (.v rfl rfl rfl rfl rfl (.v rfl rfl rfl rfl rfl .nil))) ?_
        refine rq rfl rfl (q_buildSlice (z := 2) (xs := List.map GPoint.e ([(⟨k8, x22⟩ : GPoint)] : List GPoint)) (fl := true) rfl rfl rfl rfl (by simp [V.plain, V.cells, GPoint.e, vi, vb]) rfl) ?_
        obtain ⟨w25, H⟩ := gdd_inv H
        refine re rfl (e_appt rfl rfl rfl (fun _ => ⟨rfl, rfl⟩) rfl rfl rfl w25 rfl) ?_; rintro _ ⟨q26, rfl⟩
        refine rq rfl rfl (q_assign rfl) ?_
        refine run_nil ?_
        exact ⟨_, ⟨s6 ++ ([(⟨k8, x22⟩ : GPoint)] : List GPoint), q26, H, rfl⟩, shift_mk ⟨⟨_, rfl, (.flat rfl)⟩, ⟨⟨_, rfl, .rfl⟩, ⟨⟨_, rfl, .rfl⟩, ⟨⟨_, rfl, (.flat rfl)⟩, trivial⟩⟩⟩⟩ ⟨(.e rfl), ⟨(.e rfl), trivial⟩⟩ rfl rfl⟩
      · replace H := cf hc H
        refine ev_skip ?_
        exact ⟨_, ⟨s6, q11, H, rfl⟩, shift_mk ⟨⟨_, rfl, (.flat rfl)⟩, ⟨⟨_, rfl, .rfl⟩, ⟨⟨_, rfl, .rfl⟩, ⟨⟨_, rfl, (.flat rfl)⟩, trivial⟩⟩⟩⟩ ⟨(.e rfl), ⟨(.e rfl), trivial⟩⟩ rfl rfl⟩
  · replace H := forN_out hc w13 H
    refine ev_exit ?_
    refine ev_seq ?_
    refine ev_region ?_
    refine rq rfl rfl (q_move rfl) ?_
    refine rq rfl rfl (q_assign rfl) ?_
    refine run_nil ?_
    refine ev_ret ?_
    exact ret_ok [V.l 2 (List.map GPoint.e s6)] (congrArg (fun r : (List GPoint) => V.l 2 (List.map GPoint.e r)) (Option.some.inj H)) rfl (.cons (.tmp rfl (.all rfl (List.length_map _) (els_plain fun _ => ⟨rfl, rfl⟩) (fun _ => rfl))) .nil)
def facts_Alike_m (a0 : List GFact) (a1 : List GRead) (a2 : Int) (a3 : Int) : Option Bool := forL a1 (fun (k3 : Nat) (x5 : GRead) (s1 : Unit) loop2 => bd (facts_Points_m a0 x5.key x5.from_ x5.to_ a2) fun x9 => bd (facts_Points_m a0 x5.key x5.from_ x5.to_ a3) fun x10 => bd (slices_Equal_Point_m x9 x10) fun x11 => bif !x11 then (some false) else (loop2 ())) (fun (s1 : Unit) => some true) ()
theorem facts_Alike_c {a0 : List GFact} {a1 : List GRead} {a2 : Int} {a3 : Int} {r : Bool} (H : facts_Alike_m a0 a1 a2 a3 = some r) : PureC Try.prog true 29 [V.l 8 (List.map GFact.e a0), V.l 5 (List.map GRead.e a1), vi a2, vi a3] (vb r) := by
  unfold facts_Alike_m at H
  refine pure_intro (N := 38) Try.func29 rfl rfl rfl rfl fun C hO => ?_
  refine ev_shift (shift_mk (fs := [(0, .v false (V.l 8 (List.map GFact.e a0))), (1, .v false (V.l 5 (List.map GRead.e a1))), (2, .v true (vi a2)), (3, .v true (vi a3))]) (es := []) ⟨⟨_, rfl, .rfl⟩, ⟨⟨_, rfl, .rfl⟩, ⟨⟨_, rfl, (.flat rfl)⟩, ⟨⟨_, rfl, (.flat rfl)⟩, trivial⟩⟩⟩⟩ trivial rfl rfl) ?_
  refine ev_seq ?_
  refine ev_region ?_
  refine rq rfl rfl (q_assign rfl) ?_
  refine run_nil ?_
  refine ev_seq ?_
  refine ev_seq ?_
  refine ev_region ?_
  refine rq rfl rfl (q_move rfl) ?_
  refine rq rfl rfl (q_len_t rfl) ?_
  refine rq rfl rfl (q_move rfl) ?_
  refine run_nil ?_
  refine ev_block ?_
  refine ev_len_l (s := 11) rfl fun w7 => ?_
  rw [List.length_map] at w7
  refine ev_forL H (fun k3 s1 σ' => σ' = mkS [(0, .v false (V.l 8 (List.map GFact.e a0))), (2, .v true (vi a2)), (3, .v true (vi a3)), (8, .v true (vb false)), (11, .v false (V.l 5 (List.map GRead.e a1))), (12, .v true (vi ((a1.length : Nat) : Int))), (13, .v true (vi ((k3 : Nat) : Int)))] [] [] (0, false)) ⟨_, rfl, shift_mk ⟨⟨_, rfl, .rfl⟩, ⟨⟨_, rfl, (.flat rfl)⟩, ⟨⟨_, rfl, (.flat rfl)⟩, ⟨⟨_, rfl, (.flat rfl)⟩, ⟨⟨_, rfl, .rfl⟩, ⟨⟨_, rfl, (.flat rfl)⟩, ⟨⟨_, rfl, .rfl⟩, trivial⟩⟩⟩⟩⟩⟩⟩ trivial rfl rfl⟩ ?_
  rintro k3 s1 _ rfl _ H
  refine ev_seq ?_
  refine ev_region ?_
  refine rq rfl rfl (q_lss rfl rfl) ?_
  refine run_nil ?_
  refine ev_seq ?_
  refine ev_cond rfl (fun hc => ?_) (fun hc => ?_)
  · obtain ⟨x5, w6, x5_g, H⟩ := forL_in hc H
    have x5_h : idx a1 ((k3 : Nat) : Int) = some x5 := by rw [idx_nat]; exact x5_g
    refine ev_skip ?_
    refine ev_seq ?_
    refine ev_block ?_
    refine ev_seq ?_
    refine ev_region ?_
    refine rq rfl rfl (q_idx_l rfl rfl (idx_inv x5_h).1 (map_get (idx_inv x5_h).2.1) rfl) ?_
    refine rq rfl rfl (q_load_e rfl rfl rfl) ?_
    refine re rfl (e_alloc 10 0 rfl rfl) ?_; rintro _ ⟨b8, rfl⟩
    refine re rfl (e_store rfl rfl rfl rfl rfl (Nat.le_of_ble_eq_true rfl) rfl) ?_; rintro _ rfl
    refine run_nil ?_
    refine ev_seq ?_
    obtain ⟨x9, x9_h, H⟩ := bd_inv H
    obtain ⟨x10, x10_h, H⟩ := bd_inv H
    obtain ⟨x11, x11_h, H⟩ := bd_inv H
    refine ev_draw rfl (by kernel_rfl) ?_
    refine qq rfl rfl (q_move rfl) ?_
    refine qq rfl rfl (q_fld_p rfl) ?_
    refine qq rfl rfl (q_loadN rfl rfl rfl rfl) ?_
    refine qq rfl rfl (q_fld_p rfl) ?_
    refine qq rfl rfl (q_load1 rfl rfl rfl) ?_
    refine qq rfl rfl (q_fld_p rfl) ?_
    refine qq rfl rfl (q_load1 rfl rfl rfl) ?_
    refine qq rfl rfl (q_move rfl) ?_
    refine qq rfl rfl (q_call rfl (.v _ _ (fun e => nomatch e)) (.v rfl (.v rfl (.v rfl (.v rfl (.v rfl ArgsOk.nil))))) inferInstance (facts_Points_c  x9_h)) ?_
    refine qq rfl rfl (q_move rfl) ?_
    refine qq rfl rfl (q_fld_p rfl) ?_
    refine qq rfl rfl (q_loadN rfl rfl rfl rfl) ?_
    refine qq rfl rfl (q_fld_p rfl) ?_
    refine qq rfl rfl (q_load1 rfl rfl rfl) ?_
    refine qq rfl rfl (q_fld_p rfl) ?_
    refine qq rfl rfl (q_load1 rfl rfl rfl) ?_
    refine qq rfl rfl (q_move rfl) ?_
    refine qq rfl rfl (q_call rfl (.v _ _ (fun e => nomatch e)) (.v rfl (.v rfl (.v rfl (.v rfl (.v rfl ArgsOk.nil))))) inferInstance (facts_Points_c  x10_h)) ?_
    refine qq rfl rfl (q_call rfl (.v _ _ (fun e => nomatch e)) (.v rfl (.v rfl ArgsOk.nil)) inferInstance (slices_Equal_Point_c  x11_h)) ?_
    refine qq rfl rfl (q_not rfl) ?_
    refine qn ?_
    refine ev_cond rfl (fun hc => ?_) (fun hc => ?_)
    · replace H := ct hc H
      refine ev_seq ?_
      refine ev_region ?_
      refine rq rfl rfl (q_assign rfl) ?_
      refine run_nil ?_
      refine ev_ret ?_
      exact ret_ok [vb false] (congrArg (fun r : Bool => vb r) (Option.some.inj H)) rfl (.cons (.tmp rfl (.v _ _ (fun _ => rfl))) .nil)
    · replace H := cf hc H
      refine ev_skip ?_
      refine ev_region ?_
      refine rq rfl rfl (q_add rfl rfl) ?_
      refine rq rfl rfl (q_move rfl) ?_
      refine run_nil ?_
      exact ⟨_, _, w6, H, rfl, shift_mk ⟨⟨_, rfl, .rfl⟩, ⟨⟨_, rfl, (.flat rfl)⟩, ⟨⟨_, rfl, (.flat rfl)⟩, ⟨⟨_, rfl, (.flat rfl)⟩, ⟨⟨_, rfl, .rfl⟩, ⟨⟨_, rfl, (.flat rfl)⟩, ⟨⟨_, rfl, (.eq (congrArg (fun n => D.v true (vi n)) (wrap_succ w6 w7)))⟩, trivial⟩⟩⟩⟩⟩⟩⟩ trivial rfl rfl⟩
  · replace H := forL_out hc H
    refine ev_exit ?_
    refine ev_seq ?_
    refine ev_region ?_
    refine rq rfl rfl (q_assign rfl) ?_
    refine run_nil ?_
    refine ev_ret ?_
    exact ret_ok [vb true] (congrArg (fun r : Bool => vb r) (Option.some.inj H)) rfl (.cons (.tmp rfl (.v _ _ (fun _ => rfl))) .nil)
def backflushlaw40_QualityReads_m (a0 : GWorld) (a1 : Int) (a2 : Int) (a3 : Int) (a4 : Int) (a5 : List GSpec) (a6 : List Int) : Option Bool := bd (backflushlaw40_sane_m) fun x2 => bif !x2 then (some false) else (bd (backflushref40_Few_m a0 a5 a6) fun x3 => bif !x3 then (some true) else (bd (quality_State_m a0 a1 a2 a3 a5 a6) fun x4 => bdc (!(x4.2.2 != 0)) (facts_Alike_m a0.facts x4.2.1 a3 a4) fun x5 => bif bif x4.2.2 != 0 then true else !x5 then (some true) else (bd (quality_State_m a0 a1 a2 a4 a5 a6) fun x6 => bd (quality_Certify_m a0 a1 a2 a3 a5) fun x7 => bd (quality_Certify_m a0 a1 a2 a4 a5) fun x9 => bdc (bif x6.2.2 == 0 then x4.1 == x6.1 else false) (backflushref04_SameReads_m x4.2.1 x6.2.1) fun x11 => bdc (bif bif bif x6.2.2 == 0 then x4.1 == x6.1 else false then x11 else false then x7.2.2 == x9.2.2 else false) (backflushref40_Same_m x7.1 x9.1) fun x12 => some (bif bif bif bif x6.2.2 == 0 then x4.1 == x6.1 else false then x11 else false then x7.2.2 == x9.2.2 else false then x12 else false))))
theorem backflushlaw40_QualityReads_c {a0 : GWorld} {a1 : Int} {a2 : Int} {a3 : Int} {a4 : Int} {a5 : List GSpec} {a6 : List Int} {r : Bool} (H : backflushlaw40_QualityReads_m a0 a1 a2 a3 a4 a5 a6 = some r) : PureC Try.prog true 8 [GWorld.e a0, vi a1, vi a2, vi a3, vi a4, V.l 3 (List.map GSpec.e a5), V.l 1 (List.map vi a6)] (vb r) := by
  unfold backflushlaw40_QualityReads_m at H
  refine pure_intro (N := 109) Try.func8 rfl rfl rfl rfl fun C hO => ?_
  refine ev_shift (shift_mk (fs := [(0, .v false (GWorld.e a0)), (1, .v true (vi a1)), (2, .v true (vi a2)), (3, .v true (vi a3)), (4, .v true (vi a4)), (5, .v false (V.l 3 (List.map GSpec.e a5))), (6, .v false (V.l 1 (List.map vi a6)))]) (es := []) ⟨⟨_, rfl, .rfl⟩, ⟨⟨_, rfl, (.flat rfl)⟩, ⟨⟨_, rfl, (.flat rfl)⟩, ⟨⟨_, rfl, (.flat rfl)⟩, ⟨⟨_, rfl, (.flat rfl)⟩, ⟨⟨_, rfl, .rfl⟩, ⟨⟨_, rfl, .rfl⟩, trivial⟩⟩⟩⟩⟩⟩⟩ trivial rfl rfl) ?_
  refine ev_seq ?_
  refine ev_region ?_
  refine re rfl (e_box 7 0 rfl rfl rfl) ?_; rintro _ ⟨b1, rfl⟩
  refine rq rfl rfl (q_assign rfl) ?_
  refine run_nil ?_
  refine ev_seq ?_
  refine ev_seq ?_
  refine ev_region ?_
  obtain ⟨x2, x2_h, H⟩ := bd_inv H
  refine rq rfl rfl (q_call rfl (.v _ _ (fun e => nomatch e)) ArgsOk.nil inferInstance (backflushlaw40_sane_c  x2_h)) ?_
  refine rq rfl rfl (q_not rfl) ?_
  refine run_nil ?_
  refine ev_cond rfl (fun hc => ?_) (fun hc => ?_)
  · replace H := ct hc H
    refine ev_seq ?_
    refine ev_region ?_
    refine rq rfl rfl (q_assign rfl) ?_
    refine run_nil ?_
    refine ev_ret ?_
    exact ret_ok [vb false] (congrArg (fun r : Bool => vb r) (Option.some.inj H)) rfl (.cons (.tmp rfl (.v _ _ (fun _ => rfl))) .nil)
  · replace H := cf hc H
    refine ev_skip ?_
    refine ev_seq ?_
    refine ev_seq ?_
    refine ev_region ?_
    refine rq rfl rfl (q_loadN rfl rfl rfl rfl) ?_
    refine rq rfl rfl (q_move rfl) ?_
    refine rq rfl rfl (q_move rfl) ?_
    obtain ⟨x3, x3_h, H⟩ := bd_inv H
    refine rq rfl rfl (q_call rfl (.v _ _ (fun e => nomatch e)) (.v rfl (.v rfl (.v rfl ArgsOk.nil))) inferInstance (backflushref40_Few_c  x3_h)) ?_
    refine rq rfl rfl (q_not rfl) ?_
    refine run_nil ?_
    refine ev_cond rfl (fun hc => ?_) (fun hc => ?_)
    · replace H := ct hc H
      refine ev_seq ?_
      refine ev_region ?_
      refine rq rfl rfl (q_assign rfl) ?_
      refine run_nil ?_
      refine ev_ret ?_
      exact ret_ok [vb true] (congrArg (fun r : Bool => vb r) (Option.some.inj H)) rfl (.cons (.tmp rfl (.v _ _ (fun _ => rfl))) .nil)
    · replace H := cf hc H
      refine ev_skip ?_
      refine ev_seq ?_
      refine ev_region ?_
      refine rq rfl rfl (q_loadN rfl rfl rfl rfl) ?_
      refine rq rfl rfl (q_move rfl) ?_
      refine rq rfl rfl (q_move rfl) ?_
      refine rq rfl rfl (q_move rfl) ?_
      refine rq rfl rfl (q_move rfl) ?_
      refine rq rfl rfl (q_move rfl) ?_
      obtain ⟨x4, x4_h, H⟩ := bd_inv H
      refine rq rfl rfl (q_call rfl (.v _ _ (fun e => nomatch e)) (.v rfl (.v rfl (.v rfl (.v rfl (.v rfl (.v rfl ArgsOk.nil)))))) inferInstance (quality_State_c  x4_h)) ?_
      refine rq rfl rfl (q_move rfl) ?_
      refine rq rfl rfl (q_extract rfl rfl) ?_
      refine rq rfl rfl (q_extract rfl rfl) ?_
      refine rq rfl rfl (q_extract rfl rfl) ?_
      refine rq rfl rfl (q_assign rfl) ?_
      refine rq rfl rfl (q_assign rfl) ?_
      refine rq rfl rfl (q_assign rfl) ?_
      refine run_nil ?_
      refine ev_seq ?_
      refine ev_seq ?_
      refine ev_region ?_
      refine rq rfl rfl (q_move rfl) ?_
      refine rq rfl rfl (q_nei rfl rfl) ?_
      refine rq rfl rfl (q_move rfl) ?_
      refine rqc (l := []) ⟨⟨_, _, _, rfl, rfl, rfl, rfl⟩, rfl, fun hc => q_fld_p rfl, trivial⟩ rfl ?_
      refine rqc (l := [48]) ⟨⟨_, _, _, rfl, rfl, rfl, rfl⟩, rfl, fun hc => q_load1 rfl rfl rfl, ⟨fun h => h, trivial⟩⟩ rfl ?_
      refine rqc (l := []) ⟨⟨_, _, _, rfl, rfl, rfl, rfl⟩, rfl, fun hc => q_move rfl, trivial⟩ rfl ?_
      refine rqc (l := []) ⟨⟨_, _, _, rfl, rfl, rfl, rfl⟩, rfl, fun hc => q_move rfl, trivial⟩ rfl ?_
      refine rqc (l := []) ⟨⟨_, _, _, rfl, rfl, rfl, rfl⟩, rfl, fun hc => q_move rfl, trivial⟩ rfl ?_
      obtain ⟨x5, x5_h, _, H⟩ := bdc_inv H
      refine rqc (l := [49, 50, 51, 52]) ⟨⟨_, _, _, rfl, rfl, rfl, rfl⟩, rfl, fun hc => q_call rfl (.v _ _ (fun e => nomatch e)) (.v rfl (.v rfl (.v rfl (.v rfl ArgsOk.nil)))) inferInstance (facts_Alike_c  (x5_h hc)), ⟨fun h => h, ⟨fun h => h, ⟨fun h => h, ⟨fun h => h, trivial⟩⟩⟩⟩⟩ rfl ?_
      refine rqc (l := [53]) ⟨⟨_, _, _, rfl, rfl, rfl, rfl⟩, rfl, fun hc => q_not rfl, ⟨fun h => h, trivial⟩⟩ rfl ?_
      refine rq rfl rfl (q_pickb rfl rfl rfl PB.v (PB.c (fun hp => by rw [hp]; rfl))) ?_
      refine run_nil ?_
      refine ev_cond rfl (fun hc => ?_) (fun hc => ?_)
      · replace H := ct hc H
        refine ev_seq ?_
        refine ev_region ?_
        refine rq rfl rfl (q_assign rfl) ?_
        refine run_nil ?_
        refine ev_ret ?_
        exact ret_ok [vb true] (congrArg (fun r : Bool => vb r) (Option.some.inj H)) rfl (.cons (.tmp rfl (.v _ _ (fun _ => rfl))) .nil)
      · replace H := cf hc H
        refine ev_skip ?_
        refine ev_seq ?_
        refine ev_region ?_
        refine rq rfl rfl (q_loadN rfl rfl rfl rfl) ?_
        refine rq rfl rfl (q_move rfl) ?_
        refine rq rfl rfl (q_move rfl) ?_
        refine rq rfl rfl (q_move rfl) ?_
        refine rq rfl rfl (q_move rfl) ?_
        refine rq rfl rfl (q_move rfl) ?_
        obtain ⟨x6, x6_h, H⟩ := bd_inv H
        refine rq rfl rfl (q_call rfl (.v _ _ (fun e => nomatch e)) (.v rfl (.v rfl (.v rfl (.v rfl (.v rfl (.v rfl ArgsOk.nil)))))) inferInstance (quality_State_c  x6_h)) ?_
        refine rq rfl rfl (q_move rfl) ?_
        refine rq rfl rfl (q_extract rfl rfl) ?_
        refine rq rfl rfl (q_extract rfl rfl) ?_
        refine rq rfl rfl (q_extract rfl rfl) ?_
        refine rq rfl rfl (q_assign rfl) ?_
        refine rq rfl rfl (q_assign rfl) ?_
        refine rq rfl rfl (q_assign rfl) ?_
        refine run_nil ?_
        refine ev_seq ?_
        refine ev_region ?_
        refine rq rfl rfl (q_loadN rfl rfl rfl rfl) ?_
        refine rq rfl rfl (q_move rfl) ?_
        refine rq rfl rfl (q_move rfl) ?_
        refine rq rfl rfl (q_move rfl) ?_
        refine rq rfl rfl (q_move rfl) ?_
        obtain ⟨x7, x7_h, H⟩ := bd_inv H
        refine rq rfl rfl (q_call rfl (.v _ _ (fun e => nomatch e)) (.v rfl (.v rfl (.v rfl (.v rfl (.v rfl ArgsOk.nil))))) inferInstance (quality_Certify_c  x7_h)) ?_
        refine rq rfl rfl (q_move rfl) ?_
        refine rq rfl rfl (q_extract rfl rfl) ?_
        refine rq rfl rfl (q_extract rfl rfl) ?_
        refine rq rfl rfl (q_extract rfl rfl) ?_
        refine re rfl (e_alloc 21 0 rfl rfl) ?_; rintro _ ⟨b8, rfl⟩
        refine re rfl (e_store rfl rfl rfl rfl rfl (Nat.le_of_ble_eq_true rfl) rfl) ?_; rintro _ rfl
        refine rq rfl rfl (q_assign rfl) ?_
        refine rq rfl rfl (q_assign rfl) ?_
        refine run_nil ?_
        refine ev_seq ?_
        refine ev_region ?_
        refine rq rfl rfl (q_loadN rfl rfl rfl rfl) ?_
        refine rq rfl rfl (q_move rfl) ?_
        refine rq rfl rfl (q_move rfl) ?_
        refine rq rfl rfl (q_move rfl) ?_
        refine rq rfl rfl (q_move rfl) ?_
        obtain ⟨x9, x9_h, H⟩ := bd_inv H
        refine rq rfl rfl (q_call rfl (.v _ _ (fun e => nomatch e)) (.v rfl (.v rfl (.v rfl (.v rfl (.v rfl ArgsOk.nil))))) inferInstance (quality_Certify_c  x9_h)) ?_
        refine rq rfl rfl (q_move rfl) ?_
        refine rq rfl rfl (q_extract rfl rfl) ?_
        refine rq rfl rfl (q_extract rfl rfl) ?_
        refine rq rfl rfl (q_extract rfl rfl) ?_
        refine re rfl (e_alloc 24 0 rfl rfl) ?_; rintro _ ⟨b10, rfl⟩
        refine re rfl (e_store rfl rfl rfl rfl rfl (Nat.le_of_ble_eq_true rfl) rfl) ?_; rintro _ rfl
        refine rq rfl rfl (q_assign rfl) ?_
        refine rq rfl rfl (q_assign rfl) ?_
        refine run_nil ?_
        refine ev_seq ?_
        refine ev_region ?_
        refine rq rfl rfl (q_move rfl) ?_
        refine rq rfl rfl (q_eqi rfl rfl) ?_
        refine rq rfl rfl (q_move rfl) ?_
        refine rqc (l := []) ⟨⟨_, _, _, rfl, rfl, rfl, rfl⟩, rfl, fun hc => q_move rfl, trivial⟩ rfl ?_
        refine rqc (l := []) ⟨⟨_, _, _, rfl, rfl, rfl, rfl⟩, rfl, fun hc => q_move rfl, trivial⟩ rfl ?_
        refine rqc (l := [90, 91]) ⟨⟨_, _, _, rfl, rfl, rfl, rfl⟩, rfl, fun hc => q_eqi rfl rfl, ⟨fun h => h, ⟨fun h => h, trivial⟩⟩⟩ rfl ?_
        refine rq rfl rfl (q_pickb rfl rfl rfl (PB.c (fun hp => hp)) PB.v) ?_
        refine rq rfl rfl (q_move rfl) ?_
        refine rqc (l := []) ⟨⟨_, _, _, rfl, rfl, rfl, rfl⟩, rfl, fun hc => q_move rfl, trivial⟩ rfl ?_
        refine rqc (l := []) ⟨⟨_, _, _, rfl, rfl, rfl, rfl⟩, rfl, fun hc => q_move rfl, trivial⟩ rfl ?_
        obtain ⟨x11, x11_h, _, H⟩ := bdc_inv H
        refine rqc (l := [95, 96]) ⟨⟨_, _, _, rfl, rfl, rfl, rfl⟩, rfl, fun hc => q_call rfl (.v _ _ (fun e => nomatch e)) (.v rfl (.v rfl ArgsOk.nil)) inferInstance (backflushref04_SameReads_c  (x11_h hc)), ⟨fun h => h, ⟨fun h => h, trivial⟩⟩⟩ rfl ?_
        refine rq rfl rfl (q_pickb rfl rfl rfl (PB.c (fun hp => hp)) PB.v) ?_
        refine rq rfl rfl (q_move rfl) ?_
        refine rqc (l := []) ⟨⟨_, _, _, rfl, rfl, rfl, rfl⟩, rfl, fun hc => q_move rfl, trivial⟩ rfl ?_
        refine rqc (l := []) ⟨⟨_, _, _, rfl, rfl, rfl, rfl⟩, rfl, fun hc => q_move rfl, trivial⟩ rfl ?_
        refine rqc (l := [100, 101]) ⟨⟨_, _, _, rfl, rfl, rfl, rfl⟩, rfl, fun hc => q_eqi rfl rfl, ⟨fun h => h, ⟨fun h => h, trivial⟩⟩⟩ rfl ?_
        refine rq rfl rfl (q_pickb rfl rfl rfl (PB.c (fun hp => hp)) PB.v) ?_
        refine rq rfl rfl (q_move rfl) ?_
        refine rqc (l := []) ⟨⟨_, _, _, rfl, rfl, rfl, rfl⟩, rfl, fun hc => q_loadN rfl rfl rfl rfl, trivial⟩ rfl ?_
        refine rqc (l := []) ⟨⟨_, _, _, rfl, rfl, rfl, rfl⟩, rfl, fun hc => q_loadN rfl rfl rfl rfl, trivial⟩ rfl ?_
        obtain ⟨x12, x12_h, _, H⟩ := bdc_inv H
        refine rqc (l := [105, 106]) ⟨⟨_, _, _, rfl, rfl, rfl, rfl⟩, rfl, fun hc => q_call rfl (.v _ _ (fun e => nomatch e)) (.v rfl (.v rfl ArgsOk.nil)) inferInstance (backflushref40_Same_c  (x12_h hc)), ⟨fun h => h, ⟨fun h => h, trivial⟩⟩⟩ rfl ?_
        refine rq rfl rfl (q_pickb rfl rfl rfl (PB.c (fun hp => hp)) PB.v) ?_
        refine rq rfl rfl (q_assign rfl) ?_
        refine run_nil ?_
        refine ev_ret ?_
        exact ret_ok [vb (bif bif bif bif x6.2.2 == 0 then x4.1 == x6.1 else false then x11 else false then x7.2.2 == x9.2.2 else false then x12 else false)] (congrArg (fun r : Bool => vb r) (Option.some.inj H)) rfl (.cons (.tmp rfl (.v _ _ (fun _ => rfl))) .nil)
end Bf
