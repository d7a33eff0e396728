import Derived.Test.YtedblpbpoekdlaaS2
import Derived.Test.YtedblpbpoekdlaaF28
namespace Bf
open Go Go.RowKit Go.Proofs
attribute [local irreducible] Quiet Eff RunS Ev PureC Shift RunQ RetQ RetR SeqQ
set_option linter.unusedVariables false
set_option maxRecDepth 4000
structure GLine where
  item : Int
  plant : Int
  config : Int
  deriving Inhabited, DecidableEq
def GLine.e (x : GLine) : V := .st [vi x.item, vi x.plant, vi x.config]
def GLot.eqb (x y : GLot) : Bool := (x.no_ == y.no_ && (x.item == y.item && (x.plant == y.plant && (x.amount == y.amount && (x.expiry == y.expiry && (x.state == y.state && true))))))
def GRead.eqb (x y : GRead) : Bool := (x.key.kind == y.key.kind && (x.key.subject == y.key.subject && (x.key.object == y.key.object && (x.from_ == y.from_ && (x.to_ == y.to_ && true)))))
def GSpan.eqb (x y : GSpan) : Bool := (x.from_ == y.from_ && (x.to_ == y.to_ && true))
def GPoint.eqb (x y : GPoint) : Bool := (x.day == y.day && (x.value == y.value && true))
def slices_stableCmpFunc_Lot_m (a0 : List GLot) (a1 : Int) (a2 : GLot → GLot → Option Int) : Option (List GLot) := iter (fun (s1 : Int × Int × (List GLot)) loop2 => bif decide (s1.2.1 ≤ a1) then (bd (slices_insertionSortCmpFunc_Lot_m s1.2.2 s1.1 s1.2.1 a2) fun x6 => gd (decide (x6.length = s1.2.2.length)) <| loop2 (s1.2.1, wr (s1.2.1 + 20), x6)) else (bd (slices_insertionSortCmpFunc_Lot_m s1.2.2 s1.1 a1 a2) fun x8 => gd (decide (x8.length = s1.2.2.length)) <| iter (fun (s10 : Int) loop11 => bif decide (s10 < a1) then (iter (fun (s13 : Unit) loop14 => bif decide ((wr (2 * s10)) ≤ a1) then (none) else (bif decide ((wr (0 + s10)) < a1) then (none) else (loop11 (wr (s10 * 2))))) 1048576 ()) else (some x8)) 1048576 20)) 1048576 (0, 20, a0)
theorem slices_stableCmpFunc_Lot_c {a0 : List GLot} {q_a0 : Pl} {a1 : Int} {a2_g : Nat} {a2_k : List V} {a2 : GLot → GLot → Option Int} [TFn Try.prog a2_g] (a2_h : ∀ y0 y1 r, a2 y0 y1 = some r → PureC Try.prog true a2_g ([GLot.e y0, GLot.e y1] ++ a2_k) (vi r)) {f_a1 : Bool} {f_a2 : Bool} {r : (List GLot)} (H : slices_stableCmpFunc_Lot_m a0 a1 a2 = some r) : FnR Try.prog 92 [.o 8000 0 q_a0 6 0 a0.length, .v f_a1 (vi a1), .v f_a2 (.c a2_g a2_k)] [.e 8000 0 q_a0 (.row 60 (els true (List.map GLot.e a0)))] (fun d es' => d = .t [] ∧ es' = [.e 8000 0 q_a0 (.row 60 (els true (List.map GLot.e r)))]) := by
  unfold slices_stableCmpFunc_Lot_m at H
  refine fnr_intro (N := 63) Try.func92 rfl rfl rfl rfl fun C => ?_
  refine ev_shift (shift_mk (fs := [(0, .o 8000 0 q_a0 6 0 a0.length), (1, .v true (vi a1)), (2, .v false (.c a2_g a2_k))]) (es := [.e 8000 0 q_a0 (.row 60 (els true (List.map GLot.e a0)))]) ⟨⟨_, rfl, .rfl⟩, ⟨⟨_, rfl, (.flat rfl)⟩, ⟨⟨_, rfl, .old⟩, trivial⟩⟩⟩ ⟨(.e rfl), trivial⟩ rfl rfl) ?_
  refine ev_seq ?_
  refine ev_region ?_
  refine rq rfl rfl (q_assign rfl) ?_
  refine run_nil ?_
  refine ev_seq ?_
  refine ev_region ?_
  refine rq rfl rfl (q_move rfl) ?_
  refine rq rfl rfl (q_assign rfl) ?_
  refine rq rfl rfl (q_assign rfl) ?_
  refine run_nil ?_
  refine ev_seq ?_
  refine ev_block ?_
  refine ev_iter H (fun s1 σ' => σ' = mkS [(0, .o 8000 0 q_a0 6 0 s1.2.2.length), (1, .v true (vi a1)), (2, .v false (.c a2_g a2_k)), (6, .v true (vi 20)), (7, .v true (vi s1.1)), (8, .v true (vi s1.2.1))] [.e 8000 0 q_a0 (.row 60 (els true (List.map GLot.e s1.2.2)))] [] (0, false)) ⟨_, rfl, shift_mk ⟨⟨_, rfl, .rfl⟩, ⟨⟨_, rfl, (.flat rfl)⟩, ⟨⟨_, rfl, .rfl⟩, ⟨⟨_, rfl, (.flat rfl)⟩, ⟨⟨_, rfl, (.flat rfl)⟩, ⟨⟨_, rfl, (.flat rfl)⟩, trivial⟩⟩⟩⟩⟩⟩ ⟨(.e rfl), trivial⟩ rfl rfl⟩ ?_
  rintro n17 s1 _ rfl H
  refine ev_seq ?_
  refine ev_seq ?_
  refine ev_region ?_
  refine rq rfl rfl (q_move rfl) ?_
  refine rq rfl rfl (q_move rfl) ?_
  refine rq rfl rfl (q_leq rfl rfl) ?_
  refine run_nil ?_
  refine ev_cond rfl (fun hc => ?_) (fun hc => ?_)
  · replace H := ct hc H
    refine ev_skip ?_
    refine ev_block ?_
    refine ev_seq ?_
    refine ev_region ?_
    refine rq rfl rfl (q_move rfl) ?_
    refine rq rfl rfl (q_move rfl) ?_
    refine rq rfl rfl (q_move rfl) ?_
    refine rq rfl rfl (q_move rfl) ?_
    obtain ⟨x6, x6_h, H⟩ := bd_inv H
    obtain ⟨w7, H⟩ := gdd_inv H
    refine re rfl (e_callR [8000] rfl (.v _ _ []) rfl inferInstance (slices_insertionSortCmpFunc_Lot_c (a3_h := a2_h) x6_h) ⟨(.e rfl), trivial⟩ rfl rfl) ?_; rintro _ ⟨_, _, ⟨rfl, rfl⟩, rfl⟩
    refine run_shift (shift_as (s := 0) (d' := .o 8000 0 q_a0 6 0 x6.length) rfl (by rw [w7]; first | done | rfl | simp [normD])) ?_
    refine run_shift (shift_as (s := 14) (d' := .o 8000 0 q_a0 6 0 x6.length) rfl (by rw [w7]; first | done | rfl | simp [normD])) ?_
    refine run_nil ?_
    refine ev_seq ?_
    refine ev_region ?_
    refine rq rfl rfl (q_move rfl) ?_
    refine rq rfl rfl (q_assign rfl) ?_
    refine run_nil ?_
    refine ev_region ?_
    refine rq rfl rfl (q_move rfl) ?_
    refine rq rfl rfl (q_move rfl) ?_
    refine rq rfl rfl (q_add rfl rfl) ?_
    refine rq rfl rfl (q_assign rfl) ?_
    refine run_nil ?_
    exact ⟨_, _, H, rfl, shift_mk ⟨⟨_, rfl, .rfl⟩, ⟨⟨_, rfl, (.flat rfl)⟩, ⟨⟨_, rfl, .rfl⟩, ⟨⟨_, rfl, (.flat rfl)⟩, ⟨⟨_, rfl, (.flat rfl)⟩, ⟨⟨_, rfl, (.flat rfl)⟩, trivial⟩⟩⟩⟩⟩⟩ ⟨(.e rfl), trivial⟩ rfl rfl⟩
  · replace H := cf hc H
    refine ev_exit ?_
    refine ev_seq ?_
    refine ev_region ?_
    refine rq rfl rfl (q_move rfl) ?_
    refine rq rfl rfl (q_move rfl) ?_
    refine rq rfl rfl (q_move rfl) ?_
    refine rq rfl rfl (q_move rfl) ?_
    obtain ⟨x8, x8_h, H⟩ := bd_inv H
    obtain ⟨w9, H⟩ := gdd_inv H
    refine re rfl (e_callR [8000] rfl (.v _ _ []) rfl inferInstance (slices_insertionSortCmpFunc_Lot_c (a3_h := a2_h) x8_h) ⟨(.e rfl), trivial⟩ rfl rfl) ?_; rintro _ ⟨_, _, ⟨rfl, rfl⟩, rfl⟩
    refine run_shift (shift_as (s := 0) (d' := .o 8000 0 q_a0 6 0 x8.length) rfl (by rw [w9]; first | done | rfl | simp [normD])) ?_
    refine run_shift (shift_as (s := 23) (d' := .o 8000 0 q_a0 6 0 x8.length) rfl (by rw [w9]; first | done | rfl | simp [normD])) ?_
    refine run_nil ?_
    refine ev_block ?_
    refine ev_iter H (fun s10 σ' => σ' = mkS [(0, .o 8000 0 q_a0 6 0 x8.length), (1, .v true (vi a1)), (2, .v false (.c a2_g a2_k)), (6, .v true (vi s10))] [.e 8000 0 q_a0 (.row 60 (els true (List.map GLot.e x8)))] [] (0, false)) ⟨_, rfl, shift_mk ⟨⟨_, rfl, .rfl⟩, ⟨⟨_, rfl, (.flat rfl)⟩, ⟨⟨_, rfl, .rfl⟩, ⟨⟨_, rfl, (.flat rfl)⟩, trivial⟩⟩⟩⟩ ⟨(.e rfl), trivial⟩ rfl rfl⟩ ?_
    rintro n16 s10 _ rfl H
    refine ev_seq ?_
    refine ev_seq ?_
    refine ev_region ?_
    refine rq rfl rfl (q_move rfl) ?_
    refine rq rfl rfl (q_move rfl) ?_
    refine rq rfl rfl (q_lss rfl rfl) ?_
    refine run_nil ?_
    refine ev_cond rfl (fun hc => ?_) (fun hc => ?_)
    · replace H := ct hc H
      refine ev_skip ?_
      refine ev_block ?_
      refine ev_seq ?_
      refine ev_region ?_
      refine rq rfl rfl (q_move rfl) ?_
      refine rq rfl rfl (q_mul rfl rfl) ?_
      refine rq rfl rfl (q_assign rfl) ?_
      refine rq rfl rfl (q_assign rfl) ?_
      refine run_nil ?_
      refine ev_seq ?_
      refine ev_block ?_
      refine ev_iter H (fun s13 σ' => σ' = mkS [(0, .o 8000 0 q_a0 6 0 x8.length), (1, .v true (vi a1)), (2, .v false (.c a2_g a2_k)), (6, .v true (vi s10)), (7, .v true (vi 0)), (8, .v true (vi (wr (2 * s10))))] [.e 8000 0 q_a0 (.row 60 (els true (List.map GLot.e x8)))] [] (0, false)) ⟨_, rfl, shift_mk ⟨⟨_, rfl, .rfl⟩, ⟨⟨_, rfl, (.flat rfl)⟩, ⟨⟨_, rfl, .rfl⟩, ⟨⟨_, rfl, (.flat rfl)⟩, ⟨⟨_, rfl, (.flat rfl)⟩, ⟨⟨_, rfl, (.flat rfl)⟩, trivial⟩⟩⟩⟩⟩⟩ ⟨(.e rfl), trivial⟩ rfl rfl⟩ ?_
      rintro n15 s13 _ rfl H
      refine ev_seq ?_
      refine ev_seq ?_
      refine ev_region ?_
      refine rq rfl rfl (q_move rfl) ?_
      refine rq rfl rfl (q_move rfl) ?_
      refine rq rfl rfl (q_leq rfl rfl) ?_
      refine run_nil ?_
      refine ev_cond rfl (fun hc => ?_) (fun hc => ?_)
      · replace H := ct hc H
        refine ev_skip ?_
        refine ev_block ?_
        refine ev_seq ?_
        refine ev_region ?_
        refine rq rfl rfl (q_move rfl) ?_
        refine rq rfl rfl (q_move rfl) ?_
        refine rq rfl rfl (q_move rfl) ?_
        refine rq rfl rfl (q_move rfl) ?_
        refine rq rfl rfl (q_add rfl rfl) ?_
        refine rq rfl rfl (q_move rfl) ?_
        refine rq rfl rfl (q_move rfl) ?_
        cases H
      · replace H := cf hc H
        refine ev_exit ?_
        refine ev_seq ?_
        refine ev_seq ?_
        refine ev_region ?_
        refine rq rfl rfl (q_move rfl) ?_
        refine rq rfl rfl (q_move rfl) ?_
        refine rq rfl rfl (q_add rfl rfl) ?_
        refine rq rfl rfl (q_assign rfl) ?_
        refine run_nil ?_
        refine ev_seq ?_
        refine ev_region ?_
        refine rq rfl rfl (q_move rfl) ?_
        refine rq rfl rfl (q_move rfl) ?_
        refine rq rfl rfl (q_lss rfl rfl) ?_
        refine run_nil ?_
        refine ev_cond rfl (fun hc => ?_) (fun hc => ?_)
        · replace H := ct hc H
          refine ev_region ?_
          refine rq rfl rfl (q_move rfl) ?_
          refine rq rfl rfl (q_move rfl) ?_
          refine rq rfl rfl (q_move rfl) ?_
          refine rq rfl rfl (q_move rfl) ?_
          refine rq rfl rfl (q_move rfl) ?_
          cases H
        · replace H := cf hc H
          refine ev_skip ?_
          refine ev_region ?_
          refine rq rfl rfl (q_move rfl) ?_
          refine rq rfl rfl (q_mul rfl rfl) ?_
          refine rq rfl rfl (q_assign rfl) ?_
          refine run_nil ?_
          exact ⟨_, _, H, rfl, shift_mk ⟨⟨_, rfl, .rfl⟩, ⟨⟨_, rfl, (.flat rfl)⟩, ⟨⟨_, rfl, .rfl⟩, ⟨⟨_, rfl, (.flat rfl)⟩, trivial⟩⟩⟩⟩ ⟨(.e rfl), trivial⟩ rfl rfl⟩
    · replace H := cf hc H
      refine ev_exit ?_
      have hr := Option.some.inj H
      exact endR [] [.e 8000 0 q_a0 (.row 60 (els true (List.map GLot.e x8)))] rfl .nil ⟨by cases hr; rfl, by cases hr; rfl⟩ ⟨(.e rfl), trivial⟩
def slices_SortStableFunc_Lot_m (a0 : List GLot) (a1 : GLot → GLot → Option Int) : Option (List GLot) := bd (slices_stableCmpFunc_Lot_m a0 ((a0.length : Nat) : Int) a1) fun x1 => gd (decide (x1.length = a0.length)) <| some x1
theorem slices_SortStableFunc_Lot_c {a0 : List GLot} {q_a0 : Pl} {a1_g : Nat} {a1_k : List V} {a1 : GLot → GLot → Option Int} [TFn Try.prog a1_g] (a1_h : ∀ y0 y1 r, a1 y0 y1 = some r → PureC Try.prog true a1_g ([GLot.e y0, GLot.e y1] ++ a1_k) (vi r)) {f_a1 : Bool} {r : (List GLot)} (H : slices_SortStableFunc_Lot_m a0 a1 = some r) : FnR Try.prog 65 [.o 8000 0 q_a0 6 0 a0.length, .v f_a1 (.c a1_g a1_k)] [.e 8000 0 q_a0 (.row 60 (els true (List.map GLot.e a0)))] (fun d es' => d = .t [] ∧ es' = [.e 8000 0 q_a0 (.row 60 (els true (List.map GLot.e r)))]) := by
  unfold slices_SortStableFunc_Lot_m at H
  refine fnr_intro (N := 9) Try.func65 rfl rfl rfl rfl fun C => ?_
  refine ev_shift (shift_mk (fs := [(0, .o 8000 0 q_a0 6 0 a0.length), (1, .v false (.c a1_g a1_k))]) (es := [.e 8000 0 q_a0 (.row 60 (els true (List.map GLot.e a0)))]) ⟨⟨_, rfl, .rfl⟩, ⟨⟨_, rfl, .old⟩, trivial⟩⟩ ⟨(.e rfl), trivial⟩ rfl rfl) ?_
  refine ev_region ?_
  refine rq rfl rfl (q_move rfl) ?_
  refine rq rfl rfl (q_move rfl) ?_
  refine rq rfl rfl (q_len_o rfl) ?_
  refine rq rfl rfl (q_move rfl) ?_
  obtain ⟨x1, x1_h, H⟩ := bd_inv H
  obtain ⟨w2, H⟩ := gdd_inv H
  refine re rfl (e_callR [8000] rfl (.v _ _ []) rfl inferInstance (slices_stableCmpFunc_Lot_c (a2_h := a1_h) x1_h) ⟨(.e rfl), trivial⟩ rfl rfl) ?_; rintro _ ⟨_, _, ⟨rfl, rfl⟩, rfl⟩
  refine run_shift (shift_as (s := 0) (d' := .o 8000 0 q_a0 6 0 x1.length) rfl (by rw [w2]; first | done | rfl | simp [normD])) ?_
  refine run_shift (shift_as (s := 4) (d' := .o 8000 0 q_a0 6 0 x1.length) rfl (by rw [w2]; first | done | rfl | simp [normD])) ?_
  refine run_shift (shift_as (s := 5) (d' := .o 8000 0 q_a0 6 0 x1.length) rfl (by rw [w2]; first | done | rfl | simp [normD])) ?_
  refine run_nil ?_
  have hr := Option.some.inj H
  exact endR [] [.e 8000 0 q_a0 (.row 60 (els true (List.map GLot.e x1)))] rfl .nil ⟨by cases hr; rfl, by cases hr; rfl⟩ ⟨(.e rfl), trivial⟩
def stock_Usable_1_m (a0 : GLot) (a1 : GLot) : Option Int := bd (cmp_Compare_int_m a0.expiry a1.expiry) fun x3 => some x3
theorem stock_Usable_1_c {a0 : GLot} {a1 : GLot} {r : Int} (H : stock_Usable_1_m a0 a1 = some r) : PureC Try.prog true 66 [GLot.e a0, GLot.e a1] (vi r) := by
  unfold stock_Usable_1_m at H
  refine pure_intro (N := 10) Try.func66 rfl rfl rfl rfl fun C hO => ?_
  refine ev_shift (shift_mk (fs := [(0, .v true (GLot.e a0)), (1, .v true (GLot.e a1))]) (es := []) ⟨⟨_, rfl, (.flat rfl)⟩, ⟨⟨_, rfl, (.flat rfl)⟩, trivial⟩⟩ trivial rfl rfl) ?_
  refine ev_seq ?_
  refine ev_region ?_
  refine re rfl (e_box 2 0 rfl rfl rfl) ?_; rintro _ ⟨b1, rfl⟩
  refine re rfl (e_box 3 0 rfl rfl rfl) ?_; rintro _ ⟨b2, rfl⟩
  refine rq rfl rfl (q_assign rfl) ?_
  refine run_nil ?_
  refine ev_seq ?_
  refine ev_region ?_
  refine rq rfl rfl (q_fld_p rfl) ?_
  refine rq rfl rfl (q_load1 rfl rfl rfl) ?_
  refine rq rfl rfl (q_fld_p rfl) ?_
  refine rq rfl rfl (q_load1 rfl rfl rfl) ?_
  obtain ⟨x3, x3_h, H⟩ := bd_inv H
  refine rq rfl rfl (q_call rfl (.v _ _ (fun e => nomatch e)) (.v rfl (.v rfl ArgsOk.nil)) inferInstance (cmp_Compare_int_c  x3_h)) ?_
  refine rq rfl rfl (q_assign rfl) ?_
  refine run_nil ?_
  refine ev_ret ?_
  exact ret_ok [vi x3] (congrArg (fun r : Int => vi r) (Option.some.inj H)) rfl (.cons (.tmp rfl (.v _ _ (fun _ => rfl))) .nil)
def stock_Usable_m (a0 : GWorld) (a1 : GLine) (a2 : Int) (a3 : Int) : Option ((List GLot) × (List GRead)) := bif a1.config != 0 then (some ([], [])) else (bd (stock_Lots_m a0 a2 a3) fun x3 => forL x3.1 (fun (k6 : Nat) (x10 : GLot) (s4 : (List GLot)) loop5 => jn (fun (p14 : List GLot) => loop5 p14) fun j13 => bif bif bif bif x10.item == a1.item then x10.plant == a1.plant else false then x10.state == 0 else false then decide (a2 < x10.expiry) else false then (gd (decide ((s4.length + ([x10] : List GLot).length) * 49 ≤ 140737488355328)) <| j13 (s4 ++ ([x10] : List GLot))) else (j13 s4)) (fun (s4 : (List GLot)) => bd (slices_SortStableFunc_Lot_m s4 (fun y0 y1 => stock_Usable_1_m y0 y1)) fun x19 => gd (decide (x19.length = s4.length)) <| some (x19, x3.2)) ([] : List GLot))
theorem stock_Usable_c {a0 : GWorld} {a1 : GLine} {a2 : Int} {a3 : Int} {r : (List GLot) × (List GRead)} (H : stock_Usable_m a0 a1 a2 a3 = some r) : PureC Try.prog true 35 [GWorld.e a0, GLine.e a1, vi a2, vi a3] (V.t [V.l 6 (List.map GLot.e r.1), V.l 5 (List.map GRead.e r.2)]) := by
  unfold stock_Usable_m at H
  refine pure_intro (N := 61) Try.func35 rfl rfl rfl rfl fun C hO => ?_
  refine ev_shift (shift_mk (fs := [(0, .v false (GWorld.e a0)), (1, .v true (GLine.e a1)), (2, .v true (vi a2)), (3, .v true (vi a3))]) (es := []) ⟨⟨_, rfl, .rfl⟩, ⟨⟨_, rfl, (.flat rfl)⟩, ⟨⟨_, rfl, (.flat rfl)⟩, ⟨⟨_, rfl, (.flat rfl)⟩, trivial⟩⟩⟩⟩ trivial rfl rfl) ?_
  refine ev_seq ?_
  refine ev_region ?_
  refine re rfl (e_box 4 0 rfl rfl rfl) ?_; rintro _ ⟨b1, rfl⟩
  refine re rfl (e_box 5 0 rfl rfl rfl) ?_; rintro _ ⟨b2, rfl⟩
  refine rq rfl rfl (q_assign rfl) ?_
  refine rq rfl rfl (q_assign rfl) ?_
  refine run_nil ?_
  refine ev_seq ?_
  refine ev_seq ?_
  refine ev_region ?_
  refine rq rfl rfl (q_fld_p rfl) ?_
  refine rq rfl rfl (q_load1 rfl rfl rfl) ?_
  refine rq rfl rfl (q_nei rfl rfl) ?_
  refine run_nil ?_
  refine ev_cond rfl (fun hc => ?_) (fun hc => ?_)
  · replace H := ct hc H
    refine ev_seq ?_
    refine ev_region ?_
    refine rq rfl rfl (q_assign rfl) ?_
    refine rq rfl rfl (q_assign rfl) ?_
    refine run_nil ?_
    refine ev_ret ?_
    exact ret_ok [V.l 6 (List.map GLot.e []), V.l 5 (List.map GRead.e [])] (congrArg (fun r : (List GLot) × (List GRead) => V.t [V.l 6 (List.map GLot.e r.1), V.l 5 (List.map GRead.e r.2)]) (Option.some.inj H)) rfl (.cons (.tmp rfl (.nil _ _)) (.cons (.tmp rfl (.nil _ _)) .nil))
  · replace H := cf hc H
    refine ev_skip ?_
    refine ev_seq ?_
    refine ev_region ?_
    refine rq rfl rfl (q_loadN rfl rfl rfl rfl) ?_
    refine rq rfl rfl (q_move rfl) ?_
    refine rq rfl rfl (q_move rfl) ?_
    obtain ⟨x3, x3_h, H⟩ := bd_inv H
    refine rq rfl rfl (q_call rfl (.v _ _ (fun e => nomatch e)) (.v rfl (.v rfl (.v rfl ArgsOk.nil))) inferInstance (stock_Lots_c  x3_h)) ?_
    refine rq rfl rfl (q_move rfl) ?_
    refine rq rfl rfl (q_extract rfl rfl) ?_
    refine rq rfl rfl (q_extract rfl rfl) ?_
    refine rq rfl rfl (q_assign rfl) ?_
    refine rq rfl rfl (q_assign rfl) ?_
    refine run_nil ?_
    refine ev_seq ?_
    refine ev_seq ?_
    refine ev_region ?_
    refine rq rfl rfl (q_move rfl) ?_
    refine rq rfl rfl (q_len_t rfl) ?_
    refine rq rfl rfl (q_move rfl) ?_
    refine run_nil ?_
    refine ev_block ?_
    refine ev_len_l (s := 23) rfl fun w12 => ?_
    rw [List.length_map] at w12
    refine ev_forL H (fun k6 s4 σ' => ∃ (q9 : Pl), σ' = mkS [(2, .v true (vi a2)), (5, .p 5 0 b2 0), (8, .o 55 0 q9 6 0 s4.length), (9, .v true (V.l 5 (List.map GRead.e x3.2))), (23, .v true (V.l 6 (List.map GLot.e x3.1))), (24, .v true (vi ((x3.1.length : Nat) : Int))), (25, .v true (vi ((k6 : Nat) : Int)))] [.e 5 0 (some (b2, 3)) (.row 77 [.v true (vi a1.item), .v true (vi a1.plant), .v true (vi a1.config)]), .e 55 0 q9 (.row 60 (els true (List.map GLot.e s4)))] [] (0, false)) ⟨_, ⟨none, rfl⟩, shift_mk ⟨⟨_, rfl, (.flat rfl)⟩, ⟨⟨_, rfl, .rfl⟩, ⟨⟨_, rfl, .nilo⟩, ⟨⟨_, rfl, .rfl⟩, ⟨⟨_, rfl, .rfl⟩, ⟨⟨_, rfl, (.flat rfl)⟩, ⟨⟨_, rfl, .rfl⟩, trivial⟩⟩⟩⟩⟩⟩⟩ ⟨(.w rfl (.cons (.flat rfl) (.cons (.flat rfl) (.cons (.flat rfl) .nil)))), ⟨(.nn rfl), trivial⟩⟩ rfl rfl⟩ ?_
    rintro k6 s4 _ ⟨q9, rfl⟩ _ H
    refine ev_seq ?_
    refine ev_region ?_
    refine rq rfl rfl (q_lss rfl rfl) ?_
    refine run_nil ?_
    refine ev_seq ?_
    refine ev_cond rfl (fun hc => ?_) (fun hc => ?_)
    · obtain ⟨x10, w11, x10_g, H⟩ := forL_in hc H
      have x10_h : idx x3.1 ((k6 : Nat) : Int) = some x10 := by rw [idx_nat]; exact x10_g
      refine ev_skip ?_
      obtain ⟨j13, j13_e, H⟩ := jn_inv H
      refine ev_join (fun σ' => ∃ (p14 : List GLot) (q15 : Pl), j13 p14 = some r ∧ σ' = mkS [(2, .v true (vi a2)), (5, .p 5 0 b2 0), (8, .o 55 0 q15 6 0 p14.length), (9, .v true (V.l 5 (List.map GRead.e x3.2))), (23, .v true (V.l 6 (List.map GLot.e x3.1))), (24, .v true (vi ((x3.1.length : Nat) : Int))), (25, .v true (vi ((k6 : Nat) : Int)))] [.e 5 0 (some (b2, 3)) (.row 77 [.v true (vi a1.item), .v true (vi a1.plant), .v true (vi a1.config)]), .e 55 0 q15 (.row 60 (els true (List.map GLot.e p14)))] [] (0, false)) ?_ ?_
      · rintro _ ⟨p14, q15, H, rfl⟩
        subst j13_e
        refine ev_region ?_
        refine rq rfl rfl (q_add rfl rfl) ?_
        refine rq rfl rfl (q_move rfl) ?_
        refine run_nil ?_
        exact ⟨_, _, w11, H, ⟨q15, rfl⟩, shift_mk ⟨⟨_, rfl, (.flat rfl)⟩, ⟨⟨_, rfl, .rfl⟩, ⟨⟨_, rfl, .rfl⟩, ⟨⟨_, rfl, .rfl⟩, ⟨⟨_, rfl, .rfl⟩, ⟨⟨_, rfl, (.flat rfl)⟩, ⟨⟨_, rfl, (.eq (congrArg (fun n => D.v true (vi n)) (wrap_succ w11 w12)))⟩, trivial⟩⟩⟩⟩⟩⟩⟩ ⟨(.w rfl (.cons (.flat rfl) (.cons (.flat rfl) (.cons (.flat rfl) .nil)))), ⟨(.e rfl), trivial⟩⟩ rfl rfl⟩
      · clear j13_e
        refine ev_block ?_
        refine ev_seq ?_
        refine ev_region ?_
        refine rq rfl rfl (q_idx_l rfl rfl (idx_inv x10_h).1 (map_get (idx_inv x10_h).2.1) rfl) ?_
        refine rq rfl rfl (q_load_e rfl rfl rfl) ?_
        refine re rfl (e_alloc 12 0 rfl rfl) ?_; rintro _ ⟨b16, rfl⟩
        refine re rfl (e_store rfl rfl rfl rfl rfl (Nat.le_of_ble_eq_true rfl) rfl) ?_; rintro _ rfl
        refine run_nil ?_
        refine ev_seq ?_
        refine ev_region ?_
        refine rq rfl rfl (q_fld_p rfl) ?_
        refine rq rfl rfl (q_load1 rfl rfl rfl) ?_
        refine rq rfl rfl (q_fld_p rfl) ?_
        refine rq rfl rfl (q_load1 rfl rfl rfl) ?_
        refine rq rfl rfl (q_eqi rfl rfl) ?_
        refine rq rfl rfl (q_move rfl) ?_
        refine rqc (l := []) ⟨⟨_, _, _, rfl, rfl, rfl, rfl⟩, rfl, fun hc => q_fld_p rfl, trivial⟩ rfl ?_
        refine rqc (l := [35]) ⟨⟨_, _, _, rfl, rfl, rfl, rfl⟩, rfl, fun hc => q_load1 rfl rfl rfl, ⟨fun h => h, trivial⟩⟩ rfl ?_
        refine rqc (l := []) ⟨⟨_, _, _, rfl, rfl, rfl, rfl⟩, rfl, fun hc => q_fld_p rfl, trivial⟩ rfl ?_
        refine rqc (l := [37]) ⟨⟨_, _, _, rfl, rfl, rfl, rfl⟩, rfl, fun hc => q_load1 rfl rfl rfl, ⟨fun h => h, trivial⟩⟩ rfl ?_
        refine rqc (l := [36, 38]) ⟨⟨_, _, _, rfl, rfl, rfl, rfl⟩, rfl, fun hc => q_eqi rfl rfl, ⟨fun h => h, ⟨fun h => h, trivial⟩⟩⟩ rfl ?_
        refine rq rfl rfl (q_pickb rfl rfl rfl (PB.c (fun hp => hp)) PB.v) ?_
        refine rq rfl rfl (q_move rfl) ?_
        refine rqc (l := []) ⟨⟨_, _, _, rfl, rfl, rfl, rfl⟩, rfl, fun hc => q_fld_p rfl, trivial⟩ rfl ?_
        refine rqc (l := [42]) ⟨⟨_, _, _, rfl, rfl, rfl, rfl⟩, rfl, fun hc => q_load1 rfl rfl rfl, ⟨fun h => h, trivial⟩⟩ rfl ?_
        refine rqc (l := [43]) ⟨⟨_, _, _, rfl, rfl, rfl, rfl⟩, rfl, fun hc => q_eqi rfl rfl, ⟨fun h => h, trivial⟩⟩ rfl ?_
        refine rq rfl rfl (q_pickb rfl rfl rfl (PB.c (fun hp => hp)) PB.v) ?_
        refine rq rfl rfl (q_move rfl) ?_
        refine rqc (l := []) ⟨⟨_, _, _, rfl, rfl, rfl, rfl⟩, rfl, fun hc => q_fld_p rfl, trivial⟩ rfl ?_
        refine rqc (l := [47]) ⟨⟨_, _, _, rfl, rfl, rfl, rfl⟩, rfl, fun hc => q_load1 rfl rfl rfl, ⟨fun h => h, trivial⟩⟩ rfl ?_
        refine rqc (l := []) ⟨⟨_, _, _, rfl, rfl, rfl, rfl⟩, rfl, fun hc => q_move rfl, trivial⟩ rfl ?_
        refine rqc (l := [48, 49]) ⟨⟨_, _, _, rfl, rfl, rfl, rfl⟩, rfl, fun hc => q_gtr rfl rfl, ⟨fun h => h, ⟨fun h => h, trivial⟩⟩⟩ rfl ?_
        refine rq rfl rfl (q_pickb rfl rfl rfl (PB.c (fun hp => hp)) PB.v) ?_
        refine run_nil ?_
        refine ev_cond rfl (fun hc => ?_) (fun hc => ?_)
        · replace H := ct hc H
          refine ev_region ?_
          refine rq rfl rfl (q_move rfl) ?_
          refine rq rfl rfl (q_loadN rfl rfl rfl rfl) ?_
          refine rq rfl rfl (q_buildSlice (z := 6) (xs := List.map GLot.e ([x10] : List GLot)) (fl := true) rfl rfl rfl rfl (by simp [V.plain, V.cells, GLot.e, vi, vb]) rfl) ?_
          obtain ⟨w17, H⟩ := gdd_inv H
          refine re rfl (e_appt rfl rfl rfl (fun _ => ⟨rfl, rfl⟩) rfl rfl rfl w17 rfl) ?_; rintro _ ⟨q18, rfl⟩
          refine rq rfl rfl (q_assign rfl) ?_
          refine run_nil ?_
          exact ⟨_, ⟨s4 ++ ([x10] : List GLot), q18, H, rfl⟩, shift_mk ⟨⟨_, rfl, (.flat rfl)⟩, ⟨⟨_, rfl, .rfl⟩, ⟨⟨_, rfl, .rfl⟩, ⟨⟨_, rfl, .rfl⟩, ⟨⟨_, rfl, .rfl⟩, ⟨⟨_, rfl, (.flat rfl)⟩, ⟨⟨_, rfl, (.flat rfl)⟩, trivial⟩⟩⟩⟩⟩⟩⟩ ⟨(.w rfl (.cons (.flat rfl) (.cons (.flat rfl) (.cons (.flat rfl) .nil)))), ⟨(.e rfl), trivial⟩⟩ rfl rfl⟩
        · replace H := cf hc H
          refine ev_skip ?_
          exact ⟨_, ⟨s4, q9, H, rfl⟩, shift_mk ⟨⟨_, rfl, (.flat rfl)⟩, ⟨⟨_, rfl, .rfl⟩, ⟨⟨_, rfl, .rfl⟩, ⟨⟨_, rfl, .rfl⟩, ⟨⟨_, rfl, .rfl⟩, ⟨⟨_, rfl, (.flat rfl)⟩, ⟨⟨_, rfl, (.flat rfl)⟩, trivial⟩⟩⟩⟩⟩⟩⟩ ⟨(.w rfl (.cons (.flat rfl) (.cons (.flat rfl) (.cons (.flat rfl) .nil)))), ⟨(.e rfl), trivial⟩⟩ rfl rfl⟩
    · replace H := forL_out hc H
      refine ev_exit ?_
      refine ev_seq ?_
      refine ev_region ?_
      refine rq rfl rfl (q_move rfl) ?_
      obtain ⟨x19, x19_h, H⟩ := bd_inv H
      obtain ⟨w20, H⟩ := gdd_inv H
      refine run_shift (shift_name 55 0 8000 0 rfl) ?_
      refine run_shift (shift_wkd (s := 57) (d' := .o 8000 0 q9 6 0 s4.length) rfl .olab) ?_
      refine re rfl (e_callR [8000] rfl (.v _ _ []) rfl inferInstance (slices_SortStableFunc_Lot_c (a1_h := fun _ _ _ h => stock_Usable_1_c h) x19_h) ⟨(.e rfl), trivial⟩ rfl rfl) ?_; rintro _ ⟨_, _, ⟨rfl, rfl⟩, rfl⟩
      refine run_shift (shift_name 8000 0 55 0 rfl) ?_
      refine run_shift (shift_as (s := 8) (d' := .o 55 0 q9 6 0 x19.length) rfl (by rw [w20]; first | done | rfl | simp [normD])) ?_
      refine run_nil ?_
      refine ev_seq ?_
      refine ev_region ?_
      refine rq rfl rfl (q_move rfl) ?_
      refine rq rfl rfl (q_move rfl) ?_
      refine rq rfl rfl (q_assign rfl) ?_
      refine rq rfl rfl (q_assign rfl) ?_
      refine run_nil ?_
      refine ev_ret ?_
      exact ret_ok [V.l 6 (List.map GLot.e x19), V.l 5 (List.map GRead.e x3.2)] (congrArg (fun r : (List GLot) × (List GRead) => V.t [V.l 6 (List.map GLot.e r.1), V.l 5 (List.map GRead.e r.2)]) (Option.some.inj H)) rfl (.cons (.tmp rfl (.all rfl (List.length_map _) (els_plain fun _ => ⟨rfl, rfl⟩) (fun _ => rfl))) (.cons (.tmp rfl (.v _ _ (fun _ => rfl))) .nil))
def backflushref18_Same_m (a0 : List GLot) (a1 : List GLot) : Option Bool := bif ((a0.length : Nat) : Int) != ((a1.length : Nat) : Int) then (some false) else (forL a0 (fun (k3 : Nat) (x5 : GLot) (s1 : Unit) loop2 => bd (idx a1 ((k3 : Nat) : Int)) fun x8 => bif !(GLot.eqb x5 x8) then (some false) else (loop2 ())) (fun (s1 : Unit) => some true) ())
theorem backflushref18_Same_c {a0 : List GLot} {a1 : List GLot} {r : Bool} (H : backflushref18_Same_m a0 a1 = some r) : PureC Try.prog true 37 [V.l 6 (List.map GLot.e a0), V.l 6 (List.map GLot.e a1)] (vb r) := by
  unfold backflushref18_Same_m at H
  refine pure_intro (N := 26) Try.func37 rfl rfl rfl rfl fun C hO => ?_
  refine ev_seq ?_
  refine ev_region ?_
  refine rq rfl rfl (q_assign rfl) ?_
  refine run_nil ?_
  refine ev_seq ?_
  refine ev_seq ?_
  refine ev_region ?_
  refine rq rfl rfl (q_move rfl) ?_
  refine rq rfl rfl (q_len_t rfl) ?_
  refine rq rfl rfl (q_move rfl) ?_
  refine rq rfl rfl (q_len_t rfl) ?_
  refine rq rfl rfl (q_nei rfl rfl) ?_
  refine run_nil ?_
  refine ev_cond rfl (fun hc => ?_) (fun hc => ?_)
  · replace H := ct hc H
    refine ev_seq ?_
    refine ev_region ?_
    refine rq rfl rfl (q_assign rfl) ?_
    refine run_nil ?_
    refine ev_ret ?_
    exact ret_ok [vb false] (congrArg (fun r : Bool => vb r) (Option.some.inj H)) rfl (.cons (.tmp rfl (.v _ _ (fun _ => rfl))) .nil)
  · replace H := cf hc H
    refine ev_skip ?_
    refine ev_seq ?_
    refine ev_seq ?_
    refine ev_region ?_
    refine rq rfl rfl (q_assign rfl) ?_
    refine run_nil ?_
    refine ev_block ?_
    refine ev_len_l (s := 0) rfl fun w7 => ?_
    rw [List.length_map] at w7
    refine ev_forL H (fun k3 s1 σ' => σ' = mkS [(0, .v false (V.l 6 (List.map GLot.e a0))), (1, .v false (V.l 6 (List.map GLot.e a1))), (4, .v true (vb false)), (5, .v true (vi ((k3 : Nat) : Int)))] [] [] (0, false)) ⟨_, rfl, shift_mk ⟨⟨_, rfl, .rfl⟩, ⟨⟨_, rfl, .rfl⟩, ⟨⟨_, rfl, (.flat rfl)⟩, ⟨⟨_, rfl, .rfl⟩, trivial⟩⟩⟩⟩ trivial rfl rfl⟩ ?_
    rintro k3 s1 _ rfl _ H
    refine ev_seq ?_
    refine ev_seq ?_
    refine ev_region ?_
    refine rq rfl rfl (q_move rfl) ?_
    refine rq rfl rfl (q_move rfl) ?_
    refine rq rfl rfl (q_len_t rfl) ?_
    refine rq rfl rfl (q_lss rfl rfl) ?_
    refine run_nil ?_
    refine ev_cond rfl (fun hc => ?_) (fun hc => ?_)
    · obtain ⟨x5, w6, x5_g, H⟩ := forL_in hc H
      have x5_h : idx a0 ((k3 : Nat) : Int) = some x5 := by rw [idx_nat]; exact x5_g
      refine ev_skip ?_
      refine ev_seq ?_
      refine ev_block ?_
      refine ev_seq ?_
      obtain ⟨x8, x8_h, H⟩ := bd_inv H
      refine ev_draw rfl (by kernel_rfl) ?_
      refine qq rfl rfl (q_move rfl) ?_
      refine qq rfl rfl (q_move rfl) ?_
      refine qq rfl rfl (q_idx_l rfl rfl (idx_inv x5_h).1 (map_get (idx_inv x5_h).2.1) rfl) ?_
      refine qq rfl rfl (q_load_e rfl rfl rfl) ?_
      refine qq rfl rfl (q_move rfl) ?_
      refine qq rfl rfl (q_move rfl) ?_
      refine qq rfl rfl (q_idx_l rfl rfl (idx_inv x8_h).1 (map_get (idx_inv x8_h).2.1) rfl) ?_
      refine qq rfl rfl (q_load_e rfl rfl rfl) ?_
      refine qq rfl rfl (q_nes rfl rfl (r := GLot.eqb x5 x8) rfl) ?_
      refine qn ?_
      refine ev_cond rfl (fun hc => ?_) (fun hc => ?_)
      · replace H := ct hc H
        refine ev_seq ?_
        refine ev_region ?_
        refine rq rfl rfl (q_assign rfl) ?_
        refine run_nil ?_
        refine ev_ret ?_
        exact ret_ok [vb false] (congrArg (fun r : Bool => vb r) (Option.some.inj H)) rfl (.cons (.tmp rfl (.v _ _ (fun _ => rfl))) .nil)
      · replace H := cf hc H
        refine ev_skip ?_
        refine ev_region ?_
        refine rq rfl rfl (q_move rfl) ?_
        refine rq rfl rfl (q_add rfl rfl) ?_
        refine rq rfl rfl (q_assign rfl) ?_
        refine run_nil ?_
        exact ⟨_, _, w6, H, rfl, shift_mk ⟨⟨_, rfl, .rfl⟩, ⟨⟨_, rfl, .rfl⟩, ⟨⟨_, rfl, (.flat rfl)⟩, ⟨⟨_, rfl, (.eq (congrArg (fun n => D.v true (vi n)) (wrap_succ w6 w7)))⟩, trivial⟩⟩⟩⟩ trivial rfl rfl⟩
    · replace H := forL_out hc H
      refine ev_exit ?_
      refine ev_seq ?_
      refine ev_region ?_
      refine rq rfl rfl (q_assign rfl) ?_
      refine run_nil ?_
      refine ev_ret ?_
      exact ret_ok [vb true] (congrArg (fun r : Bool => vb r) (Option.some.inj H)) rfl (.cons (.tmp rfl (.v _ _ (fun _ => rfl))) .nil)
def backflushref04_SameReads_m (a0 : List GRead) (a1 : List GRead) : Option Bool := bif ((a0.length : Nat) : Int) != ((a1.length : Nat) : Int) then (some false) else (forL a0 (fun (k3 : Nat) (x5 : GRead) (s1 : Unit) loop2 => bd (idx a1 ((k3 : Nat) : Int)) fun x8 => bif !(GRead.eqb x5 x8) then (some false) else (loop2 ())) (fun (s1 : Unit) => some true) ())
theorem backflushref04_SameReads_c {a0 : List GRead} {a1 : List GRead} {r : Bool} (H : backflushref04_SameReads_m a0 a1 = some r) : PureC Try.prog true 21 [V.l 5 (List.map GRead.e a0), V.l 5 (List.map GRead.e a1)] (vb r) := by
  unfold backflushref04_SameReads_m at H
  refine pure_intro (N := 26) Try.func21 rfl rfl rfl rfl fun C hO => ?_
  refine ev_seq ?_
  refine ev_region ?_
  refine rq rfl rfl (q_assign rfl) ?_
  refine run_nil ?_
  refine ev_seq ?_
  refine ev_seq ?_
  refine ev_region ?_
  refine rq rfl rfl (q_move rfl) ?_
  refine rq rfl rfl (q_len_t rfl) ?_
  refine rq rfl rfl (q_move rfl) ?_
  refine rq rfl rfl (q_len_t rfl) ?_
  refine rq rfl rfl (q_nei rfl rfl) ?_
  refine run_nil ?_
  refine ev_cond rfl (fun hc => ?_) (fun hc => ?_)
  · replace H := ct hc H
    refine ev_seq ?_
    refine ev_region ?_
    refine rq rfl rfl (q_assign rfl) ?_
    refine run_nil ?_
    refine ev_ret ?_
    exact ret_ok [vb false] (congrArg (fun r : Bool => vb r) (Option.some.inj H)) rfl (.cons (.tmp rfl (.v _ _ (fun _ => rfl))) .nil)
  · replace H := cf hc H
    refine ev_skip ?_
    refine ev_seq ?_
    refine ev_seq ?_
    refine ev_region ?_
    refine rq rfl rfl (q_assign rfl) ?_
    refine run_nil ?_
    refine ev_block ?_
    refine ev_len_l (s := 0) rfl fun w7 => ?_
    rw [List.length_map] at w7
    refine ev_forL H (fun k3 s1 σ' => σ' = mkS [(0, .v false (V.l 5 (List.map GRead.e a0))), (1, .v false (V.l 5 (List.map GRead.e a1))), (4, .v true (vb false)), (5, .v true (vi ((k3 : Nat) : Int)))] [] [] (0, false)) ⟨_, rfl, shift_mk ⟨⟨_, rfl, .rfl⟩, ⟨⟨_, rfl, .rfl⟩, ⟨⟨_, rfl, (.flat rfl)⟩, ⟨⟨_, rfl, .rfl⟩, trivial⟩⟩⟩⟩ trivial rfl rfl⟩ ?_
    rintro k3 s1 _ rfl _ H
    refine ev_seq ?_
    refine ev_seq ?_
    refine ev_region ?_
    refine rq rfl rfl (q_move rfl) ?_
    refine rq rfl rfl (q_move rfl) ?_
    refine rq rfl rfl (q_len_t rfl) ?_
    refine rq rfl rfl (q_lss rfl rfl) ?_
    refine run_nil ?_
    refine ev_cond rfl (fun hc => ?_) (fun hc => ?_)
    · obtain ⟨x5, w6, x5_g, H⟩ := forL_in hc H
      have x5_h : idx a0 ((k3 : Nat) : Int) = some x5 := by rw [idx_nat]; exact x5_g
      refine ev_skip ?_
      refine ev_seq ?_
      refine ev_block ?_
      refine ev_seq ?_
      obtain ⟨x8, x8_h, H⟩ := bd_inv H
      refine ev_draw rfl (by kernel_rfl) ?_
      refine qq rfl rfl (q_move rfl) ?_
      refine qq rfl rfl (q_move rfl) ?_
      refine qq rfl rfl (q_idx_l rfl rfl (idx_inv x5_h).1 (map_get (idx_inv x5_h).2.1) rfl) ?_
      refine qq rfl rfl (q_load_e rfl rfl rfl) ?_
      refine qq rfl rfl (q_move rfl) ?_
      refine qq rfl rfl (q_move rfl) ?_
      refine qq rfl rfl (q_idx_l rfl rfl (idx_inv x8_h).1 (map_get (idx_inv x8_h).2.1) rfl) ?_
      refine qq rfl rfl (q_load_e rfl rfl rfl) ?_
      refine qq rfl rfl (q_nes rfl rfl (r := GRead.eqb x5 x8) rfl) ?_
      refine qn ?_
      refine ev_cond rfl (fun hc => ?_) (fun hc => ?_)
      · replace H := ct hc H
        refine ev_seq ?_
        refine ev_region ?_
        refine rq rfl rfl (q_assign rfl) ?_
        refine run_nil ?_
        refine ev_ret ?_
        exact ret_ok [vb false] (congrArg (fun r : Bool => vb r) (Option.some.inj H)) rfl (.cons (.tmp rfl (.v _ _ (fun _ => rfl))) .nil)
      · replace H := cf hc H
        refine ev_skip ?_
        refine ev_region ?_
        refine rq rfl rfl (q_move rfl) ?_
        refine rq rfl rfl (q_add rfl rfl) ?_
        refine rq rfl rfl (q_assign rfl) ?_
        refine run_nil ?_
        exact ⟨_, _, w6, H, rfl, shift_mk ⟨⟨_, rfl, .rfl⟩, ⟨⟨_, rfl, .rfl⟩, ⟨⟨_, rfl, (.flat rfl)⟩, ⟨⟨_, rfl, (.eq (congrArg (fun n => D.v true (vi n)) (wrap_succ w6 w7)))⟩, trivial⟩⟩⟩⟩ trivial rfl rfl⟩
    · replace H := forL_out hc H
      refine ev_exit ?_
      refine ev_seq ?_
      refine ev_region ?_
      refine rq rfl rfl (q_assign rfl) ?_
      refine run_nil ?_
      refine ev_ret ?_
      exact ret_ok [vb true] (congrArg (fun r : Bool => vb r) (Option.some.inj H)) rfl (.cons (.tmp rfl (.v _ _ (fun _ => rfl))) .nil)
def backflushlaw18_sane_m  : Option Bool := bd (stock_Put_m (⟨(⟨(⟨[], [], [], [], [], [], [], []⟩ : GSource), [], []⟩ : GTables), []⟩ : GWorld) (⟨3, 1, 0, 5, 9, 0⟩ : GLot) (⟨2, 8⟩ : GSpan) 10) fun x4 => bd (stock_Put_m x4.1 (⟨0, 1, 0, 2, 12, 0⟩ : GLot) (⟨0, 20⟩ : GSpan) 11) fun x6 => bd (stock_Put_m x6.1 (⟨1, 1, 0, 2, 5, 1⟩ : GLot) (⟨0, 20⟩ : GSpan) 11) fun x8 => bd (stock_Put_m (⟨(⟨(⟨[], [], [], [], [], [], [], []⟩ : GSource), [], []⟩ : GTables), []⟩ : GWorld) (⟨0, 0, 0, 0, 0, 0⟩ : GLot) (⟨0, 0⟩ : GSpan) 1) fun x10 => bd (stock_Lot_m x4.1 3 2 10) fun x12 => bd (stock_Lot_m x4.1 3 2 9) fun x14 => bd (stock_Lot_m x4.1 3 8 10) fun x16 => bd (stock_Lot_m x4.1 3 1024 10) fun x18 => bd (stock_Lot_m (⟨(⟨(⟨[], [], [], [], [], [], [], []⟩ : GSource), [], []⟩ : GTables), []⟩ : GWorld) 0 0 0) fun x20 => bd (stock_Lots_m x8.1 4 11) fun x22 => bd (stock_Usable_m x8.1 (⟨1, 0, 0⟩ : GLine) 4 11) fun x23 => bd (stock_Usable_m x8.1 (⟨1, 0, 1⟩ : GLine) 4 11) fun x24 => bif bif bif bif bif bif bif x4.2 != 0 then true else x6.2 != 0 then true else x8.2 != 0 then true else x10.2 != 180 then true else ((x4.1.facts.length : Nat) : Int) != 6 then true else ((x6.1.facts.length : Nat) : Int) != 11 then true else ((x8.1.facts.length : Nat) : Int) != 16 then (some false) else (bdc (bif bif bif bif bif bif bif bif bif bif bif bif x12.2.2 then GLot.eqb x12.1 (⟨3, 1, 0, 5, 9, 0⟩ : GLot) else false then ((x12.2.1.length : Nat) : Int) == 6 else false then !x14.2.2 else false then ((x14.2.1.length : Nat) : Int) == 1 else false then !x16.2.2 else false then ((x16.2.1.length : Nat) : Int) == 2 else false then !x18.2.2 else false then ((x18.2.1.length : Nat) : Int) == 0 else false then !x20.2.2 else false then ((x20.2.1.length : Nat) : Int) == 1 else false then ((x22.1.length : Nat) : Int) == 3 else false then ((x22.2.length : Nat) : Int) == 17 else false) (backflushref18_Same_m x23.1 ([(⟨3, 1, 0, 5, 9, 0⟩ : GLot), (⟨0, 1, 0, 2, 12, 0⟩ : GLot)] : List GLot)) fun x25 => bdc (bif bif bif bif bif bif bif bif bif bif bif bif bif x12.2.2 then GLot.eqb x12.1 (⟨3, 1, 0, 5, 9, 0⟩ : GLot) else false then ((x12.2.1.length : Nat) : Int) == 6 else false then !x14.2.2 else false then ((x14.2.1.length : Nat) : Int) == 1 else false then !x16.2.2 else false then ((x16.2.1.length : Nat) : Int) == 2 else false then !x18.2.2 else false then ((x18.2.1.length : Nat) : Int) == 0 else false then !x20.2.2 else false then ((x20.2.1.length : Nat) : Int) == 1 else false then ((x22.1.length : Nat) : Int) == 3 else false then ((x22.2.length : Nat) : Int) == 17 else false then x25 else false) (backflushref04_SameReads_m x22.2 x23.2) fun x26 => bdc (bif bif bif bif bif bif bif bif bif bif bif bif bif bif bif bif x12.2.2 then GLot.eqb x12.1 (⟨3, 1, 0, 5, 9, 0⟩ : GLot) else false then ((x12.2.1.length : Nat) : Int) == 6 else false then !x14.2.2 else false then ((x14.2.1.length : Nat) : Int) == 1 else false then !x16.2.2 else false then ((x16.2.1.length : Nat) : Int) == 2 else false then !x18.2.2 else false then ((x18.2.1.length : Nat) : Int) == 0 else false then !x20.2.2 else false then ((x20.2.1.length : Nat) : Int) == 1 else false then ((x22.1.length : Nat) : Int) == 3 else false then ((x22.2.length : Nat) : Int) == 17 else false then x25 else false then x26 else false then ((x24.1.length : Nat) : Int) == 0 else false then ((x24.2.length : Nat) : Int) == 0 else false) (idx x4.1.facts 5) fun x27 => bdc (bif bif bif bif bif bif bif bif bif bif bif bif bif bif bif bif bif x12.2.2 then GLot.eqb x12.1 (⟨3, 1, 0, 5, 9, 0⟩ : GLot) else false then ((x12.2.1.length : Nat) : Int) == 6 else false then !x14.2.2 else false then ((x14.2.1.length : Nat) : Int) == 1 else false then !x16.2.2 else false then ((x16.2.1.length : Nat) : Int) == 2 else false then !x18.2.2 else false then ((x18.2.1.length : Nat) : Int) == 0 else false then !x20.2.2 else false then ((x20.2.1.length : Nat) : Int) == 1 else false then ((x22.1.length : Nat) : Int) == 3 else false then ((x22.2.length : Nat) : Int) == 17 else false then x25 else false then x26 else false then ((x24.1.length : Nat) : Int) == 0 else false then ((x24.2.length : Nat) : Int) == 0 else false then x27.value == 4 else false) (idx x4.1.facts 5) fun x28 => bdc (bif bif bif bif bif bif bif bif bif bif bif bif bif bif bif bif bif bif x12.2.2 then GLot.eqb x12.1 (⟨3, 1, 0, 5, 9, 0⟩ : GLot) else false then ((x12.2.1.length : Nat) : Int) == 6 else false then !x14.2.2 else false then ((x14.2.1.length : Nat) : Int) == 1 else false then !x16.2.2 else false then ((x16.2.1.length : Nat) : Int) == 2 else false then !x18.2.2 else false then ((x18.2.1.length : Nat) : Int) == 0 else false then !x20.2.2 else false then ((x20.2.1.length : Nat) : Int) == 1 else false then ((x22.1.length : Nat) : Int) == 3 else false then ((x22.2.length : Nat) : Int) == 17 else false then x25 else false then x26 else false then ((x24.1.length : Nat) : Int) == 0 else false then ((x24.2.length : Nat) : Int) == 0 else false then x27.value == 4 else false then x28.no_ == 5 else false) (idx x4.1.facts 5) fun x29 => some (bif bif bif bif bif bif bif bif bif bif bif bif bif bif bif bif bif bif bif x12.2.2 then GLot.eqb x12.1 (⟨3, 1, 0, 5, 9, 0⟩ : GLot) else false then ((x12.2.1.length : Nat) : Int) == 6 else false then !x14.2.2 else false then ((x14.2.1.length : Nat) : Int) == 1 else false then !x16.2.2 else false then ((x16.2.1.length : Nat) : Int) == 2 else false then !x18.2.2 else false then ((x18.2.1.length : Nat) : Int) == 0 else false then !x20.2.2 else false then ((x20.2.1.length : Nat) : Int) == 1 else false then ((x22.1.length : Nat) : Int) == 3 else false then ((x22.2.length : Nat) : Int) == 17 else false then x25 else false then x26 else false then ((x24.1.length : Nat) : Int) == 0 else false then ((x24.2.length : Nat) : Int) == 0 else false then x27.value == 4 else false then x28.no_ == 5 else false then GSpan.eqb x29.valid (⟨0, 1024⟩ : GSpan) else false))
set_option maxHeartbeats 4000000 in
theorem backflushlaw18_sane_c  {r : Bool} (H : backflushlaw18_sane_m  = some r) : PureC Try.prog true 30 [] (vb r) := by
  unfold backflushlaw18_sane_m at H
  refine pure_intro (N := 247) Try.func30 rfl rfl rfl rfl fun C hO => ?_
  refine ev_seq ?_
  refine ev_region ?_
  refine rq rfl rfl (q_assign rfl) ?_
  refine run_nil ?_
  refine ev_seq ?_
  refine ev_region ?_
  refine rq rfl rfl (Quiet.wk (d := .v true (GWorld.e (⟨(⟨(⟨[], [], [], [], [], [], [], []⟩ : GSource), [], []⟩ : GTables), []⟩ : GWorld))) (q_build rfl .nil) (Wk.nilLe (NilLe.st (by repeat (first | exact NilLes.nil | refine NilLes.cons (.refl _) ?_ | refine NilLes.cons (.nil _) ?_))))) ?_
  refine re rfl (e_alloc 1 0 rfl rfl) ?_; rintro _ ⟨b1, rfl⟩
  refine re rfl (e_store rfl rfl rfl rfl rfl (Nat.le_of_ble_eq_true rfl) rfl) ?_; rintro _ rfl
  refine run_nil ?_
  refine ev_seq ?_
  refine ev_region ?_
  refine rq rfl rfl (q_build rfl (.v rfl rfl rfl rfl rfl (.v rfl rfl rfl rfl rfl (.v rfl rfl rfl rfl rfl (.v rfl rfl rfl rfl rfl .nil))))) ?_
  refine rq rfl rfl (q_build rfl (.v rfl rfl rfl rfl rfl (.v rfl rfl rfl rfl rfl (.v rfl rfl rfl rfl rfl (.v rfl rfl rfl rfl rfl .nil))))) ?_
  refine re rfl (e_alloc 2 0 rfl rfl) ?_; rintro _ ⟨b2, rfl⟩
  refine re rfl (e_alloc 3 0 rfl rfl) ?_; rintro _ ⟨b3, rfl⟩
  refine re rfl (e_store rfl rfl rfl rfl rfl (Nat.le_of_ble_eq_true rfl) rfl) ?_; rintro _ rfl
  refine re rfl (e_store rfl rfl rfl rfl rfl (Nat.le_of_ble_eq_true rfl) rfl) ?_; rintro _ rfl
  refine run_nil ?_
  refine ev_seq ?_
  refine ev_region ?_
  refine rq rfl rfl (q_loadN rfl rfl rfl rfl) ?_
  refine rq rfl rfl (q_loadN rfl rfl rfl rfl) ?_
  refine rq rfl rfl (q_build rfl (.v rfl rfl rfl rfl rfl (.v rfl rfl rfl rfl rfl .nil))) ?_
  obtain ⟨x4, x4_h, H⟩ := bd_inv H
  refine rq rfl rfl (q_calla rfl (.v rfl (.v rfl (.v rfl (.v rfl CapsOk.nil)))) inferInstance (stock_Put_c  x4_h)) ?_
  refine rq rfl rfl (q_move rfl) ?_
  refine rq rfl rfl (q_extract rfl rfl) ?_
  refine rq rfl rfl (q_extract rfl rfl) ?_
  refine re rfl (e_alloc 4 0 rfl rfl) ?_; rintro _ ⟨b5, rfl⟩
  refine re rfl (e_store rfl rfl rfl rfl rfl (Nat.le_of_ble_eq_true rfl) rfl) ?_; rintro _ rfl
  refine rq rfl rfl (q_assign rfl) ?_
  refine run_nil ?_
  refine ev_seq ?_
  refine ev_region ?_
  refine rq rfl rfl (q_loadN rfl rfl rfl rfl) ?_
  refine rq rfl rfl (q_loadN rfl rfl rfl rfl) ?_
  refine rq rfl rfl (q_build rfl (.v rfl rfl rfl rfl rfl (.v rfl rfl rfl rfl rfl .nil))) ?_
  obtain ⟨x6, x6_h, H⟩ := bd_inv H
  refine rq rfl rfl (q_calla rfl (.v rfl (.v rfl (.v rfl (.v rfl CapsOk.nil)))) inferInstance (stock_Put_c  x6_h)) ?_
  refine rq rfl rfl (q_move rfl) ?_
  refine rq rfl rfl (q_extract rfl rfl) ?_
  refine rq rfl rfl (q_extract rfl rfl) ?_
  refine re rfl (e_alloc 6 0 rfl rfl) ?_; rintro _ ⟨b7, rfl⟩
  refine re rfl (e_store rfl rfl rfl rfl rfl (Nat.le_of_ble_eq_true rfl) rfl) ?_; rintro _ rfl
  refine rq rfl rfl (q_assign rfl) ?_
  refine run_nil ?_
  refine ev_seq ?_
  refine ev_region ?_
  refine rq rfl rfl (q_loadN rfl rfl rfl rfl) ?_
  refine rq rfl rfl (q_build rfl (.v rfl rfl rfl rfl rfl (.v rfl rfl rfl rfl rfl (.v rfl rfl rfl rfl rfl (.v rfl rfl rfl rfl rfl (.v rfl rfl rfl rfl rfl .nil)))))) ?_
  refine rq rfl rfl (q_build rfl (.v rfl rfl rfl rfl rfl (.v rfl rfl rfl rfl rfl .nil))) ?_
  obtain ⟨x8, x8_h, H⟩ := bd_inv H
  refine rq rfl rfl (q_calla rfl (.v rfl (.v rfl (.v rfl (.v rfl CapsOk.nil)))) inferInstance (stock_Put_c  x8_h)) ?_
  refine rq rfl rfl (q_move rfl) ?_
  refine rq rfl rfl (q_extract rfl rfl) ?_
  refine rq rfl rfl (q_extract rfl rfl) ?_
  refine re rfl (e_alloc 8 0 rfl rfl) ?_; rintro _ ⟨b9, rfl⟩
  refine re rfl (e_store rfl rfl rfl rfl rfl (Nat.le_of_ble_eq_true rfl) rfl) ?_; rintro _ rfl
  refine rq rfl rfl (q_assign rfl) ?_
  refine run_nil ?_
  refine ev_seq ?_
  refine ev_region ?_
  refine rq rfl rfl (Quiet.wk (d := .v true (GWorld.e (⟨(⟨(⟨[], [], [], [], [], [], [], []⟩ : GSource), [], []⟩ : GTables), []⟩ : GWorld))) (q_build rfl .nil) (Wk.nilLe (NilLe.st (by repeat (first | exact NilLes.nil | refine NilLes.cons (.refl _) ?_ | refine NilLes.cons (.nil _) ?_))))) ?_
  refine rq rfl rfl (q_build rfl .nil) ?_
  refine rq rfl rfl (q_build rfl .nil) ?_
  obtain ⟨x10, x10_h, H⟩ := bd_inv H
  refine rq rfl rfl (q_calla rfl (.v rfl (.v rfl (.v rfl (.v rfl CapsOk.nil)))) inferInstance (stock_Put_c  x10_h)) ?_
  refine rq rfl rfl (q_move rfl) ?_
  refine rq rfl rfl (q_extract rfl rfl) ?_
  refine rq rfl rfl (q_extract rfl rfl) ?_
  refine re rfl (e_alloc 10 0 rfl rfl) ?_; rintro _ ⟨b11, rfl⟩
  refine re rfl (e_store rfl rfl rfl rfl rfl (Nat.le_of_ble_eq_true rfl) rfl) ?_; rintro _ rfl
  refine rq rfl rfl (q_assign rfl) ?_
  refine run_nil ?_
  refine ev_seq ?_
  refine ev_region ?_
  refine rq rfl rfl (q_loadN rfl rfl rfl rfl) ?_
  obtain ⟨x12, x12_h, H⟩ := bd_inv H
  refine rq rfl rfl (q_call rfl (.v _ _ (fun e => nomatch e)) (.v rfl (.v rfl (.v rfl (.v rfl ArgsOk.nil)))) inferInstance (stock_Lot_c  x12_h)) ?_
  refine rq rfl rfl (q_move rfl) ?_
  refine rq rfl rfl (q_extract rfl rfl) ?_
  refine rq rfl rfl (q_extract rfl rfl) ?_
  refine rq rfl rfl (q_extract rfl rfl) ?_
  refine re rfl (e_alloc 12 0 rfl rfl) ?_; rintro _ ⟨b13, rfl⟩
  refine re rfl (e_store rfl rfl rfl rfl rfl (Nat.le_of_ble_eq_true rfl) rfl) ?_; rintro _ rfl
  refine rq rfl rfl (q_assign rfl) ?_
  refine rq rfl rfl (q_assign rfl) ?_
  refine run_nil ?_
  refine ev_seq ?_
  refine ev_region ?_
  refine rq rfl rfl (q_loadN rfl rfl rfl rfl) ?_
  obtain ⟨x14, x14_h, H⟩ := bd_inv H
  refine rq rfl rfl (q_call rfl (.v _ _ (fun e => nomatch e)) (.v rfl (.v rfl (.v rfl (.v rfl ArgsOk.nil)))) inferInstance (stock_Lot_c  x14_h)) ?_
  refine rq rfl rfl (q_move rfl) ?_
  refine rq rfl rfl (q_extract rfl rfl) ?_
  refine rq rfl rfl (q_extract rfl rfl) ?_
  refine rq rfl rfl (q_extract rfl rfl) ?_
  refine re rfl (e_alloc 15 0 rfl rfl) ?_; rintro _ ⟨b15, rfl⟩
  refine re rfl (e_store rfl rfl rfl rfl rfl (Nat.le_of_ble_eq_true rfl) rfl) ?_; rintro _ rfl
  refine rq rfl rfl (q_assign rfl) ?_
  refine rq rfl rfl (q_assign rfl) ?_
  refine run_nil ?_
  refine ev_seq ?_
  refine ev_region ?_
  refine rq rfl rfl (q_loadN rfl rfl rfl rfl) ?_
  obtain ⟨x16, x16_h, H⟩ := bd_inv H
  refine rq rfl rfl (q_call rfl (.v _ _ (fun e => nomatch e)) (.v rfl (.v rfl (.v rfl (.v rfl ArgsOk.nil)))) inferInstance (stock_Lot_c  x16_h)) ?_
  refine rq rfl rfl (q_move rfl) ?_
  refine rq rfl rfl (q_extract rfl rfl) ?_
  refine rq rfl rfl (q_extract rfl rfl) ?_
  refine rq rfl rfl (q_extract rfl rfl) ?_
  refine re rfl (e_alloc 18 0 rfl rfl) ?_; rintro _ ⟨b17, rfl⟩
  refine re rfl (e_store rfl rfl rfl rfl rfl (Nat.le_of_ble_eq_true rfl) rfl) ?_; rintro _ rfl
  refine rq rfl rfl (q_assign rfl) ?_
  refine rq rfl rfl (q_assign rfl) ?_
  refine run_nil ?_
  refine ev_seq ?_
  refine ev_region ?_
  refine rq rfl rfl (q_loadN rfl rfl rfl rfl) ?_
  obtain ⟨x18, x18_h, H⟩ := bd_inv H
  refine rq rfl rfl (q_call rfl (.v _ _ (fun e => nomatch e)) (.v rfl (.v rfl (.v rfl (.v rfl ArgsOk.nil)))) inferInstance (stock_Lot_c  x18_h)) ?_
  refine rq rfl rfl (q_move rfl) ?_
  refine rq rfl rfl (q_extract rfl rfl) ?_
  refine rq rfl rfl (q_extract rfl rfl) ?_
  refine rq rfl rfl (q_extract rfl rfl) ?_
  refine re rfl (e_alloc 21 0 rfl rfl) ?_; rintro _ ⟨b19, rfl⟩
  refine re rfl (e_store rfl rfl rfl rfl rfl (Nat.le_of_ble_eq_true rfl) rfl) ?_; rintro _ rfl
  refine rq rfl rfl (q_assign rfl) ?_
  refine rq rfl rfl (q_assign rfl) ?_
  refine run_nil ?_
  refine ev_seq ?_
  refine ev_region ?_
  refine rq rfl rfl (Quiet.wk (d := .v true (GWorld.e (⟨(⟨(⟨[], [], [], [], [], [], [], []⟩ : GSource), [], []⟩ : GTables), []⟩ : GWorld))) (q_build rfl .nil) (Wk.nilLe (NilLe.st (by repeat (first | exact NilLes.nil | refine NilLes.cons (.refl _) ?_ | refine NilLes.cons (.nil _) ?_))))) ?_
  obtain ⟨x20, x20_h, H⟩ := bd_inv H
  refine rq rfl rfl (q_call rfl (.v _ _ (fun e => nomatch e)) (.v rfl (.v rfl (.v rfl (.v rfl ArgsOk.nil)))) inferInstance (stock_Lot_c  x20_h)) ?_
  refine rq rfl rfl (q_move rfl) ?_
  refine rq rfl rfl (q_extract rfl rfl) ?_
  refine rq rfl rfl (q_extract rfl rfl) ?_
  refine rq rfl rfl (q_extract rfl rfl) ?_
  refine re rfl (e_alloc 24 0 rfl rfl) ?_; rintro _ ⟨b21, rfl⟩
  refine re rfl (e_store rfl rfl rfl rfl rfl (Nat.le_of_ble_eq_true rfl) rfl) ?_; rintro _ rfl
  refine rq rfl rfl (q_assign rfl) ?_
  refine rq rfl rfl (q_assign rfl) ?_
  refine run_nil ?_
  refine ev_seq ?_
  refine ev_region ?_
  refine rq rfl rfl (q_loadN rfl rfl rfl rfl) ?_
  obtain ⟨x22, x22_h, H⟩ := bd_inv H
  refine rq rfl rfl (q_call rfl (.v _ _ (fun e => nomatch e)) (.v rfl (.v rfl (.v rfl ArgsOk.nil))) inferInstance (stock_Lots_c  x22_h)) ?_
  refine rq rfl rfl (q_move rfl) ?_
  refine rq rfl rfl (q_extract rfl rfl) ?_
  refine rq rfl rfl (q_extract rfl rfl) ?_
  refine rq rfl rfl (q_assign rfl) ?_
  refine rq rfl rfl (q_assign rfl) ?_
  refine run_nil ?_
  refine ev_seq ?_
  refine ev_region ?_
  refine rq rfl rfl (q_loadN rfl rfl rfl rfl) ?_
  refine rq rfl rfl (q_build rfl (.v rfl rfl rfl rfl rfl .nil)) ?_
  obtain ⟨x23, x23_h, H⟩ := bd_inv H
  refine rq rfl rfl (q_call rfl (.v _ _ (fun e => nomatch e)) (.v rfl (.v rfl (.v rfl (.v rfl ArgsOk.nil)))) inferInstance (stock_Usable_c  x23_h)) ?_
  refine rq rfl rfl (q_move rfl) ?_
  refine rq rfl rfl (q_extract rfl rfl) ?_
  refine rq rfl rfl (q_extract rfl rfl) ?_
  refine rq rfl rfl (q_assign rfl) ?_
  refine rq rfl rfl (q_assign rfl) ?_
  refine run_nil ?_
  refine ev_seq ?_
  refine ev_region ?_
  refine rq rfl rfl (q_loadN rfl rfl rfl rfl) ?_
  refine rq rfl rfl (q_build rfl (.v rfl rfl rfl rfl rfl (.v rfl rfl rfl rfl rfl .nil))) ?_
  obtain ⟨x24, x24_h, H⟩ := bd_inv H
  refine rq rfl rfl (q_call rfl (.v _ _ (fun e => nomatch e)) (.v rfl (.v rfl (.v rfl (.v rfl ArgsOk.nil)))) inferInstance (stock_Usable_c  x24_h)) ?_
  refine rq rfl rfl (q_move rfl) ?_
  refine rq rfl rfl (q_extract rfl rfl) ?_
  refine rq rfl rfl (q_extract rfl rfl) ?_
  refine rq rfl rfl (q_assign rfl) ?_
  refine rq rfl rfl (q_assign rfl) ?_
  refine run_nil ?_
  refine ev_seq ?_
  refine ev_seq ?_
  refine ev_region ?_
  refine rq rfl rfl (q_move rfl) ?_
  refine rq rfl rfl (q_nei rfl rfl) ?_
  refine rq rfl rfl (q_move rfl) ?_
  refine rqc (l := []) ⟨⟨_, _, _, rfl, rfl, rfl, rfl⟩, rfl, fun hc => q_move rfl, trivial⟩ rfl ?_
  refine rqc (l := [114]) ⟨⟨_, _, _, rfl, rfl, rfl, rfl⟩, rfl, fun hc => q_nei rfl rfl, ⟨fun h => h, trivial⟩⟩ rfl ?_
  refine rq rfl rfl (q_pickb rfl rfl rfl PB.v (PB.c (fun hp => by rw [hp]; rfl))) ?_
  refine rq rfl rfl (q_move rfl) ?_
  refine rqc (l := []) ⟨⟨_, _, _, rfl, rfl, rfl, rfl⟩, rfl, fun hc => q_move rfl, trivial⟩ rfl ?_
  refine rqc (l := [118]) ⟨⟨_, _, _, rfl, rfl, rfl, rfl⟩, rfl, fun hc => q_nei rfl rfl, ⟨fun h => h, trivial⟩⟩ rfl ?_
  refine rq rfl rfl (q_pickb rfl rfl rfl PB.v (PB.c (fun hp => by rw [hp]; rfl))) ?_
  refine rq rfl rfl (q_move rfl) ?_
  refine rqc (l := []) ⟨⟨_, _, _, rfl, rfl, rfl, rfl⟩, rfl, fun hc => q_move rfl, trivial⟩ rfl ?_
  refine rqc (l := [122]) ⟨⟨_, _, _, rfl, rfl, rfl, rfl⟩, rfl, fun hc => q_nei rfl rfl, ⟨fun h => h, trivial⟩⟩ rfl ?_
  refine rq rfl rfl (q_pickb rfl rfl rfl PB.v (PB.c (fun hp => by rw [hp]; rfl))) ?_
  refine rq rfl rfl (q_move rfl) ?_
  refine rqc (l := []) ⟨⟨_, _, _, rfl, rfl, rfl, rfl⟩, rfl, fun hc => q_fld_p rfl, trivial⟩ rfl ?_
  refine rqc (l := [126]) ⟨⟨_, _, _, rfl, rfl, rfl, rfl⟩, rfl, fun hc => q_load1 rfl rfl rfl, ⟨fun h => h, trivial⟩⟩ rfl ?_
  refine rqc (l := [127]) ⟨⟨_, _, _, rfl, rfl, rfl, rfl⟩, rfl, fun hc => q_len_t rfl, ⟨fun h => h, trivial⟩⟩ rfl ?_
  refine rqc (l := [128]) ⟨⟨_, _, _, rfl, rfl, rfl, rfl⟩, rfl, fun hc => q_nei rfl rfl, ⟨fun h => h, trivial⟩⟩ rfl ?_
  refine rq rfl rfl (q_pickb rfl rfl rfl PB.v (PB.c (fun hp => by rw [hp]; rfl))) ?_
  refine rq rfl rfl (q_move rfl) ?_
  refine rqc (l := []) ⟨⟨_, _, _, rfl, rfl, rfl, rfl⟩, rfl, fun hc => q_fld_p rfl, trivial⟩ rfl ?_
  refine rqc (l := [132]) ⟨⟨_, _, _, rfl, rfl, rfl, rfl⟩, rfl, fun hc => q_load1 rfl rfl rfl, ⟨fun h => h, trivial⟩⟩ rfl ?_
  refine rqc (l := [133]) ⟨⟨_, _, _, rfl, rfl, rfl, rfl⟩, rfl, fun hc => q_len_t rfl, ⟨fun h => h, trivial⟩⟩ rfl ?_
  refine rqc (l := [134]) ⟨⟨_, _, _, rfl, rfl, rfl, rfl⟩, rfl, fun hc => q_nei rfl rfl, ⟨fun h => h, trivial⟩⟩ rfl ?_
  refine rq rfl rfl (q_pickb rfl rfl rfl PB.v (PB.c (fun hp => by rw [hp]; rfl))) ?_
  refine rq rfl rfl (q_move rfl) ?_
  refine rqc (l := []) ⟨⟨_, _, _, rfl, rfl, rfl, rfl⟩, rfl, fun hc => q_fld_p rfl, trivial⟩ rfl ?_
  refine rqc (l := [138]) ⟨⟨_, _, _, rfl, rfl, rfl, rfl⟩, rfl, fun hc => q_load1 rfl rfl rfl, ⟨fun h => h, trivial⟩⟩ rfl ?_
  refine rqc (l := [139]) ⟨⟨_, _, _, rfl, rfl, rfl, rfl⟩, rfl, fun hc => q_len_t rfl, ⟨fun h => h, trivial⟩⟩ rfl ?_
  refine rqc (l := [140]) ⟨⟨_, _, _, rfl, rfl, rfl, rfl⟩, rfl, fun hc => q_nei rfl rfl, ⟨fun h => h, trivial⟩⟩ rfl ?_
  refine rq rfl rfl (q_pickb rfl rfl rfl PB.v (PB.c (fun hp => by rw [hp]; rfl))) ?_
  refine run_nil ?_
  refine ev_cond rfl (fun hc => ?_) (fun hc => ?_)
  · replace H := ct hc H
    refine ev_seq ?_
    refine ev_region ?_
    refine rq rfl rfl (q_assign rfl) ?_
    refine run_nil ?_
    refine ev_ret ?_
    exact ret_ok [vb false] (congrArg (fun r : Bool => vb r) (Option.some.inj H)) rfl (.cons (.tmp rfl (.v _ _ (fun _ => rfl))) .nil)
  · replace H := cf hc H
    refine ev_skip ?_
    refine ev_seq ?_
    refine ev_region ?_
    refine rq rfl rfl (q_move rfl) ?_
    refine rq rfl rfl (q_move rfl) ?_
    refine rqc (l := []) ⟨⟨_, _, _, rfl, rfl, rfl, rfl⟩, rfl, fun hc => q_loadN rfl rfl rfl rfl, trivial⟩ rfl ?_
    refine rqc (l := []) ⟨⟨_, _, _, rfl, rfl, rfl, rfl⟩, rfl, fun hc => q_loadN rfl rfl rfl rfl, trivial⟩ rfl ?_
    refine rqc (l := [145, 146]) ⟨⟨_, _, _, rfl, rfl, rfl, rfl⟩, rfl, fun hc => q_eqs rfl rfl rfl, ⟨fun h => h, ⟨fun h => h, trivial⟩⟩⟩ rfl ?_
    refine rq rfl rfl (q_pickb rfl rfl rfl (PB.c (fun hp => hp)) PB.v) ?_
    refine rq rfl rfl (q_move rfl) ?_
    refine rqc (l := []) ⟨⟨_, _, _, rfl, rfl, rfl, rfl⟩, rfl, fun hc => q_move rfl, trivial⟩ rfl ?_
    refine rqc (l := [150]) ⟨⟨_, _, _, rfl, rfl, rfl, rfl⟩, rfl, fun hc => q_len_t rfl, ⟨fun h => h, trivial⟩⟩ rfl ?_
    refine rqc (l := [151]) ⟨⟨_, _, _, rfl, rfl, rfl, rfl⟩, rfl, fun hc => q_eqi rfl rfl, ⟨fun h => h, trivial⟩⟩ rfl ?_
    refine rq rfl rfl (q_pickb rfl rfl rfl (PB.c (fun hp => hp)) PB.v) ?_
    refine rq rfl rfl (q_move rfl) ?_
    refine rqc (l := []) ⟨⟨_, _, _, rfl, rfl, rfl, rfl⟩, rfl, fun hc => q_move rfl, trivial⟩ rfl ?_
    refine rqc (l := [155]) ⟨⟨_, _, _, rfl, rfl, rfl, rfl⟩, rfl, fun hc => q_not rfl, ⟨fun h => h, trivial⟩⟩ rfl ?_
    refine rq rfl rfl (q_pickb rfl rfl rfl (PB.c (fun hp => hp)) PB.v) ?_
    refine rq rfl rfl (q_move rfl) ?_
    refine rqc (l := []) ⟨⟨_, _, _, rfl, rfl, rfl, rfl⟩, rfl, fun hc => q_move rfl, trivial⟩ rfl ?_
    refine rqc (l := [159]) ⟨⟨_, _, _, rfl, rfl, rfl, rfl⟩, rfl, fun hc => q_len_t rfl, ⟨fun h => h, trivial⟩⟩ rfl ?_
    refine rqc (l := [160]) ⟨⟨_, _, _, rfl, rfl, rfl, rfl⟩, rfl, fun hc => q_eqi rfl rfl, ⟨fun h => h, trivial⟩⟩ rfl ?_
    refine rq rfl rfl (q_pickb rfl rfl rfl (PB.c (fun hp => hp)) PB.v) ?_
    refine rq rfl rfl (q_move rfl) ?_
    refine rqc (l := []) ⟨⟨_, _, _, rfl, rfl, rfl, rfl⟩, rfl, fun hc => q_move rfl, trivial⟩ rfl ?_
    refine rqc (l := [164]) ⟨⟨_, _, _, rfl, rfl, rfl, rfl⟩, rfl, fun hc => q_not rfl, ⟨fun h => h, trivial⟩⟩ rfl ?_
    refine rq rfl rfl (q_pickb rfl rfl rfl (PB.c (fun hp => hp)) PB.v) ?_
    refine rq rfl rfl (q_move rfl) ?_
    refine rqc (l := []) ⟨⟨_, _, _, rfl, rfl, rfl, rfl⟩, rfl, fun hc => q_move rfl, trivial⟩ rfl ?_
    refine rqc (l := [168]) ⟨⟨_, _, _, rfl, rfl, rfl, rfl⟩, rfl, fun hc => q_len_t rfl, ⟨fun h => h, trivial⟩⟩ rfl ?_
    refine rqc (l := [169]) ⟨⟨_, _, _, rfl, rfl, rfl, rfl⟩, rfl, fun hc => q_eqi rfl rfl, ⟨fun h => h, trivial⟩⟩ rfl ?_
    refine rq rfl rfl (q_pickb rfl rfl rfl (PB.c (fun hp => hp)) PB.v) ?_
    refine rq rfl rfl (q_move rfl) ?_
    refine rqc (l := []) ⟨⟨_, _, _, rfl, rfl, rfl, rfl⟩, rfl, fun hc => q_move rfl, trivial⟩ rfl ?_
    refine rqc (l := [173]) ⟨⟨_, _, _, rfl, rfl, rfl, rfl⟩, rfl, fun hc => q_not rfl, ⟨fun h => h, trivial⟩⟩ rfl ?_
    refine rq rfl rfl (q_pickb rfl rfl rfl (PB.c (fun hp => hp)) PB.v) ?_
    refine rq rfl rfl (q_move rfl) ?_
    refine rqc (l := []) ⟨⟨_, _, _, rfl, rfl, rfl, rfl⟩, rfl, fun hc => q_move rfl, trivial⟩ rfl ?_
    refine rqc (l := [177]) ⟨⟨_, _, _, rfl, rfl, rfl, rfl⟩, rfl, fun hc => q_len_t rfl, ⟨fun h => h, trivial⟩⟩ rfl ?_
    refine rqc (l := [178]) ⟨⟨_, _, _, rfl, rfl, rfl, rfl⟩, rfl, fun hc => q_eqi rfl rfl, ⟨fun h => h, trivial⟩⟩ rfl ?_
    refine rq rfl rfl (q_pickb rfl rfl rfl (PB.c (fun hp => hp)) PB.v) ?_
    refine rq rfl rfl (q_move rfl) ?_
    refine rqc (l := []) ⟨⟨_, _, _, rfl, rfl, rfl, rfl⟩, rfl, fun hc => q_move rfl, trivial⟩ rfl ?_
    refine rqc (l := [182]) ⟨⟨_, _, _, rfl, rfl, rfl, rfl⟩, rfl, fun hc => q_not rfl, ⟨fun h => h, trivial⟩⟩ rfl ?_
    refine rq rfl rfl (q_pickb rfl rfl rfl (PB.c (fun hp => hp)) PB.v) ?_
    refine rq rfl rfl (q_move rfl) ?_
    refine rqc (l := []) ⟨⟨_, _, _, rfl, rfl, rfl, rfl⟩, rfl, fun hc => q_move rfl, trivial⟩ rfl ?_
    refine rqc (l := [186]) ⟨⟨_, _, _, rfl, rfl, rfl, rfl⟩, rfl, fun hc => q_len_t rfl, ⟨fun h => h, trivial⟩⟩ rfl ?_
    refine rqc (l := [187]) ⟨⟨_, _, _, rfl, rfl, rfl, rfl⟩, rfl, fun hc => q_eqi rfl rfl, ⟨fun h => h, trivial⟩⟩ rfl ?_
    refine rq rfl rfl (q_pickb rfl rfl rfl (PB.c (fun hp => hp)) PB.v) ?_
    refine rq rfl rfl (q_move rfl) ?_
    refine rqc (l := []) ⟨⟨_, _, _, rfl, rfl, rfl, rfl⟩, rfl, fun hc => q_move rfl, trivial⟩ rfl ?_
    refine rqc (l := [191]) ⟨⟨_, _, _, rfl, rfl, rfl, rfl⟩, rfl, fun hc => q_len_t rfl, ⟨fun h => h, trivial⟩⟩ rfl ?_
    refine rqc (l := [192]) ⟨⟨_, _, _, rfl, rfl, rfl, rfl⟩, rfl, fun hc => q_eqi rfl rfl, ⟨fun h => h, trivial⟩⟩ rfl ?_
    refine rq rfl rfl (q_pickb rfl rfl rfl (PB.c (fun hp => hp)) PB.v) ?_
    refine rq rfl rfl (q_move rfl) ?_
    refine rqc (l := []) ⟨⟨_, _, _, rfl, rfl, rfl, rfl⟩, rfl, fun hc => q_move rfl, trivial⟩ rfl ?_
    refine rqc (l := [196]) ⟨⟨_, _, _, rfl, rfl, rfl, rfl⟩, rfl, fun hc => q_len_t rfl, ⟨fun h => h, trivial⟩⟩ rfl ?_
    refine rqc (l := [197]) ⟨⟨_, _, _, rfl, rfl, rfl, rfl⟩, rfl, fun hc => q_eqi rfl rfl, ⟨fun h => h, trivial⟩⟩ rfl ?_
    refine rq rfl rfl (q_pickb rfl rfl rfl (PB.c (fun hp => hp)) PB.v) ?_
    refine rq rfl rfl (q_move rfl) ?_
    refine rqc (l := []) ⟨⟨_, _, _, rfl, rfl, rfl, rfl⟩, rfl, fun hc => q_move rfl, trivial⟩ rfl ?_
    refine rqc (l := []) ⟨⟨_, _, _, rfl, rfl, rfl, rfl⟩, rfl, fun hc => q_loadN rfl rfl rfl rfl, trivial⟩ rfl ?_
    refine rqc (l := []) ⟨⟨_, _, _, rfl, rfl, rfl, rfl⟩, rfl, fun hc => q_loadN rfl rfl rfl rfl, trivial⟩ rfl ?_
    refine rqc (l := [202, 203]) ⟨⟨_, _, _, rfl, rfl, rfl, rfl⟩, rfl, fun hc => q_buildSlice (z := 6) (xs := List.map GLot.e ([(⟨3, 1, 0, 5, 9, 0⟩ : GLot), (⟨0, 1, 0, 2, 12, 0⟩ : GLot)] : List GLot)) (fl := true) rfl rfl rfl rfl (by simp [V.plain, V.cells, GLot.e, vi, vb]) rfl, ⟨fun h => h, ⟨fun h => h, trivial⟩⟩⟩ rfl ?_
    obtain ⟨x25, x25_h, _, H⟩ := bdc_inv H
    refine rqc (l := [201, 204]) ⟨⟨_, _, _, rfl, rfl, rfl, rfl⟩, rfl, fun hc => q_call rfl (.v _ _ (fun e => nomatch e)) (.v rfl (.v rfl ArgsOk.nil)) inferInstance (backflushref18_Same_c  (x25_h hc)), ⟨fun h => h, ⟨fun h => h, trivial⟩⟩⟩ rfl ?_
    refine rq rfl rfl (q_pickb rfl rfl rfl (PB.c (fun hp => hp)) PB.v) ?_
    refine rq rfl rfl (q_move rfl) ?_
    refine rqc (l := []) ⟨⟨_, _, _, rfl, rfl, rfl, rfl⟩, rfl, fun hc => q_move rfl, trivial⟩ rfl ?_
    refine rqc (l := []) ⟨⟨_, _, _, rfl, rfl, rfl, rfl⟩, rfl, fun hc => q_move rfl, trivial⟩ rfl ?_
    obtain ⟨x26, x26_h, _, H⟩ := bdc_inv H
    refine rqc (l := [208, 209]) ⟨⟨_, _, _, rfl, rfl, rfl, rfl⟩, rfl, fun hc => q_call rfl (.v _ _ (fun e => nomatch e)) (.v rfl (.v rfl ArgsOk.nil)) inferInstance (backflushref04_SameReads_c  (x26_h hc)), ⟨fun h => h, ⟨fun h => h, trivial⟩⟩⟩ rfl ?_
    refine rq rfl rfl (q_pickb rfl rfl rfl (PB.c (fun hp => hp)) PB.v) ?_
    refine rq rfl rfl (q_move rfl) ?_
    refine rqc (l := []) ⟨⟨_, _, _, rfl, rfl, rfl, rfl⟩, rfl, fun hc => q_move rfl, trivial⟩ rfl ?_
    refine rqc (l := [213]) ⟨⟨_, _, _, rfl, rfl, rfl, rfl⟩, rfl, fun hc => q_len_t rfl, ⟨fun h => h, trivial⟩⟩ rfl ?_
    refine rqc (l := [214]) ⟨⟨_, _, _, rfl, rfl, rfl, rfl⟩, rfl, fun hc => q_eqi rfl rfl, ⟨fun h => h, trivial⟩⟩ rfl ?_
    refine rq rfl rfl (q_pickb rfl rfl rfl (PB.c (fun hp => hp)) PB.v) ?_
    refine rq rfl rfl (q_move rfl) ?_
    refine rqc (l := []) ⟨⟨_, _, _, rfl, rfl, rfl, rfl⟩, rfl, fun hc => q_move rfl, trivial⟩ rfl ?_
    refine rqc (l := [218]) ⟨⟨_, _, _, rfl, rfl, rfl, rfl⟩, rfl, fun hc => q_len_t rfl, ⟨fun h => h, trivial⟩⟩ rfl ?_
    refine rqc (l := [219]) ⟨⟨_, _, _, rfl, rfl, rfl, rfl⟩, rfl, fun hc => q_eqi rfl rfl, ⟨fun h => h, trivial⟩⟩ rfl ?_
    refine rq rfl rfl (q_pickb rfl rfl rfl (PB.c (fun hp => hp)) PB.v) ?_
    refine rq rfl rfl (q_move rfl) ?_
    refine rqc (l := []) ⟨⟨_, _, _, rfl, rfl, rfl, rfl⟩, rfl, fun hc => q_fld_p rfl, trivial⟩ rfl ?_
    refine rqc (l := [223]) ⟨⟨_, _, _, rfl, rfl, rfl, rfl⟩, rfl, fun hc => q_load1 rfl rfl rfl, ⟨fun h => h, trivial⟩⟩ rfl ?_
    obtain ⟨x27, x27_h, _, H⟩ := bdc_inv H
    refine rqc (l := [224]) ⟨⟨_, _, _, rfl, rfl, rfl, rfl⟩, rfl, fun hc => q_idx_l rfl rfl (idx_inv (x27_h hc)).1 (map_get (idx_inv (x27_h hc)).2.1) rfl, ⟨fun h => h, trivial⟩⟩ rfl ?_
    refine rqc (l := [225]) ⟨⟨_, _, _, rfl, rfl, rfl, rfl⟩, rfl, fun hc => q_fld_q rfl, ⟨fun h => h, trivial⟩⟩ rfl ?_
    refine rqc (l := [226]) ⟨⟨_, _, _, rfl, rfl, rfl, rfl⟩, rfl, fun hc => q_load1_q rfl, ⟨fun h => h, trivial⟩⟩ rfl ?_
    refine rqc (l := [227]) ⟨⟨_, _, _, rfl, rfl, rfl, rfl⟩, rfl, fun hc => q_eqi rfl rfl, ⟨fun h => h, trivial⟩⟩ rfl ?_
    refine rq rfl rfl (q_pickb rfl rfl rfl (PB.c (fun hp => hp)) PB.v) ?_
    refine rq rfl rfl (q_move rfl) ?_
    refine rqc (l := []) ⟨⟨_, _, _, rfl, rfl, rfl, rfl⟩, rfl, fun hc => q_fld_p rfl, trivial⟩ rfl ?_
    refine rqc (l := [231]) ⟨⟨_, _, _, rfl, rfl, rfl, rfl⟩, rfl, fun hc => q_load1 rfl rfl rfl, ⟨fun h => h, trivial⟩⟩ rfl ?_
    obtain ⟨x28, x28_h, _, H⟩ := bdc_inv H
    refine rqc (l := [232]) ⟨⟨_, _, _, rfl, rfl, rfl, rfl⟩, rfl, fun hc => q_idx_l rfl rfl (idx_inv (x28_h hc)).1 (map_get (idx_inv (x28_h hc)).2.1) rfl, ⟨fun h => h, trivial⟩⟩ rfl ?_
    refine rqc (l := [233]) ⟨⟨_, _, _, rfl, rfl, rfl, rfl⟩, rfl, fun hc => q_fld_q rfl, ⟨fun h => h, trivial⟩⟩ rfl ?_
    refine rqc (l := [234]) ⟨⟨_, _, _, rfl, rfl, rfl, rfl⟩, rfl, fun hc => q_load1_q rfl, ⟨fun h => h, trivial⟩⟩ rfl ?_
    refine rqc (l := [235]) ⟨⟨_, _, _, rfl, rfl, rfl, rfl⟩, rfl, fun hc => q_eqi rfl rfl, ⟨fun h => h, trivial⟩⟩ rfl ?_
    refine rq rfl rfl (q_pickb rfl rfl rfl (PB.c (fun hp => hp)) PB.v) ?_
    refine rq rfl rfl (q_move rfl) ?_
    refine rqc (l := []) ⟨⟨_, _, _, rfl, rfl, rfl, rfl⟩, rfl, fun hc => q_fld_p rfl, trivial⟩ rfl ?_
    refine rqc (l := [239]) ⟨⟨_, _, _, rfl, rfl, rfl, rfl⟩, rfl, fun hc => q_load1 rfl rfl rfl, ⟨fun h => h, trivial⟩⟩ rfl ?_
    obtain ⟨x29, x29_h, _, H⟩ := bdc_inv H
    refine rqc (l := [240]) ⟨⟨_, _, _, rfl, rfl, rfl, rfl⟩, rfl, fun hc => q_idx_l rfl rfl (idx_inv (x29_h hc)).1 (map_get (idx_inv (x29_h hc)).2.1) rfl, ⟨fun h => h, trivial⟩⟩ rfl ?_
    refine rqc (l := [241]) ⟨⟨_, _, _, rfl, rfl, rfl, rfl⟩, rfl, fun hc => q_fld_q rfl, ⟨fun h => h, trivial⟩⟩ rfl ?_
    refine rqc (l := [242]) ⟨⟨_, _, _, rfl, rfl, rfl, rfl⟩, rfl, fun hc => q_loadN_q rfl rfl, ⟨fun h => h, trivial⟩⟩ rfl ?_
    refine rqc (l := []) ⟨⟨_, _, _, rfl, rfl, rfl, rfl⟩, rfl, fun hc => q_build rfl (.v rfl rfl rfl rfl rfl .nil), trivial⟩ rfl ?_
    refine rqc (l := [243, 244]) ⟨⟨_, _, _, rfl, rfl, rfl, rfl⟩, rfl, fun hc => q_eqs rfl rfl rfl, ⟨fun h => h, ⟨fun h => h, trivial⟩⟩⟩ rfl ?_
    refine rq rfl rfl (q_pickb rfl rfl rfl (PB.c (fun hp => hp)) PB.v) ?_
    refine rq rfl rfl (q_assign rfl) ?_
    refine run_nil ?_
    refine ev_ret ?_
    exact ret_ok [vb (bif bif bif bif bif bif bif bif bif bif bif bif bif bif bif bif bif bif bif x12.2.2 then GLot.eqb x12.1 (⟨3, 1, 0, 5, 9, 0⟩ : GLot) else false then ((x12.2.1.length : Nat) : Int) == 6 else false then !x14.2.2 else false then ((x14.2.1.length : Nat) : Int) == 1 else false then !x16.2.2 else false then ((x16.2.1.length : Nat) : Int) == 2 else false then !x18.2.2 else false then ((x18.2.1.length : Nat) : Int) == 0 else false then !x20.2.2 else false then ((x20.2.1.length : Nat) : Int) == 1 else false then ((x22.1.length : Nat) : Int) == 3 else false then ((x22.2.length : Nat) : Int) == 17 else false then x25 else false then x26 else false then ((x24.1.length : Nat) : Int) == 0 else false then ((x24.2.length : Nat) : Int) == 0 else false then x27.value == 4 else false then x28.no_ == 5 else false then GSpan.eqb x29.valid (⟨0, 1024⟩ : GSpan) else false)] (congrArg (fun r : Bool => vb r) (Option.some.inj H)) rfl (.cons (.tmp rfl (.v _ _ (fun _ => rfl))) .nil)
def backflushref18_Few_m (a0 : GWorld) : Option Bool := forN 0 ((a0.facts.length : Nat) : Int) (fun (k4 : Int) (s2 : Unit) loop3 => bd (idx a0.facts k4) fun x13 => bif bif x13.key.kind == 0 then decide (8 < x13.value) else false then (some false) else (loop3 ())) (fun (s2 : Unit) => some (decide (((a0.facts.length : Nat) : Int) ≤ 60))) ()
theorem backflushref18_Few_c {a0 : GWorld} {r : Bool} (H : backflushref18_Few_m a0 = some r) : PureC Try.prog true 31 [GWorld.e a0] (vb r) := by
  unfold backflushref18_Few_m at H
  refine pure_intro (N := 32) Try.func31 rfl rfl rfl rfl fun C hO => ?_
  refine ev_seq ?_
  refine ev_region ?_
  refine re rfl (e_box 1 0 rfl rfl rfl) ?_; rintro _ ⟨b1, rfl⟩
  refine rq rfl rfl (q_assign rfl) ?_
  refine run_nil ?_
  refine ev_seq ?_
  refine ev_seq ?_
  refine ev_region ?_
  refine rq rfl rfl (q_assign rfl) ?_
  refine run_nil ?_
  refine ev_block ?_
  refine ev_forN H (fun k4 s2 σ' => σ' = mkS [(1, .p 1 0 b1 0), (2, .v true (vb false)), (3, .v true (vi k4))] [.e 1 0 (some (b1, 11)) (.row 38 [.v false (V.l 8 (List.map GUnit.e a0.tables.source.units)), .v false (V.l 6 (List.map GItem.e a0.tables.source.items)), .v false (V.l 1 (List.map V.s a0.tables.source.plants)), .v false (V.l 4 (List.map GMachine.e a0.tables.source.machines)), .v false (V.l 2 (List.map GOption.e a0.tables.source.options)), .v false (V.l 1 (List.map (fun l => V.l 4 (List.map GCond.e l)) a0.tables.source.forbids)), .v false (V.l 17 (List.map GRecipe.e a0.tables.source.recipes)), .v false (V.l 4 (List.map GSwap.e a0.tables.source.swaps)), .v false (V.l 1 (List.map vi a0.tables.levels)), .v false (V.l 1 (List.map (fun l => V.l 6 (List.map GInst.e l)) a0.tables.codes)), .v false (V.l 8 (List.map GFact.e a0.facts))])] [] (0, false)) ⟨_, rfl, shift_mk ⟨⟨_, rfl, .rfl⟩, ⟨⟨_, rfl, (.flat rfl)⟩, ⟨⟨_, rfl, .rfl⟩, trivial⟩⟩⟩ ⟨(.e rfl), trivial⟩ rfl rfl⟩ ?_
  rintro n6 k4 s2 _ rfl w7 w8 w9 w10 H
  refine ev_seq ?_
  refine ev_seq ?_
  refine ev_region ?_
  refine rq rfl rfl (q_move rfl) ?_
  refine rq rfl rfl (q_fld_p rfl) ?_
  refine rq rfl rfl (q_load1 rfl rfl rfl) ?_
  refine rq rfl rfl (q_len_t rfl) ?_
  refine rq rfl rfl (q_lss rfl rfl) ?_
  refine run_nil ?_
  refine ev_cond rfl (fun hc => ?_) (fun hc => ?_)
  · obtain ⟨n12, n12_e, w11, H⟩ := forN_in hc w7 H
    refine ev_skip ?_
    refine ev_seq ?_
    refine ev_block ?_
    refine ev_seq ?_
    refine ev_region ?_
    refine rq rfl rfl (q_fld_p rfl) ?_
    refine rq rfl rfl (q_load1 rfl rfl rfl) ?_
    refine rq rfl rfl (q_move rfl) ?_
    obtain ⟨x13, x13_h, H⟩ := bd_inv H
    refine rq rfl rfl (q_idx_l rfl rfl (idx_inv x13_h).1 (map_get (idx_inv x13_h).2.1) rfl) ?_
    refine rq rfl rfl (q_fld_q rfl) ?_
    refine rq rfl rfl (q_fld_q rfl) ?_
    refine rq rfl rfl (q_load1_q rfl) ?_
    refine rq rfl rfl (q_eqi rfl rfl) ?_
    refine rq rfl rfl (q_move rfl) ?_
    refine rqc (l := []) ⟨⟨_, _, _, rfl, rfl, rfl, rfl⟩, rfl, fun hc => q_fld_p rfl, trivial⟩ rfl ?_
    refine rqc (l := [20]) ⟨⟨_, _, _, rfl, rfl, rfl, rfl⟩, rfl, fun hc => q_load1 rfl rfl rfl, ⟨fun h => h, trivial⟩⟩ rfl ?_
    refine rqc (l := []) ⟨⟨_, _, _, rfl, rfl, rfl, rfl⟩, rfl, fun hc => q_move rfl, trivial⟩ rfl ?_
    refine rqc (l := [21, 22]) ⟨⟨_, _, _, rfl, rfl, rfl, rfl⟩, rfl, fun hc => q_idx_l rfl rfl (idx_inv x13_h).1 (map_get (idx_inv x13_h).2.1) rfl, ⟨fun h => h, ⟨fun h => h, trivial⟩⟩⟩ rfl ?_
    refine rqc (l := [23]) ⟨⟨_, _, _, rfl, rfl, rfl, rfl⟩, rfl, fun hc => q_fld_q rfl, ⟨fun h => h, trivial⟩⟩ rfl ?_
    refine rqc (l := [24]) ⟨⟨_, _, _, rfl, rfl, rfl, rfl⟩, rfl, fun hc => q_load1_q rfl, ⟨fun h => h, trivial⟩⟩ rfl ?_
    refine rqc (l := [25]) ⟨⟨_, _, _, rfl, rfl, rfl, rfl⟩, rfl, fun hc => q_gtr rfl rfl, ⟨fun h => h, trivial⟩⟩ rfl ?_
    refine rq rfl rfl (q_pickb rfl rfl rfl (PB.c (fun hp => hp)) PB.v) ?_
    refine run_nil ?_
    refine ev_cond rfl (fun hc => ?_) (fun hc => ?_)
    · replace H := ct hc H
      refine ev_seq ?_
      refine ev_region ?_
      refine rq rfl rfl (q_assign rfl) ?_
      refine run_nil ?_
      refine ev_ret ?_
      exact ret_ok [vb false] (congrArg (fun r : Bool => vb r) (Option.some.inj H)) rfl (.cons (.tmp rfl (.v _ _ (fun _ => rfl))) .nil)
    · replace H := cf hc H
      refine ev_skip ?_
      refine ev_region ?_
      refine rq rfl rfl (q_move rfl) ?_
      refine rq rfl rfl (q_add rfl rfl) ?_
      refine rq rfl rfl (q_assign rfl) ?_
      refine run_nil ?_
      exact ⟨_, _, _, n12_e, H, rfl, shift_mk ⟨⟨_, rfl, .rfl⟩, ⟨⟨_, rfl, (.flat rfl)⟩, ⟨⟨_, rfl, (.eq (congrArg (fun n => D.v true (vi n)) (wrap_succ' (by omega) w11 w10)))⟩, trivial⟩⟩⟩ ⟨(.e rfl), trivial⟩ rfl rfl⟩
  · replace H := forN_out hc w7 H
    refine ev_exit ?_
    refine ev_seq ?_
    refine ev_region ?_
    refine rq rfl rfl (q_fld_p rfl) ?_
    refine rq rfl rfl (q_load1 rfl rfl rfl) ?_
    refine rq rfl rfl (q_len_t rfl) ?_
    refine rq rfl rfl (q_leq rfl rfl) ?_
    refine rq rfl rfl (q_assign rfl) ?_
    refine run_nil ?_
    refine ev_ret ?_
    exact ret_ok [vb (decide (((a0.facts.length : Nat) : Int) ≤ 60))] (congrArg (fun r : Bool => vb r) (Option.some.inj H)) rfl (.cons (.tmp rfl (.v _ _ (fun _ => rfl))) .nil)
def backflushlaw18_StockBack_m (a0 : GWorld) (a1 : GLot) (a2 : GSpan) (a3 : Int) (a4 : Int) (a5 : Int) (a6 : Int) : Option Bool := bd (backflushlaw18_sane_m) fun x4 => bif !x4 then (some false) else (bd (backflushref18_Few_m a0) fun x5 => bif bif !x5 then true else decide (8 < a1.no_) then (some true) else (bd (stock_Put_m a0 a1 a2 a3) fun x6 => bif x6.2 != 0 then (some (((x6.1.facts.length : Nat) : Int) == 0)) else (bd (facts_Check_m x6.1.facts) fun x8 => bif bif bif x8 != 0 then true else decide (((x6.1.facts.length : Nat) : Int) < (wr (((a0.facts.length : Nat) : Int) + 5))) then true else decide ((wr (((a0.facts.length : Nat) : Int) + 6)) < ((x6.1.facts.length : Nat) : Int)) then (some false) else (forN 0 ((([a6, a3, wr (a3 - 1)] : List Int).length : Nat) : Int) (fun (k11 : Int) (s9 : Unit) loop10 => bd (idx ([a6, a3, wr (a3 - 1)] : List Int) k11) fun x20 => bd (stock_Lot_m x6.1 a1.no_ a5 x20) fun x21 => bif bif bif bif decide (a2.from_ ≤ a5) then decide (a5 < a2.to_) else false then decide (a3 ≤ x20) else false then bif !x21.2.2 then true else !(GLot.eqb x21.1 a1) else false then (some false) else (bd (stock_Lot_m a0 a4 a5 x20) fun x23 => bd (stock_Lot_m x6.1 a4 a5 x20) fun x25 => bif bif bif x23.2.2 then !(bif a4 == a1.no_ then bif bif decide (a2.from_ ≤ a5) then decide (a5 < a2.to_) else false then decide (a3 ≤ x20) else false else false) else false then bif !x25.2.2 then true else !(GLot.eqb x23.1 x25.1) else false then (some false) else (loop10 ()))) (fun (s9 : Unit) => some true) ()))))
theorem backflushlaw18_StockBack_c {a0 : GWorld} {a1 : GLot} {a2 : GSpan} {a3 : Int} {a4 : Int} {a5 : Int} {a6 : Int} {r : Bool} (H : backflushlaw18_StockBack_m a0 a1 a2 a3 a4 a5 a6 = some r) : PureC Try.prog true 10 [GWorld.e a0, GLot.e a1, GSpan.e a2, vi a3, vi a4, vi a5, vi a6] (vb r) := by
  unfold backflushlaw18_StockBack_m at H
  refine pure_intro (N := 161) Try.func10 rfl rfl rfl rfl fun C hO => ?_
  refine ev_shift (shift_mk (fs := [(0, .v false (GWorld.e a0)), (1, .v true (GLot.e a1)), (2, .v true (GSpan.e a2)), (3, .v true (vi a3)), (4, .v true (vi a4)), (5, .v true (vi a5)), (6, .v true (vi a6))]) (es := []) ⟨⟨_, rfl, .rfl⟩, ⟨⟨_, rfl, (.flat rfl)⟩, ⟨⟨_, rfl, (.flat rfl)⟩, ⟨⟨_, rfl, (.flat rfl)⟩, ⟨⟨_, rfl, (.flat rfl)⟩, ⟨⟨_, rfl, (.flat rfl)⟩, ⟨⟨_, rfl, (.flat rfl)⟩, trivial⟩⟩⟩⟩⟩⟩⟩ trivial rfl rfl) ?_
  refine ev_seq ?_
  refine ev_region ?_
  refine re rfl (e_box 7 0 rfl rfl rfl) ?_; rintro _ ⟨b1, rfl⟩
  refine re rfl (e_box 8 0 rfl rfl rfl) ?_; rintro _ ⟨b2, rfl⟩
  refine re rfl (e_box 9 0 rfl rfl rfl) ?_; rintro _ ⟨b3, rfl⟩
  refine rq rfl rfl (q_assign rfl) ?_
  refine run_nil ?_
  refine ev_seq ?_
  refine ev_seq ?_
  refine ev_region ?_
  obtain ⟨x4, x4_h, H⟩ := bd_inv H
  refine rq rfl rfl (q_call rfl (.v _ _ (fun e => nomatch e)) ArgsOk.nil inferInstance (backflushlaw18_sane_c  x4_h)) ?_
  refine rq rfl rfl (q_not rfl) ?_
  refine run_nil ?_
  refine ev_cond rfl (fun hc => ?_) (fun hc => ?_)
  · replace H := ct hc H
    refine ev_seq ?_
    refine ev_region ?_
    refine rq rfl rfl (q_assign rfl) ?_
    refine run_nil ?_
    refine ev_ret ?_
    exact ret_ok [vb false] (congrArg (fun r : Bool => vb r) (Option.some.inj H)) rfl (.cons (.tmp rfl (.v _ _ (fun _ => rfl))) .nil)
  · replace H := cf hc H
    refine ev_skip ?_
    refine ev_seq ?_
    refine ev_seq ?_
    refine ev_region ?_
    refine rq rfl rfl (q_loadN rfl rfl rfl rfl) ?_
    obtain ⟨x5, x5_h, H⟩ := bd_inv H
    refine rq rfl rfl (q_call rfl (.v _ _ (fun e => nomatch e)) (.v rfl ArgsOk.nil) inferInstance (backflushref18_Few_c  x5_h)) ?_
    refine rq rfl rfl (q_not rfl) ?_
    refine rq rfl rfl (q_move rfl) ?_
    refine rqc (l := []) ⟨⟨_, _, _, rfl, rfl, rfl, rfl⟩, rfl, fun hc => q_fld_p rfl, trivial⟩ rfl ?_
    refine rqc (l := [35]) ⟨⟨_, _, _, rfl, rfl, rfl, rfl⟩, rfl, fun hc => q_load1 rfl rfl rfl, ⟨fun h => h, trivial⟩⟩ rfl ?_
    refine rqc (l := [36]) ⟨⟨_, _, _, rfl, rfl, rfl, rfl⟩, rfl, fun hc => q_gtr rfl rfl, ⟨fun h => h, trivial⟩⟩ rfl ?_
    refine rq rfl rfl (q_pickb rfl rfl rfl PB.v (PB.c (fun hp => by rw [hp]; rfl))) ?_
    refine run_nil ?_
    refine ev_cond rfl (fun hc => ?_) (fun hc => ?_)
    · replace H := ct hc H
      refine ev_seq ?_
      refine ev_region ?_
      refine rq rfl rfl (q_assign rfl) ?_
      refine run_nil ?_
      refine ev_ret ?_
      exact ret_ok [vb true] (congrArg (fun r : Bool => vb r) (Option.some.inj H)) rfl (.cons (.tmp rfl (.v _ _ (fun _ => rfl))) .nil)
    · replace H := cf hc H
      refine ev_skip ?_
      refine ev_seq ?_
      refine ev_region ?_
      refine rq rfl rfl (q_loadN rfl rfl rfl rfl) ?_
      refine rq rfl rfl (q_loadN rfl rfl rfl rfl) ?_
      refine rq rfl rfl (q_loadN rfl rfl rfl rfl) ?_
      refine rq rfl rfl (q_move rfl) ?_
      obtain ⟨x6, x6_h, H⟩ := bd_inv H
      refine rq rfl rfl (q_calla rfl (.v rfl (.v rfl (.v rfl (.v rfl CapsOk.nil)))) inferInstance (stock_Put_c  x6_h)) ?_
      refine rq rfl rfl (q_move rfl) ?_
      refine rq rfl rfl (q_extract rfl rfl) ?_
      refine rq rfl rfl (q_extract rfl rfl) ?_
      refine re rfl (e_alloc 15 0 rfl rfl) ?_; rintro _ ⟨b7, rfl⟩
      refine re rfl (e_store rfl rfl rfl rfl rfl (Nat.le_of_ble_eq_true rfl) rfl) ?_; rintro _ rfl
      refine rq rfl rfl (q_assign rfl) ?_
      refine run_nil ?_
      refine ev_seq ?_
      refine ev_seq ?_
      refine ev_region ?_
      refine rq rfl rfl (q_move rfl) ?_
      refine rq rfl rfl (q_nei rfl rfl) ?_
      refine run_nil ?_
      refine ev_cond rfl (fun hc => ?_) (fun hc => ?_)
      · replace H := ct hc H
        refine ev_seq ?_
        refine ev_region ?_
        refine rq rfl rfl (q_fld_p rfl) ?_
        refine rq rfl rfl (q_load1 rfl rfl rfl) ?_
        refine rq rfl rfl (q_len_t rfl) ?_
        refine rq rfl rfl (q_eqi rfl rfl) ?_
        refine rq rfl rfl (q_assign rfl) ?_
        refine run_nil ?_
        refine ev_ret ?_
        exact ret_ok [vb (((x6.1.facts.length : Nat) : Int) == 0)] (congrArg (fun r : Bool => vb r) (Option.some.inj H)) rfl (.cons (.tmp rfl (.v _ _ (fun _ => rfl))) .nil)
      · replace H := cf hc H
        refine ev_skip ?_
        refine ev_seq ?_
        refine ev_seq ?_
        refine ev_region ?_
        refine rq rfl rfl (q_fld_p rfl) ?_
        refine rq rfl rfl (q_load1 rfl rfl rfl) ?_
        obtain ⟨x8, x8_h, H⟩ := bd_inv H
        refine rq rfl rfl (q_call rfl (.v _ _ (fun e => nomatch e)) (.v rfl ArgsOk.nil) inferInstance (facts_Check_c  x8_h)) ?_
        refine rq rfl rfl (q_nei rfl rfl) ?_
        refine rq rfl rfl (q_move rfl) ?_
        refine rqc (l := []) ⟨⟨_, _, _, rfl, rfl, rfl, rfl⟩, rfl, fun hc => q_fld_p rfl, trivial⟩ rfl ?_
        refine rqc (l := [58]) ⟨⟨_, _, _, rfl, rfl, rfl, rfl⟩, rfl, fun hc => q_load1 rfl rfl rfl, ⟨fun h => h, trivial⟩⟩ rfl ?_
        refine rqc (l := [59]) ⟨⟨_, _, _, rfl, rfl, rfl, rfl⟩, rfl, fun hc => q_len_t rfl, ⟨fun h => h, trivial⟩⟩ rfl ?_
        refine rqc (l := []) ⟨⟨_, _, _, rfl, rfl, rfl, rfl⟩, rfl, fun hc => q_fld_p rfl, trivial⟩ rfl ?_
        refine rqc (l := [61]) ⟨⟨_, _, _, rfl, rfl, rfl, rfl⟩, rfl, fun hc => q_load1 rfl rfl rfl, ⟨fun h => h, trivial⟩⟩ rfl ?_
        refine rqc (l := [62]) ⟨⟨_, _, _, rfl, rfl, rfl, rfl⟩, rfl, fun hc => q_len_t rfl, ⟨fun h => h, trivial⟩⟩ rfl ?_
        refine rqc (l := [63]) ⟨⟨_, _, _, rfl, rfl, rfl, rfl⟩, rfl, fun hc => q_add rfl rfl, ⟨fun h => h, trivial⟩⟩ rfl ?_
        refine rqc (l := [60, 64]) ⟨⟨_, _, _, rfl, rfl, rfl, rfl⟩, rfl, fun hc => q_lss rfl rfl, ⟨fun h => h, ⟨fun h => h, trivial⟩⟩⟩ rfl ?_
        refine rq rfl rfl (q_pickb rfl rfl rfl PB.v (PB.c (fun hp => by rw [hp]; rfl))) ?_
        refine rq rfl rfl (q_move rfl) ?_
        refine rqc (l := []) ⟨⟨_, _, _, rfl, rfl, rfl, rfl⟩, rfl, fun hc => q_fld_p rfl, trivial⟩ rfl ?_
        refine rqc (l := [68]) ⟨⟨_, _, _, rfl, rfl, rfl, rfl⟩, rfl, fun hc => q_load1 rfl rfl rfl, ⟨fun h => h, trivial⟩⟩ rfl ?_
        refine rqc (l := [69]) ⟨⟨_, _, _, rfl, rfl, rfl, rfl⟩, rfl, fun hc => q_len_t rfl, ⟨fun h => h, trivial⟩⟩ rfl ?_
        refine rqc (l := []) ⟨⟨_, _, _, rfl, rfl, rfl, rfl⟩, rfl, fun hc => q_fld_p rfl, trivial⟩ rfl ?_
        refine rqc (l := [71]) ⟨⟨_, _, _, rfl, rfl, rfl, rfl⟩, rfl, fun hc => q_load1 rfl rfl rfl, ⟨fun h => h, trivial⟩⟩ rfl ?_
        refine rqc (l := [72]) ⟨⟨_, _, _, rfl, rfl, rfl, rfl⟩, rfl, fun hc => q_len_t rfl, ⟨fun h => h, trivial⟩⟩ rfl ?_
        refine rqc (l := [73]) ⟨⟨_, _, _, rfl, rfl, rfl, rfl⟩, rfl, fun hc => q_add rfl rfl, ⟨fun h => h, trivial⟩⟩ rfl ?_
        refine rqc (l := [70, 74]) ⟨⟨_, _, _, rfl, rfl, rfl, rfl⟩, rfl, fun hc => q_gtr rfl rfl, ⟨fun h => h, ⟨fun h => h, trivial⟩⟩⟩ rfl ?_
        refine rq rfl rfl (q_pickb rfl rfl rfl PB.v (PB.c (fun hp => by rw [hp]; rfl))) ?_
        refine run_nil ?_
        refine ev_cond rfl (fun hc => ?_) (fun hc => ?_)
        · replace H := ct hc H
          refine ev_seq ?_
          refine ev_region ?_
          refine rq rfl rfl (q_assign rfl) ?_
          refine run_nil ?_
          refine ev_ret ?_
          exact ret_ok [vb false] (congrArg (fun r : Bool => vb r) (Option.some.inj H)) rfl (.cons (.tmp rfl (.v _ _ (fun _ => rfl))) .nil)
        · replace H := cf hc H
          refine ev_skip ?_
          refine ev_seq ?_
          refine ev_seq ?_
          refine ev_region ?_
          refine rq rfl rfl (q_move rfl) ?_
          refine rq rfl rfl (q_move rfl) ?_
          refine rq rfl rfl (q_move rfl) ?_
          refine rq rfl rfl (q_sub rfl rfl) ?_
          refine rq rfl rfl (q_buildSlice (z := 1) (xs := List.map vi ([a6, a3, wr (a3 - 1)] : List Int)) (fl := true) rfl rfl rfl rfl (by simp [V.plain, V.cells, vi, vb]) rfl) ?_
          refine rq rfl rfl (q_len_t rfl) ?_
          refine rq rfl rfl (q_move rfl) ?_
          refine run_nil ?_
          refine ev_block ?_
          refine ev_forN H (fun k11 s9 σ' => σ' = mkS [(3, .v true (vi a3)), (4, .v true (vi a4)), (5, .v true (vi a5)), (7, .p 7 0 b1 0), (8, .p 8 0 b2 0), (9, .p 9 0 b3 0), (14, .v true (vb false)), (15, .p 15 0 b7 0), (81, .v true (V.l 1 (List.map vi ([a6, a3, wr (a3 - 1)] : List Int)))), (82, .v true (vi ((([a6, a3, wr (a3 - 1)] : List Int).length : Nat) : Int))), (83, .v true (vi k11))] [.e 7 0 (some (b1, 11)) (.row 38 [.v false (V.l 8 (List.map GUnit.e a0.tables.source.units)), .v false (V.l 6 (List.map GItem.e a0.tables.source.items)), .v false (V.l 1 (List.map V.s a0.tables.source.plants)), .v false (V.l 4 (List.map GMachine.e a0.tables.source.machines)), .v false (V.l 2 (List.map GOption.e a0.tables.source.options)), .v false (V.l 1 (List.map (fun l => V.l 4 (List.map GCond.e l)) a0.tables.source.forbids)), .v false (V.l 17 (List.map GRecipe.e a0.tables.source.recipes)), .v false (V.l 4 (List.map GSwap.e a0.tables.source.swaps)), .v false (V.l 1 (List.map vi a0.tables.levels)), .v false (V.l 1 (List.map (fun l => V.l 6 (List.map GInst.e l)) a0.tables.codes)), .v false (V.l 8 (List.map GFact.e a0.facts))]), .e 8 0 (some (b2, 6)) (.row 60 [.v true (vi a1.no_), .v true (vi a1.item), .v true (vi a1.plant), .v true (vi a1.amount), .v true (vi a1.expiry), .v true (vi a1.state)]), .e 9 0 (some (b3, 2)) (.row 86 [.v true (vi a2.from_), .v true (vi a2.to_)]), .e 15 0 (some (b7, 11)) (.row 38 [.v false (V.l 8 (List.map GUnit.e x6.1.tables.source.units)), .v false (V.l 6 (List.map GItem.e x6.1.tables.source.items)), .v false (V.l 1 (List.map V.s x6.1.tables.source.plants)), .v false (V.l 4 (List.map GMachine.e x6.1.tables.source.machines)), .v false (V.l 2 (List.map GOption.e x6.1.tables.source.options)), .v false (V.l 1 (List.map (fun l => V.l 4 (List.map GCond.e l)) x6.1.tables.source.forbids)), .v false (V.l 17 (List.map GRecipe.e x6.1.tables.source.recipes)), .v false (V.l 4 (List.map GSwap.e x6.1.tables.source.swaps)), .v false (V.l 1 (List.map vi x6.1.tables.levels)), .v false (V.l 1 (List.map (fun l => V.l 6 (List.map GInst.e l)) x6.1.tables.codes)), .v false (V.l 8 (List.map GFact.e x6.1.facts))])] [] (0, false)) ⟨_, rfl, shift_mk ⟨⟨_, rfl, (.flat rfl)⟩, ⟨⟨_, rfl, (.flat rfl)⟩, ⟨⟨_, rfl, (.flat rfl)⟩, ⟨⟨_, rfl, .rfl⟩, ⟨⟨_, rfl, .rfl⟩, ⟨⟨_, rfl, .rfl⟩, ⟨⟨_, rfl, (.flat rfl)⟩, ⟨⟨_, rfl, .rfl⟩, ⟨⟨_, rfl, .rfl⟩, ⟨⟨_, rfl, (.flat rfl)⟩, ⟨⟨_, rfl, .rfl⟩, trivial⟩⟩⟩⟩⟩⟩⟩⟩⟩⟩⟩ ⟨(.e rfl), ⟨(.w rfl (.cons (.flat rfl) (.cons (.flat rfl) (.cons (.flat rfl) (.cons (.flat rfl) (.cons (.flat rfl) (.cons (.flat rfl) .nil))))))), ⟨(.w rfl (.cons (.flat rfl) (.cons (.flat rfl) .nil))), ⟨(.e rfl), trivial⟩⟩⟩⟩ rfl rfl⟩ ?_
          rintro n13 k11 s9 _ rfl w14 w15 w16 w17 H
          refine ev_seq ?_
          refine ev_region ?_
          refine rq rfl rfl (q_lss rfl rfl) ?_
          refine run_nil ?_
          refine ev_seq ?_
          refine ev_cond rfl (fun hc => ?_) (fun hc => ?_)
          · obtain ⟨n19, n19_e, w18, H⟩ := forN_in hc w14 H
            refine ev_skip ?_
            refine ev_seq ?_
            refine ev_block ?_
            refine ev_seq ?_
            refine ev_region ?_
            obtain ⟨x20, x20_h, H⟩ := bd_inv H
            refine rq rfl rfl (q_idx_l rfl rfl (idx_inv x20_h).1 (map_get (idx_inv x20_h).2.1) rfl) ?_
            refine rq rfl rfl (q_load1_q rfl) ?_
            refine rq rfl rfl (q_assign rfl) ?_
            refine run_nil ?_
            refine ev_seq ?_
            refine ev_region ?_
            refine rq rfl rfl (q_loadN rfl rfl rfl rfl) ?_
            refine rq rfl rfl (q_fld_p rfl) ?_
            refine rq rfl rfl (q_load1 rfl rfl rfl) ?_
            refine rq rfl rfl (q_move rfl) ?_
            refine rq rfl rfl (q_move rfl) ?_
            obtain ⟨x21, x21_h, H⟩ := bd_inv H
            refine rq rfl rfl (q_call rfl (.v _ _ (fun e => nomatch e)) (.v rfl (.v rfl (.v rfl (.v rfl ArgsOk.nil)))) inferInstance (stock_Lot_c  x21_h)) ?_
            refine rq rfl rfl (q_move rfl) ?_
            refine rq rfl rfl (q_extract rfl rfl) ?_
            refine rq rfl rfl (q_extract rfl rfl) ?_
            refine rq rfl rfl (q_extract rfl rfl) ?_
            refine re rfl (e_alloc 19 0 rfl rfl) ?_; rintro _ ⟨b22, rfl⟩
            refine re rfl (e_store rfl rfl rfl rfl rfl (Nat.le_of_ble_eq_true rfl) rfl) ?_; rintro _ rfl
            refine rq rfl rfl (q_assign rfl) ?_
            refine rq rfl rfl (q_assign rfl) ?_
            refine run_nil ?_
            refine ev_seq ?_
            refine ev_region ?_
            refine rq rfl rfl (q_move rfl) ?_
            refine rq rfl rfl (q_fld_p rfl) ?_
            refine rq rfl rfl (q_load1 rfl rfl rfl) ?_
            refine rq rfl rfl (q_geq rfl rfl) ?_
            refine rq rfl rfl (q_move rfl) ?_
            refine rqc (l := []) ⟨⟨_, _, _, rfl, rfl, rfl, rfl⟩, rfl, fun hc => q_move rfl, trivial⟩ rfl ?_
            refine rqc (l := []) ⟨⟨_, _, _, rfl, rfl, rfl, rfl⟩, rfl, fun hc => q_fld_p rfl, trivial⟩ rfl ?_
            refine rqc (l := [103]) ⟨⟨_, _, _, rfl, rfl, rfl, rfl⟩, rfl, fun hc => q_load1 rfl rfl rfl, ⟨fun h => h, trivial⟩⟩ rfl ?_
            refine rqc (l := [102, 104]) ⟨⟨_, _, _, rfl, rfl, rfl, rfl⟩, rfl, fun hc => q_lss rfl rfl, ⟨fun h => h, ⟨fun h => h, trivial⟩⟩⟩ rfl ?_
            refine rq rfl rfl (q_pickb rfl rfl rfl (PB.c (fun hp => hp)) PB.v) ?_
            refine rq rfl rfl (q_move rfl) ?_
            refine rqc (l := []) ⟨⟨_, _, _, rfl, rfl, rfl, rfl⟩, rfl, fun hc => q_move rfl, trivial⟩ rfl ?_
            refine rqc (l := []) ⟨⟨_, _, _, rfl, rfl, rfl, rfl⟩, rfl, fun hc => q_move rfl, trivial⟩ rfl ?_
            refine rqc (l := [108, 109]) ⟨⟨_, _, _, rfl, rfl, rfl, rfl⟩, rfl, fun hc => q_geq rfl rfl, ⟨fun h => h, ⟨fun h => h, trivial⟩⟩⟩ rfl ?_
            refine rq rfl rfl (q_pickb rfl rfl rfl (PB.c (fun hp => hp)) PB.v) ?_
            refine rq rfl rfl (q_assign rfl) ?_
            refine run_nil ?_
            refine ev_seq ?_
            refine ev_seq ?_
            refine ev_region ?_
            refine rq rfl rfl (q_move rfl) ?_
            refine rq rfl rfl (q_move rfl) ?_
            refine rqc (l := []) ⟨⟨_, _, _, rfl, rfl, rfl, rfl⟩, rfl, fun hc => q_move rfl, trivial⟩ rfl ?_
            refine rqc (l := [114]) ⟨⟨_, _, _, rfl, rfl, rfl, rfl⟩, rfl, fun hc => q_not rfl, ⟨fun h => h, trivial⟩⟩ rfl ?_
            refine rqc (l := [115]) ⟨⟨_, _, _, rfl, rfl, rfl, rfl⟩, rfl, fun hc => q_move rfl, ⟨fun h => h, trivial⟩⟩ rfl ?_
            refine rqc (l := []) ⟨⟨_, _, _, rfl, rfl, rfl, rfl⟩, rfl, fun hc => q_loadN rfl rfl rfl rfl, trivial⟩ rfl ?_
            refine rqc (l := []) ⟨⟨_, _, _, rfl, rfl, rfl, rfl⟩, rfl, fun hc => q_loadN rfl rfl rfl rfl, trivial⟩ rfl ?_
            refine rqc (l := [117, 118]) ⟨⟨_, _, _, rfl, rfl, rfl, rfl⟩, rfl, fun hc => q_nes rfl rfl (r := GLot.eqb x21.1 a1) rfl, ⟨fun h => h, ⟨fun h => h, trivial⟩⟩⟩ rfl ?_
            refine rqc (l := [116]) ⟨⟨_, _, _, rfl, rfl, rfl, rfl⟩, rfl, fun hc => q_pickb rfl rfl rfl PB.v (PB.c (fun hp => by simp_all)), ⟨fun h => h, trivial⟩⟩ rfl ?_
            refine rq rfl rfl (q_pickb rfl rfl rfl (PB.c (fun hp => hp)) PB.v) ?_
            refine run_nil ?_
            refine ev_cond rfl (fun hc => ?_) (fun hc => ?_)
            · replace H := ct hc H
              refine ev_seq ?_
              refine ev_region ?_
              refine rq rfl rfl (q_assign rfl) ?_
              refine run_nil ?_
              refine ev_ret ?_
              exact ret_ok [vb false] (congrArg (fun r : Bool => vb r) (Option.some.inj H)) rfl (.cons (.tmp rfl (.v _ _ (fun _ => rfl))) .nil)
            · replace H := cf hc H
              refine ev_skip ?_
              refine ev_seq ?_
              refine ev_region ?_
              refine rq rfl rfl (q_loadN rfl rfl rfl rfl) ?_
              refine rq rfl rfl (q_move rfl) ?_
              refine rq rfl rfl (q_move rfl) ?_
              refine rq rfl rfl (q_move rfl) ?_
              obtain ⟨x23, x23_h, H⟩ := bd_inv H
              refine rq rfl rfl (q_call rfl (.v _ _ (fun e => nomatch e)) (.v rfl (.v rfl (.v rfl (.v rfl ArgsOk.nil)))) inferInstance (stock_Lot_c  x23_h)) ?_
              refine rq rfl rfl (q_move rfl) ?_
              refine rq rfl rfl (q_extract rfl rfl) ?_
              refine rq rfl rfl (q_extract rfl rfl) ?_
              refine rq rfl rfl (q_extract rfl rfl) ?_
              refine re rfl (e_alloc 23 0 rfl rfl) ?_; rintro _ ⟨b24, rfl⟩
              refine re rfl (e_store rfl rfl rfl rfl rfl (Nat.le_of_ble_eq_true rfl) rfl) ?_; rintro _ rfl
              refine rq rfl rfl (q_assign rfl) ?_
              refine rq rfl rfl (q_assign rfl) ?_
              refine run_nil ?_
              refine ev_seq ?_
              refine ev_region ?_
              refine rq rfl rfl (q_loadN rfl rfl rfl rfl) ?_
              refine rq rfl rfl (q_move rfl) ?_
              refine rq rfl rfl (q_move rfl) ?_
              refine rq rfl rfl (q_move rfl) ?_
              obtain ⟨x25, x25_h, H⟩ := bd_inv H
              refine rq rfl rfl (q_call rfl (.v _ _ (fun e => nomatch e)) (.v rfl (.v rfl (.v rfl (.v rfl ArgsOk.nil)))) inferInstance (stock_Lot_c  x25_h)) ?_
              refine rq rfl rfl (q_move rfl) ?_
              refine rq rfl rfl (q_extract rfl rfl) ?_
              refine rq rfl rfl (q_extract rfl rfl) ?_
              refine rq rfl rfl (q_extract rfl rfl) ?_
              refine re rfl (e_alloc 26 0 rfl rfl) ?_; rintro _ ⟨b26, rfl⟩
              refine re rfl (e_store rfl rfl rfl rfl rfl (Nat.le_of_ble_eq_true rfl) rfl) ?_; rintro _ rfl
              refine rq rfl rfl (q_assign rfl) ?_
              refine rq rfl rfl (q_assign rfl) ?_
              refine run_nil ?_
              refine ev_seq ?_
              refine ev_region ?_
              refine rq rfl rfl (q_move rfl) ?_
              refine rq rfl rfl (q_move rfl) ?_
              refine rqc (l := []) ⟨⟨_, _, _, rfl, rfl, rfl, rfl⟩, rfl, fun hc => q_move rfl, trivial⟩ rfl ?_
              refine rqc (l := []) ⟨⟨_, _, _, rfl, rfl, rfl, rfl⟩, rfl, fun hc => q_fld_p rfl, trivial⟩ rfl ?_
              refine rqc (l := [143]) ⟨⟨_, _, _, rfl, rfl, rfl, rfl⟩, rfl, fun hc => q_load1 rfl rfl rfl, ⟨fun h => h, trivial⟩⟩ rfl ?_
              refine rqc (l := [142, 144]) ⟨⟨_, _, _, rfl, rfl, rfl, rfl⟩, rfl, fun hc => q_eqi rfl rfl, ⟨fun h => h, ⟨fun h => h, trivial⟩⟩⟩ rfl ?_
              refine rqc (l := [145]) ⟨⟨_, _, _, rfl, rfl, rfl, rfl⟩, rfl, fun hc => q_move rfl, ⟨fun h => h, trivial⟩⟩ rfl ?_
              refine rqc (l := []) ⟨⟨_, _, _, rfl, rfl, rfl, rfl⟩, rfl, fun hc => q_move rfl, trivial⟩ rfl ?_
              refine rqc (l := [146]) ⟨⟨_, _, _, rfl, rfl, rfl, rfl⟩, rfl, fun hc => q_pickb rfl rfl rfl (PB.c (fun hp => by simp_all)) PB.v, ⟨fun h => h, trivial⟩⟩ rfl ?_
              refine rqc (l := [148]) ⟨⟨_, _, _, rfl, rfl, rfl, rfl⟩, rfl, fun hc => q_not rfl, ⟨fun h => h, trivial⟩⟩ rfl ?_
              refine rq rfl rfl (q_pickb rfl rfl rfl (PB.c (fun hp => hp)) PB.v) ?_
              refine rq rfl rfl (q_move rfl) ?_
              refine rqc (l := []) ⟨⟨_, _, _, rfl, rfl, rfl, rfl⟩, rfl, fun hc => q_move rfl, trivial⟩ rfl ?_
              refine rqc (l := [152]) ⟨⟨_, _, _, rfl, rfl, rfl, rfl⟩, rfl, fun hc => q_not rfl, ⟨fun h => h, trivial⟩⟩ rfl ?_
              refine rqc (l := [153]) ⟨⟨_, _, _, rfl, rfl, rfl, rfl⟩, rfl, fun hc => q_move rfl, ⟨fun h => h, trivial⟩⟩ rfl ?_
              refine rqc (l := []) ⟨⟨_, _, _, rfl, rfl, rfl, rfl⟩, rfl, fun hc => q_loadN rfl rfl rfl rfl, trivial⟩ rfl ?_
              refine rqc (l := []) ⟨⟨_, _, _, rfl, rfl, rfl, rfl⟩, rfl, fun hc => q_loadN rfl rfl rfl rfl, trivial⟩ rfl ?_
              refine rqc (l := [155, 156]) ⟨⟨_, _, _, rfl, rfl, rfl, rfl⟩, rfl, fun hc => q_nes rfl rfl (r := GLot.eqb x23.1 x25.1) rfl, ⟨fun h => h, ⟨fun h => h, trivial⟩⟩⟩ rfl ?_
              refine rqc (l := [154]) ⟨⟨_, _, _, rfl, rfl, rfl, rfl⟩, rfl, fun hc => q_pickb rfl rfl rfl PB.v (PB.c (fun hp => by simp_all)), ⟨fun h => h, trivial⟩⟩ rfl ?_
              refine rq rfl rfl (q_pickb rfl rfl rfl (PB.c (fun hp => hp)) PB.v) ?_
              refine run_nil ?_
              refine ev_cond rfl (fun hc => ?_) (fun hc => ?_)
              · replace H := ct hc H
                refine ev_seq ?_
                refine ev_region ?_
                refine rq rfl rfl (q_assign rfl) ?_
                refine run_nil ?_
                refine ev_ret ?_
                exact ret_ok [vb false] (congrArg (fun r : Bool => vb r) (Option.some.inj H)) rfl (.cons (.tmp rfl (.v _ _ (fun _ => rfl))) .nil)
              · replace H := cf hc H
                refine ev_skip ?_
                refine ev_region ?_
                refine rq rfl rfl (q_add rfl rfl) ?_
                refine rq rfl rfl (q_move rfl) ?_
                refine run_nil ?_
                exact ⟨_, _, _, n19_e, H, rfl, shift_mk ⟨⟨_, rfl, (.flat rfl)⟩, ⟨⟨_, rfl, (.flat rfl)⟩, ⟨⟨_, rfl, (.flat rfl)⟩, ⟨⟨_, rfl, .rfl⟩, ⟨⟨_, rfl, .rfl⟩, ⟨⟨_, rfl, .rfl⟩, ⟨⟨_, rfl, (.flat rfl)⟩, ⟨⟨_, rfl, .rfl⟩, ⟨⟨_, rfl, .rfl⟩, ⟨⟨_, rfl, (.flat rfl)⟩, ⟨⟨_, rfl, (.eq (congrArg (fun n => D.v true (vi n)) (wrap_succ' (by omega) w18 w17)))⟩, trivial⟩⟩⟩⟩⟩⟩⟩⟩⟩⟩⟩ ⟨(.e rfl), ⟨(.w rfl (.cons (.flat rfl) (.cons (.flat rfl) (.cons (.flat rfl) (.cons (.flat rfl) (.cons (.flat rfl) (.cons (.flat rfl) .nil))))))), ⟨(.w rfl (.cons (.flat rfl) (.cons (.flat rfl) .nil))), ⟨(.e rfl), trivial⟩⟩⟩⟩ rfl rfl⟩
          · replace H := forN_out hc w14 H
            refine ev_exit ?_
            refine ev_seq ?_
            refine ev_region ?_
            refine rq rfl rfl (q_assign rfl) ?_
            refine run_nil ?_
            refine ev_ret ?_
            exact ret_ok [vb true] (congrArg (fun r : Bool => vb r) (Option.some.inj H)) rfl (.cons (.tmp rfl (.v _ _ (fun _ => rfl))) .nil)
def backflushref18_Right_m (a0 : GLot) : Option Bool := some (bif bif bif bif bif bif bif bif decide (0 ≤ a0.item) then decide (a0.item < 32) else false then decide (0 ≤ a0.plant) else false then decide (a0.plant < 8) else false then decide (1 ≤ a0.amount) else false then decide (0 ≤ a0.expiry) else false then decide (a0.expiry ≤ 1024) else false then decide (0 ≤ a0.state) else false then decide (a0.state ≤ 3) else false)
theorem backflushref18_Right_c {a0 : GLot} {r : Bool} (H : backflushref18_Right_m a0 = some r) : PureC Try.prog true 40 [GLot.e a0] (vb r) := by
  unfold backflushref18_Right_m at H
  refine pure_intro (N := 46) Try.func40 rfl rfl rfl rfl fun C hO => ?_
  refine ev_shift (shift_mk (fs := [(0, .v true (GLot.e a0))]) (es := []) ⟨⟨_, rfl, (.flat rfl)⟩, trivial⟩ trivial rfl rfl) ?_
  refine ev_seq ?_
  refine ev_region ?_
  refine re rfl (e_box 1 0 rfl rfl rfl) ?_; rintro _ ⟨b1, rfl⟩
  refine rq rfl rfl (q_assign rfl) ?_
  refine run_nil ?_
  refine ev_seq ?_
  refine ev_region ?_
  refine rq rfl rfl (q_fld_p rfl) ?_
  refine rq rfl rfl (q_load1 rfl rfl rfl) ?_
  refine rq rfl rfl (q_geq rfl rfl) ?_
  refine rq rfl rfl (q_move rfl) ?_
  refine rqc (l := []) ⟨⟨_, _, _, rfl, rfl, rfl, rfl⟩, rfl, fun hc => q_fld_p rfl, trivial⟩ rfl ?_
  refine rqc (l := [7]) ⟨⟨_, _, _, rfl, rfl, rfl, rfl⟩, rfl, fun hc => q_load1 rfl rfl rfl, ⟨fun h => h, trivial⟩⟩ rfl ?_
  refine rqc (l := [8]) ⟨⟨_, _, _, rfl, rfl, rfl, rfl⟩, rfl, fun hc => q_lss rfl rfl, ⟨fun h => h, trivial⟩⟩ rfl ?_
  refine rq rfl rfl (q_pickb rfl rfl rfl (PB.c (fun hp => hp)) PB.v) ?_
  refine rq rfl rfl (q_move rfl) ?_
  refine rqc (l := []) ⟨⟨_, _, _, rfl, rfl, rfl, rfl⟩, rfl, fun hc => q_fld_p rfl, trivial⟩ rfl ?_
  refine rqc (l := [12]) ⟨⟨_, _, _, rfl, rfl, rfl, rfl⟩, rfl, fun hc => q_load1 rfl rfl rfl, ⟨fun h => h, trivial⟩⟩ rfl ?_
  refine rqc (l := [13]) ⟨⟨_, _, _, rfl, rfl, rfl, rfl⟩, rfl, fun hc => q_geq rfl rfl, ⟨fun h => h, trivial⟩⟩ rfl ?_
  refine rq rfl rfl (q_pickb rfl rfl rfl (PB.c (fun hp => hp)) PB.v) ?_
  refine rq rfl rfl (q_move rfl) ?_
  refine rqc (l := []) ⟨⟨_, _, _, rfl, rfl, rfl, rfl⟩, rfl, fun hc => q_fld_p rfl, trivial⟩ rfl ?_
  refine rqc (l := [17]) ⟨⟨_, _, _, rfl, rfl, rfl, rfl⟩, rfl, fun hc => q_load1 rfl rfl rfl, ⟨fun h => h, trivial⟩⟩ rfl ?_
  refine rqc (l := [18]) ⟨⟨_, _, _, rfl, rfl, rfl, rfl⟩, rfl, fun hc => q_lss rfl rfl, ⟨fun h => h, trivial⟩⟩ rfl ?_
  refine rq rfl rfl (q_pickb rfl rfl rfl (PB.c (fun hp => hp)) PB.v) ?_
  refine rq rfl rfl (q_move rfl) ?_
  refine rqc (l := []) ⟨⟨_, _, _, rfl, rfl, rfl, rfl⟩, rfl, fun hc => q_fld_p rfl, trivial⟩ rfl ?_
  refine rqc (l := [22]) ⟨⟨_, _, _, rfl, rfl, rfl, rfl⟩, rfl, fun hc => q_load1 rfl rfl rfl, ⟨fun h => h, trivial⟩⟩ rfl ?_
  refine rqc (l := [23]) ⟨⟨_, _, _, rfl, rfl, rfl, rfl⟩, rfl, fun hc => q_geq rfl rfl, ⟨fun h => h, trivial⟩⟩ rfl ?_
  refine rq rfl rfl (q_pickb rfl rfl rfl (PB.c (fun hp => hp)) PB.v) ?_
  refine rq rfl rfl (q_move rfl) ?_
  refine rqc (l := []) ⟨⟨_, _, _, rfl, rfl, rfl, rfl⟩, rfl, fun hc => q_fld_p rfl, trivial⟩ rfl ?_
  refine rqc (l := [27]) ⟨⟨_, _, _, rfl, rfl, rfl, rfl⟩, rfl, fun hc => q_load1 rfl rfl rfl, ⟨fun h => h, trivial⟩⟩ rfl ?_
  refine rqc (l := [28]) ⟨⟨_, _, _, rfl, rfl, rfl, rfl⟩, rfl, fun hc => q_geq rfl rfl, ⟨fun h => h, trivial⟩⟩ rfl ?_
  refine rq rfl rfl (q_pickb rfl rfl rfl (PB.c (fun hp => hp)) PB.v) ?_
  refine rq rfl rfl (q_move rfl) ?_
  refine rqc (l := []) ⟨⟨_, _, _, rfl, rfl, rfl, rfl⟩, rfl, fun hc => q_fld_p rfl, trivial⟩ rfl ?_
  refine rqc (l := [32]) ⟨⟨_, _, _, rfl, rfl, rfl, rfl⟩, rfl, fun hc => q_load1 rfl rfl rfl, ⟨fun h => h, trivial⟩⟩ rfl ?_
  refine rqc (l := [33]) ⟨⟨_, _, _, rfl, rfl, rfl, rfl⟩, rfl, fun hc => q_leq rfl rfl, ⟨fun h => h, trivial⟩⟩ rfl ?_
  refine rq rfl rfl (q_pickb rfl rfl rfl (PB.c (fun hp => hp)) PB.v) ?_
  refine rq rfl rfl (q_move rfl) ?_
  refine rqc (l := []) ⟨⟨_, _, _, rfl, rfl, rfl, rfl⟩, rfl, fun hc => q_fld_p rfl, trivial⟩ rfl ?_
  refine rqc (l := [37]) ⟨⟨_, _, _, rfl, rfl, rfl, rfl⟩, rfl, fun hc => q_load1 rfl rfl rfl, ⟨fun h => h, trivial⟩⟩ rfl ?_
  refine rqc (l := [38]) ⟨⟨_, _, _, rfl, rfl, rfl, rfl⟩, rfl, fun hc => q_geq rfl rfl, ⟨fun h => h, trivial⟩⟩ rfl ?_
  refine rq rfl rfl (q_pickb rfl rfl rfl (PB.c (fun hp => hp)) PB.v) ?_
  refine rq rfl rfl (q_move rfl) ?_
  refine rqc (l := []) ⟨⟨_, _, _, rfl, rfl, rfl, rfl⟩, rfl, fun hc => q_fld_p rfl, trivial⟩ rfl ?_
  refine rqc (l := [42]) ⟨⟨_, _, _, rfl, rfl, rfl, rfl⟩, rfl, fun hc => q_load1 rfl rfl rfl, ⟨fun h => h, trivial⟩⟩ rfl ?_
  refine rqc (l := [43]) ⟨⟨_, _, _, rfl, rfl, rfl, rfl⟩, rfl, fun hc => q_leq rfl rfl, ⟨fun h => h, trivial⟩⟩ rfl ?_
  refine rq rfl rfl (q_pickb rfl rfl rfl (PB.c (fun hp => hp)) PB.v) ?_
  refine rq rfl rfl (q_assign rfl) ?_
  refine run_nil ?_
  refine ev_ret ?_
  exact ret_ok [vb (bif bif bif bif bif bif bif bif decide (0 ≤ a0.item) then decide (a0.item < 32) else false then decide (0 ≤ a0.plant) else false then decide (a0.plant < 8) else false then decide (1 ≤ a0.amount) else false then decide (0 ≤ a0.expiry) else false then decide (a0.expiry ≤ 1024) else false then decide (0 ≤ a0.state) else false then decide (a0.state ≤ 3) else false)] (congrArg (fun r : Bool => vb r) (Option.some.inj H)) rfl (.cons (.tmp rfl (.v _ _ (fun _ => rfl))) .nil)
def backflushlaw18_StockAll_m (a0 : GWorld) (a1 : Int) (a2 : Int) : Option Bool := bd (backflushlaw18_sane_m) fun x2 => bif !x2 then (some false) else (bd (backflushref18_Few_m a0) fun x3 => bif !x3 then (some true) else (bd (stock_Lots_m a0 a1 a2) fun x4 => forN 0 10 (fun (k7 : Int) (s5 : Int × Int) loop6 => jn (fun (p19 : Int) (p20 : Int) => loop6 (p19, p20)) fun j18 => bd (stock_Lot_m a0 k7 a1 a2) fun x21 => jn (fun (p24 : Int) => bif !x21.2.2 then (bif !(GLot.eqb x21.1 (⟨0, 0, 0, 0, 0, 0⟩ : GLot)) then (some false) else (j18 s5.1 p24)) else (bdc (!(decide (((x4.1.length : Nat) : Int) ≤ s5.1))) (idx x4.1 s5.1) fun x25 => bdc (!(bif bif decide (((x4.1.length : Nat) : Int) ≤ s5.1) then true else !(GLot.eqb x25 x21.1) then true else x21.1.no_ != k7)) (backflushref18_Right_m x21.1) fun x26 => bif bif bif bif decide (((x4.1.length : Nat) : Int) ≤ s5.1) then true else !(GLot.eqb x25 x21.1) then true else x21.1.no_ != k7 then true else !x26 then (some false) else (j18 (wr (s5.1 + 1)) p24))) fun j23 => bif decide (0 < ((x21.2.1.length : Nat) : Int)) then (j23 (wr (s5.2 + (wr (((x21.2.1.length : Nat) : Int) - 1))))) else (j23 s5.2)) (fun (s5 : Int × Int) => bif bif decide (a1 < 0) then true else decide (1024 ≤ a1) then (some (bif ((x4.1.length : Nat) : Int) == 0 then ((x4.2.length : Nat) : Int) == 0 else false)) else (some (bif s5.1 == ((x4.1.length : Nat) : Int) then ((x4.2.length : Nat) : Int) == (wr (s5.2 + 1)) else false))) (0, 0)))
theorem backflushlaw18_StockAll_c {a0 : GWorld} {a1 : Int} {a2 : Int} {r : Bool} (H : backflushlaw18_StockAll_m a0 a1 a2 = some r) : PureC Try.prog true 11 [GWorld.e a0, vi a1, vi a2] (vb r) := by
  unfold backflushlaw18_StockAll_m at H
  refine pure_intro (N := 103) Try.func11 rfl rfl rfl rfl fun C hO => ?_
  refine ev_shift (shift_mk (fs := [(0, .v false (GWorld.e a0)), (1, .v true (vi a1)), (2, .v true (vi a2))]) (es := []) ⟨⟨_, rfl, .rfl⟩, ⟨⟨_, rfl, (.flat rfl)⟩, ⟨⟨_, rfl, (.flat rfl)⟩, trivial⟩⟩⟩ trivial rfl rfl) ?_
  refine ev_seq ?_
  refine ev_region ?_
  refine re rfl (e_box 3 0 rfl rfl rfl) ?_; rintro _ ⟨b1, rfl⟩
  refine rq rfl rfl (q_assign rfl) ?_
  refine run_nil ?_
  refine ev_seq ?_
  refine ev_seq ?_
  refine ev_region ?_
  obtain ⟨x2, x2_h, H⟩ := bd_inv H
  refine rq rfl rfl (q_call rfl (.v _ _ (fun e => nomatch e)) ArgsOk.nil inferInstance (backflushlaw18_sane_c  x2_h)) ?_
  refine rq rfl rfl (q_not rfl) ?_
  refine run_nil ?_
  refine ev_cond rfl (fun hc => ?_) (fun hc => ?_)
  · replace H := ct hc H
    refine ev_seq ?_
    refine ev_region ?_
    refine rq rfl rfl (q_assign rfl) ?_
    refine run_nil ?_
    refine ev_ret ?_
    exact ret_ok [vb false] (congrArg (fun r : Bool => vb r) (Option.some.inj H)) rfl (.cons (.tmp rfl (.v _ _ (fun _ => rfl))) .nil)
  · replace H := cf hc H
    refine ev_skip ?_
    refine ev_seq ?_
    refine ev_seq ?_
    refine ev_region ?_
    refine rq rfl rfl (q_loadN rfl rfl rfl rfl) ?_
    obtain ⟨x3, x3_h, H⟩ := bd_inv H
    refine rq rfl rfl (q_call rfl (.v _ _ (fun e => nomatch e)) (.v rfl ArgsOk.nil) inferInstance (backflushref18_Few_c  x3_h)) ?_
    refine rq rfl rfl (q_not rfl) ?_
    refine run_nil ?_
    refine ev_cond rfl (fun hc => ?_) (fun hc => ?_)
    · replace H := ct hc H
      refine ev_seq ?_
      refine ev_region ?_
      refine rq rfl rfl (q_assign rfl) ?_
      refine run_nil ?_
      refine ev_ret ?_
      exact ret_ok [vb true] (congrArg (fun r : Bool => vb r) (Option.some.inj H)) rfl (.cons (.tmp rfl (.v _ _ (fun _ => rfl))) .nil)
    · replace H := cf hc H
      refine ev_skip ?_
      refine ev_seq ?_
      refine ev_region ?_
      refine rq rfl rfl (q_loadN rfl rfl rfl rfl) ?_
      refine rq rfl rfl (q_move rfl) ?_
      refine rq rfl rfl (q_move rfl) ?_
      obtain ⟨x4, x4_h, H⟩ := bd_inv H
      refine rq rfl rfl (q_call rfl (.v _ _ (fun e => nomatch e)) (.v rfl (.v rfl (.v rfl ArgsOk.nil))) inferInstance (stock_Lots_c  x4_h)) ?_
      refine rq rfl rfl (q_move rfl) ?_
      refine rq rfl rfl (q_extract rfl rfl) ?_
      refine rq rfl rfl (q_extract rfl rfl) ?_
      refine rq rfl rfl (q_assign rfl) ?_
      refine rq rfl rfl (q_assign rfl) ?_
      refine run_nil ?_
      refine ev_seq ?_
      refine ev_region ?_
      refine rq rfl rfl (q_assign rfl) ?_
      refine rq rfl rfl (q_assign rfl) ?_
      refine run_nil ?_
      refine ev_seq ?_
      refine ev_seq ?_
      refine ev_region ?_
      refine rq rfl rfl (q_move rfl) ?_
      refine run_nil ?_
      refine ev_block ?_
      refine ev_forN H (fun k7 s5 σ' => σ' = mkS [(1, .v true (vi a1)), (2, .v true (vi a2)), (3, .p 3 0 b1 0), (6, .v true (vb false)), (7, .v true (V.l 6 (List.map GLot.e x4.1))), (8, .v true (V.l 5 (List.map GRead.e x4.2))), (9, .v true (vi s5.1)), (10, .v true (vi s5.2)), (27, .v true (vi k7))] [.e 3 0 (some (b1, 11)) (.row 38 [.v false (V.l 8 (List.map GUnit.e a0.tables.source.units)), .v false (V.l 6 (List.map GItem.e a0.tables.source.items)), .v false (V.l 1 (List.map V.s a0.tables.source.plants)), .v false (V.l 4 (List.map GMachine.e a0.tables.source.machines)), .v false (V.l 2 (List.map GOption.e a0.tables.source.options)), .v false (V.l 1 (List.map (fun l => V.l 4 (List.map GCond.e l)) a0.tables.source.forbids)), .v false (V.l 17 (List.map GRecipe.e a0.tables.source.recipes)), .v false (V.l 4 (List.map GSwap.e a0.tables.source.swaps)), .v false (V.l 1 (List.map vi a0.tables.levels)), .v false (V.l 1 (List.map (fun l => V.l 6 (List.map GInst.e l)) a0.tables.codes)), .v false (V.l 8 (List.map GFact.e a0.facts))])] [] (0, false)) ⟨_, rfl, shift_mk ⟨⟨_, rfl, (.flat rfl)⟩, ⟨⟨_, rfl, (.flat rfl)⟩, ⟨⟨_, rfl, .rfl⟩, ⟨⟨_, rfl, (.flat rfl)⟩, ⟨⟨_, rfl, .rfl⟩, ⟨⟨_, rfl, .rfl⟩, ⟨⟨_, rfl, (.flat rfl)⟩, ⟨⟨_, rfl, (.flat rfl)⟩, ⟨⟨_, rfl, .rfl⟩, trivial⟩⟩⟩⟩⟩⟩⟩⟩⟩ ⟨(.e rfl), trivial⟩ rfl rfl⟩ ?_
      rintro n11 k7 s5 _ rfl w12 w13 w14 w15 H
      refine ev_seq ?_
      refine ev_region ?_
      refine rq rfl rfl (q_lss rfl rfl) ?_
      refine run_nil ?_
      refine ev_seq ?_
      refine ev_cond rfl (fun hc => ?_) (fun hc => ?_)
      · obtain ⟨n17, n17_e, w16, H⟩ := forN_in hc w12 H
        refine ev_skip ?_
        obtain ⟨j18, j18_e, H⟩ := jn_inv H
        refine ev_join (fun σ' => ∃ (p19 : Int) (p20 : Int), j18 p19 p20 = some r ∧ σ' = mkS [(1, .v true (vi a1)), (2, .v true (vi a2)), (3, .p 3 0 b1 0), (6, .v true (vb false)), (7, .v true (V.l 6 (List.map GLot.e x4.1))), (8, .v true (V.l 5 (List.map GRead.e x4.2))), (9, .v true (vi p19)), (10, .v true (vi p20)), (27, .v true (vi k7))] [.e 3 0 (some (b1, 11)) (.row 38 [.v false (V.l 8 (List.map GUnit.e a0.tables.source.units)), .v false (V.l 6 (List.map GItem.e a0.tables.source.items)), .v false (V.l 1 (List.map V.s a0.tables.source.plants)), .v false (V.l 4 (List.map GMachine.e a0.tables.source.machines)), .v false (V.l 2 (List.map GOption.e a0.tables.source.options)), .v false (V.l 1 (List.map (fun l => V.l 4 (List.map GCond.e l)) a0.tables.source.forbids)), .v false (V.l 17 (List.map GRecipe.e a0.tables.source.recipes)), .v false (V.l 4 (List.map GSwap.e a0.tables.source.swaps)), .v false (V.l 1 (List.map vi a0.tables.levels)), .v false (V.l 1 (List.map (fun l => V.l 6 (List.map GInst.e l)) a0.tables.codes)), .v false (V.l 8 (List.map GFact.e a0.facts))])] [] (0, false)) ?_ ?_
        · rintro _ ⟨p19, p20, H, rfl⟩
          subst j18_e
          refine ev_region ?_
          refine rq rfl rfl (q_add rfl rfl) ?_
          refine rq rfl rfl (q_move rfl) ?_
          refine run_nil ?_
          exact ⟨_, _, _, n17_e, H, rfl, shift_mk ⟨⟨_, rfl, (.flat rfl)⟩, ⟨⟨_, rfl, (.flat rfl)⟩, ⟨⟨_, rfl, .rfl⟩, ⟨⟨_, rfl, (.flat rfl)⟩, ⟨⟨_, rfl, .rfl⟩, ⟨⟨_, rfl, .rfl⟩, ⟨⟨_, rfl, (.flat rfl)⟩, ⟨⟨_, rfl, (.flat rfl)⟩, ⟨⟨_, rfl, (.eq (congrArg (fun n => D.v true (vi n)) (wrap_succ' (by omega) w16 w15)))⟩, trivial⟩⟩⟩⟩⟩⟩⟩⟩⟩ ⟨(.e rfl), trivial⟩ rfl rfl⟩
        · clear j18_e
          refine ev_block ?_
          refine ev_seq ?_
          refine ev_region ?_
          refine rq rfl rfl (q_move rfl) ?_
          refine rq rfl rfl (q_assign rfl) ?_
          refine run_nil ?_
          refine ev_seq ?_
          refine ev_region ?_
          refine rq rfl rfl (q_loadN rfl rfl rfl rfl) ?_
          refine rq rfl rfl (q_move rfl) ?_
          refine rq rfl rfl (q_move rfl) ?_
          refine rq rfl rfl (q_move rfl) ?_
          obtain ⟨x21, x21_h, H⟩ := bd_inv H
          refine rq rfl rfl (q_call rfl (.v _ _ (fun e => nomatch e)) (.v rfl (.v rfl (.v rfl (.v rfl ArgsOk.nil)))) inferInstance (stock_Lot_c  x21_h)) ?_
          refine rq rfl rfl (q_move rfl) ?_
          refine rq rfl rfl (q_extract rfl rfl) ?_
          refine rq rfl rfl (q_extract rfl rfl) ?_
          refine rq rfl rfl (q_extract rfl rfl) ?_
          refine re rfl (e_alloc 12 0 rfl rfl) ?_; rintro _ ⟨b22, rfl⟩
          refine re rfl (e_store rfl rfl rfl rfl rfl (Nat.le_of_ble_eq_true rfl) rfl) ?_; rintro _ rfl
          refine rq rfl rfl (q_assign rfl) ?_
          refine rq rfl rfl (q_assign rfl) ?_
          refine run_nil ?_
          obtain ⟨j23, j23_e, H⟩ := jn_inv H
          refine ev_join (fun σ' => ∃ (p24 : Int), j23 p24 = some r ∧ σ' = mkS [(1, .v true (vi a1)), (2, .v true (vi a2)), (3, .p 3 0 b1 0), (6, .v true (vb false)), (7, .v true (V.l 6 (List.map GLot.e x4.1))), (8, .v true (V.l 5 (List.map GRead.e x4.2))), (9, .v true (vi s5.1)), (10, .v true (vi p24)), (11, .v true (vi k7)), (12, .p 12 0 b22 0), (14, .v true (vb x21.2.2)), (27, .v true (vi k7))] [.e 3 0 (some (b1, 11)) (.row 38 [.v false (V.l 8 (List.map GUnit.e a0.tables.source.units)), .v false (V.l 6 (List.map GItem.e a0.tables.source.items)), .v false (V.l 1 (List.map V.s a0.tables.source.plants)), .v false (V.l 4 (List.map GMachine.e a0.tables.source.machines)), .v false (V.l 2 (List.map GOption.e a0.tables.source.options)), .v false (V.l 1 (List.map (fun l => V.l 4 (List.map GCond.e l)) a0.tables.source.forbids)), .v false (V.l 17 (List.map GRecipe.e a0.tables.source.recipes)), .v false (V.l 4 (List.map GSwap.e a0.tables.source.swaps)), .v false (V.l 1 (List.map vi a0.tables.levels)), .v false (V.l 1 (List.map (fun l => V.l 6 (List.map GInst.e l)) a0.tables.codes)), .v false (V.l 8 (List.map GFact.e a0.facts))]), .e 12 0 (some (b22, 6)) (.row 60 [.v true (vi x21.1.no_), .v true (vi x21.1.item), .v true (vi x21.1.plant), .v true (vi x21.1.amount), .v true (vi x21.1.expiry), .v true (vi x21.1.state)])] [] (0, false)) ?_ ?_
          · rintro _ ⟨p24, H, rfl⟩
            subst j23_e
            refine ev_seq ?_
            refine ev_seq ?_
            refine ev_region ?_
            refine rq rfl rfl (q_move rfl) ?_
            refine rq rfl rfl (q_not rfl) ?_
            refine run_nil ?_
            refine ev_cond rfl (fun hc => ?_) (fun hc => ?_)
            · replace H := ct hc H
              refine ev_seq ?_
              refine ev_seq ?_
              refine ev_region ?_
              refine rq rfl rfl (q_loadN rfl rfl rfl rfl) ?_
              refine rq rfl rfl (q_build rfl .nil) ?_
              refine rq rfl rfl (q_nes rfl rfl (r := GLot.eqb x21.1 (⟨0, 0, 0, 0, 0, 0⟩ : GLot)) rfl) ?_
              refine run_nil ?_
              refine ev_cond rfl (fun hc => ?_) (fun hc => ?_)
              · replace H := ct hc H
                refine ev_seq ?_
                refine ev_region ?_
                refine rq rfl rfl (q_assign rfl) ?_
                refine run_nil ?_
                refine ev_ret ?_
                exact ret_ok [vb false] (congrArg (fun r : Bool => vb r) (Option.some.inj H)) rfl (.cons (.tmp rfl (.v _ _ (fun _ => rfl))) .nil)
              · replace H := cf hc H
                refine ev_skip ?_
                refine ev_exit ?_
                exact ⟨_, ⟨s5.1, p24, H, rfl⟩, shift_mk ⟨⟨_, rfl, (.flat rfl)⟩, ⟨⟨_, rfl, (.flat rfl)⟩, ⟨⟨_, rfl, .rfl⟩, ⟨⟨_, rfl, (.flat rfl)⟩, ⟨⟨_, rfl, .rfl⟩, ⟨⟨_, rfl, .rfl⟩, ⟨⟨_, rfl, (.flat rfl)⟩, ⟨⟨_, rfl, (.flat rfl)⟩, ⟨⟨_, rfl, (.flat rfl)⟩, trivial⟩⟩⟩⟩⟩⟩⟩⟩⟩ ⟨(.e rfl), trivial⟩ rfl rfl⟩
            · replace H := cf hc H
              refine ev_skip ?_
              refine ev_seq ?_
              refine ev_seq ?_
              obtain ⟨x25, x25_h, _, H⟩ := bdc_inv H
              obtain ⟨x26, x26_h, _, H⟩ := bdc_inv H
              refine ev_draw rfl (by kernel_rfl) ?_
              refine qq rfl rfl (q_move rfl) ?_
              refine qq rfl rfl (q_move rfl) ?_
              refine qq rfl rfl (q_len_t rfl) ?_
              refine qq rfl rfl (q_geq rfl rfl) ?_
              refine qq rfl rfl (q_move rfl) ?_
              refine qc (l := []) ⟨⟨_, _, _, rfl, rfl, rfl, rfl⟩, rfl, fun hc => q_move rfl, trivial⟩ rfl rfl ?_
              refine qc (l := []) ⟨⟨_, _, _, rfl, rfl, rfl, rfl⟩, rfl, fun hc => q_move rfl, trivial⟩ rfl rfl ?_
              refine qc (l := [57, 58]) ⟨⟨_, _, _, rfl, rfl, rfl, rfl⟩, rfl, fun hc => q_idx_l rfl rfl (idx_inv (x25_h hc)).1 (map_get (idx_inv (x25_h hc)).2.1) rfl, ⟨fun h => h, ⟨fun h => h, trivial⟩⟩⟩ rfl rfl ?_
              refine qc (l := [59]) ⟨⟨_, _, _, rfl, rfl, rfl, rfl⟩, rfl, fun hc => q_load_e rfl rfl rfl, ⟨fun h => h, trivial⟩⟩ rfl rfl ?_
              refine qc (l := []) ⟨⟨_, _, _, rfl, rfl, rfl, rfl⟩, rfl, fun hc => q_loadN rfl rfl rfl rfl, trivial⟩ rfl rfl ?_
              refine qc (l := [60, 61]) ⟨⟨_, _, _, rfl, rfl, rfl, rfl⟩, rfl, fun hc => q_nes rfl rfl (r := GLot.eqb x25 x21.1) rfl, ⟨fun h => h, ⟨fun h => h, trivial⟩⟩⟩ rfl rfl ?_
              refine qq rfl rfl (q_pickb rfl rfl rfl PB.v (PB.c (fun hp => by rw [hp]; rfl))) ?_
              refine qq rfl rfl (q_move rfl) ?_
              refine qc (l := []) ⟨⟨_, _, _, rfl, rfl, rfl, rfl⟩, rfl, fun hc => q_fld_p rfl, trivial⟩ rfl rfl ?_
              refine qc (l := [65]) ⟨⟨_, _, _, rfl, rfl, rfl, rfl⟩, rfl, fun hc => q_load1 rfl rfl rfl, ⟨fun h => h, trivial⟩⟩ rfl rfl ?_
              refine qc (l := []) ⟨⟨_, _, _, rfl, rfl, rfl, rfl⟩, rfl, fun hc => q_move rfl, trivial⟩ rfl rfl ?_
              refine qc (l := [66, 67]) ⟨⟨_, _, _, rfl, rfl, rfl, rfl⟩, rfl, fun hc => q_nei rfl rfl, ⟨fun h => h, ⟨fun h => h, trivial⟩⟩⟩ rfl rfl ?_
              refine qq rfl rfl (q_pickb rfl rfl rfl PB.v (PB.c (fun hp => by rw [hp]; rfl))) ?_
              refine qq rfl rfl (q_move rfl) ?_
              refine qc (l := []) ⟨⟨_, _, _, rfl, rfl, rfl, rfl⟩, rfl, fun hc => q_loadN rfl rfl rfl rfl, trivial⟩ rfl rfl ?_
              refine qc (l := [71]) ⟨⟨_, _, _, rfl, rfl, rfl, rfl⟩, rfl, fun hc => q_call rfl (.v _ _ (fun e => nomatch e)) (.v rfl ArgsOk.nil) inferInstance (backflushref18_Right_c  (x26_h hc)), ⟨fun h => h, trivial⟩⟩ rfl rfl ?_
              refine qc (l := [72]) ⟨⟨_, _, _, rfl, rfl, rfl, rfl⟩, rfl, fun hc => q_not rfl, ⟨fun h => h, trivial⟩⟩ rfl rfl ?_
              refine qq rfl rfl (q_pickb rfl rfl rfl PB.v (PB.c (fun hp => by rw [hp]; rfl))) ?_
              refine qn ?_
              refine ev_cond rfl (fun hc => ?_) (fun hc => ?_)
              · replace H := ct hc H
                refine ev_seq ?_
                refine ev_region ?_
                refine rq rfl rfl (q_assign rfl) ?_
                refine run_nil ?_
                refine ev_ret ?_
                exact ret_ok [vb false] (congrArg (fun r : Bool => vb r) (Option.some.inj H)) rfl (.cons (.tmp rfl (.v _ _ (fun _ => rfl))) .nil)
              · replace H := cf hc H
                refine ev_skip ?_
                refine ev_region ?_
                refine rq rfl rfl (q_move rfl) ?_
                refine rq rfl rfl (q_add rfl rfl) ?_
                refine rq rfl rfl (q_assign rfl) ?_
                refine run_nil ?_
                exact ⟨_, ⟨wr (s5.1 + 1), p24, H, rfl⟩, shift_mk ⟨⟨_, rfl, (.flat rfl)⟩, ⟨⟨_, rfl, (.flat rfl)⟩, ⟨⟨_, rfl, .rfl⟩, ⟨⟨_, rfl, (.flat rfl)⟩, ⟨⟨_, rfl, .rfl⟩, ⟨⟨_, rfl, .rfl⟩, ⟨⟨_, rfl, (.flat rfl)⟩, ⟨⟨_, rfl, (.flat rfl)⟩, ⟨⟨_, rfl, (.flat rfl)⟩, trivial⟩⟩⟩⟩⟩⟩⟩⟩⟩ ⟨(.e rfl), trivial⟩ rfl rfl⟩
          · clear j23_e
            refine ev_seq ?_
            refine ev_region ?_
            refine rq rfl rfl (q_move rfl) ?_
            refine rq rfl rfl (q_len_t rfl) ?_
            refine rq rfl rfl (q_gtr rfl rfl) ?_
            refine run_nil ?_
            refine ev_cond rfl (fun hc => ?_) (fun hc => ?_)
            · replace H := ct hc H
              refine ev_region ?_
              refine rq rfl rfl (q_move rfl) ?_
              refine rq rfl rfl (q_move rfl) ?_
              refine rq rfl rfl (q_len_t rfl) ?_
              refine rq rfl rfl (q_sub rfl rfl) ?_
              refine rq rfl rfl (q_add rfl rfl) ?_
              refine rq rfl rfl (q_assign rfl) ?_
              refine run_nil ?_
              exact ⟨_, ⟨wr (s5.2 + (wr (((x21.2.1.length : Nat) : Int) - 1))), H, rfl⟩, shift_mk ⟨⟨_, rfl, (.flat rfl)⟩, ⟨⟨_, rfl, (.flat rfl)⟩, ⟨⟨_, rfl, .rfl⟩, ⟨⟨_, rfl, (.flat rfl)⟩, ⟨⟨_, rfl, .rfl⟩, ⟨⟨_, rfl, .rfl⟩, ⟨⟨_, rfl, (.flat rfl)⟩, ⟨⟨_, rfl, (.flat rfl)⟩, ⟨⟨_, rfl, (.flat rfl)⟩, ⟨⟨_, rfl, .rfl⟩, ⟨⟨_, rfl, (.flat rfl)⟩, ⟨⟨_, rfl, (.flat rfl)⟩, trivial⟩⟩⟩⟩⟩⟩⟩⟩⟩⟩⟩⟩ ⟨(.e rfl), ⟨(.w rfl (.cons (.flat rfl) (.cons (.flat rfl) (.cons (.flat rfl) (.cons (.flat rfl) (.cons (.flat rfl) (.cons (.flat rfl) .nil))))))), trivial⟩⟩ rfl rfl⟩
            · replace H := cf hc H
              refine ev_skip ?_
              exact ⟨_, ⟨s5.2, H, rfl⟩, shift_mk ⟨⟨_, rfl, (.flat rfl)⟩, ⟨⟨_, rfl, (.flat rfl)⟩, ⟨⟨_, rfl, .rfl⟩, ⟨⟨_, rfl, (.flat rfl)⟩, ⟨⟨_, rfl, .rfl⟩, ⟨⟨_, rfl, .rfl⟩, ⟨⟨_, rfl, (.flat rfl)⟩, ⟨⟨_, rfl, (.flat rfl)⟩, ⟨⟨_, rfl, (.flat rfl)⟩, ⟨⟨_, rfl, .rfl⟩, ⟨⟨_, rfl, (.flat rfl)⟩, ⟨⟨_, rfl, (.flat rfl)⟩, trivial⟩⟩⟩⟩⟩⟩⟩⟩⟩⟩⟩⟩ ⟨(.e rfl), ⟨(.w rfl (.cons (.flat rfl) (.cons (.flat rfl) (.cons (.flat rfl) (.cons (.flat rfl) (.cons (.flat rfl) (.cons (.flat rfl) .nil))))))), trivial⟩⟩ rfl rfl⟩
      · replace H := forN_out hc w12 H
        refine ev_exit ?_
        refine ev_seq ?_
        refine ev_seq ?_
        refine ev_region ?_
        refine rq rfl rfl (q_move rfl) ?_
        refine rq rfl rfl (q_lss rfl rfl) ?_
        refine rq rfl rfl (q_move rfl) ?_
        refine rqc (l := []) ⟨⟨_, _, _, rfl, rfl, rfl, rfl⟩, rfl, fun hc => q_move rfl, trivial⟩ rfl ?_
        refine rqc (l := [81]) ⟨⟨_, _, _, rfl, rfl, rfl, rfl⟩, rfl, fun hc => q_geq rfl rfl, ⟨fun h => h, trivial⟩⟩ rfl ?_
        refine rq rfl rfl (q_pickb rfl rfl rfl PB.v (PB.c (fun hp => by rw [hp]; rfl))) ?_
        refine run_nil ?_
        refine ev_cond rfl (fun hc => ?_) (fun hc => ?_)
        · replace H := ct hc H
          refine ev_seq ?_
          refine ev_region ?_
          refine rq rfl rfl (q_move rfl) ?_
          refine rq rfl rfl (q_len_t rfl) ?_
          refine rq rfl rfl (q_eqi rfl rfl) ?_
          refine rq rfl rfl (q_move rfl) ?_
          refine rqc (l := []) ⟨⟨_, _, _, rfl, rfl, rfl, rfl⟩, rfl, fun hc => q_move rfl, trivial⟩ rfl ?_
          refine rqc (l := [88]) ⟨⟨_, _, _, rfl, rfl, rfl, rfl⟩, rfl, fun hc => q_len_t rfl, ⟨fun h => h, trivial⟩⟩ rfl ?_
          refine rqc (l := [89]) ⟨⟨_, _, _, rfl, rfl, rfl, rfl⟩, rfl, fun hc => q_eqi rfl rfl, ⟨fun h => h, trivial⟩⟩ rfl ?_
          refine rq rfl rfl (q_pickb rfl rfl rfl (PB.c (fun hp => hp)) PB.v) ?_
          refine rq rfl rfl (q_assign rfl) ?_
          refine run_nil ?_
          refine ev_ret ?_
          exact ret_ok [vb (bif ((x4.1.length : Nat) : Int) == 0 then ((x4.2.length : Nat) : Int) == 0 else false)] (congrArg (fun r : Bool => vb r) (Option.some.inj H)) rfl (.cons (.tmp rfl (.v _ _ (fun _ => rfl))) .nil)
        · replace H := cf hc H
          refine ev_skip ?_
          refine ev_seq ?_
          refine ev_region ?_
          refine rq rfl rfl (q_move rfl) ?_
          refine rq rfl rfl (q_move rfl) ?_
          refine rq rfl rfl (q_len_t rfl) ?_
          refine rq rfl rfl (q_eqi rfl rfl) ?_
          refine rq rfl rfl (q_move rfl) ?_
          refine rqc (l := []) ⟨⟨_, _, _, rfl, rfl, rfl, rfl⟩, rfl, fun hc => q_move rfl, trivial⟩ rfl ?_
          refine rqc (l := [97]) ⟨⟨_, _, _, rfl, rfl, rfl, rfl⟩, rfl, fun hc => q_len_t rfl, ⟨fun h => h, trivial⟩⟩ rfl ?_
          refine rqc (l := []) ⟨⟨_, _, _, rfl, rfl, rfl, rfl⟩, rfl, fun hc => q_move rfl, trivial⟩ rfl ?_
          refine rqc (l := [99]) ⟨⟨_, _, _, rfl, rfl, rfl, rfl⟩, rfl, fun hc => q_add rfl rfl, ⟨fun h => h, trivial⟩⟩ rfl ?_
          refine rqc (l := [98, 100]) ⟨⟨_, _, _, rfl, rfl, rfl, rfl⟩, rfl, fun hc => q_eqi rfl rfl, ⟨fun h => h, ⟨fun h => h, trivial⟩⟩⟩ rfl ?_
          refine rq rfl rfl (q_pickb rfl rfl rfl (PB.c (fun hp => hp)) PB.v) ?_
          refine rq rfl rfl (q_assign rfl) ?_
          refine run_nil ?_
          refine ev_ret ?_
          exact ret_ok [vb (bif s5.1 == ((x4.1.length : Nat) : Int) then ((x4.2.length : Nat) : Int) == (wr (s5.2 + 1)) else false)] (congrArg (fun r : Bool => vb r) (Option.some.inj H)) rfl (.cons (.tmp rfl (.v _ _ (fun _ => rfl))) .nil)
def slices_Equal_Point_m (a0 : List GPoint) (a1 : List GPoint) : Option Bool := bif ((a0.length : Nat) : Int) != ((a1.length : Nat) : Int) then (some false) else (forL a0 (fun (k3 : Nat) (x5 : GPoint) (s1 : Unit) loop2 => bd (idx a1 ((k3 : Nat) : Int)) fun x8 => bif !(GPoint.eqb x5 x8) then (some false) else (loop2 ())) (fun (s1 : Unit) => some true) ())
theorem slices_Equal_Point_c {a0 : List GPoint} {a1 : List GPoint} {r : Bool} (H : slices_Equal_Point_m a0 a1 = some r) : PureC Try.prog true 59 [V.l 2 (List.map GPoint.e a0), V.l 2 (List.map GPoint.e a1)] (vb r) := by
  unfold slices_Equal_Point_m at H
  refine pure_intro (N := 26) Try.func59 rfl rfl rfl rfl fun C hO => ?_
  refine ev_seq ?_
  refine ev_region ?_
  refine rq rfl rfl (q_assign rfl) ?_
  refine run_nil ?_
  refine ev_seq ?_
  refine ev_seq ?_
  refine ev_region ?_
  refine rq rfl rfl (q_move rfl) ?_
  refine rq rfl rfl (q_len_t rfl) ?_
  refine rq rfl rfl (q_move rfl) ?_
  refine rq rfl rfl (q_len_t rfl) ?_
  refine rq rfl rfl (q_nei rfl rfl) ?_
  refine run_nil ?_
  refine ev_cond rfl (fun hc => ?_) (fun hc => ?_)
  · replace H := ct hc H
    refine ev_seq ?_
    refine ev_region ?_
    refine rq rfl rfl (q_assign rfl) ?_
    refine run_nil ?_
    refine ev_ret ?_
    exact ret_ok [vb false] (congrArg (fun r : Bool => vb r) (Option.some.inj H)) rfl (.cons (.tmp rfl (.v _ _ (fun _ => rfl))) .nil)
  · replace H := cf hc H
    refine ev_skip ?_
    refine ev_seq ?_
    refine ev_seq ?_
    refine ev_region ?_
    refine rq rfl rfl (q_move rfl) ?_
    refine rq rfl rfl (q_len_t rfl) ?_
    refine rq rfl rfl (q_move rfl) ?_
    refine run_nil ?_
    refine ev_block ?_
    refine ev_len_l (s := 0) rfl fun w7 => ?_
    rw [List.length_map] at w7
    refine ev_forL H (fun k3 s1 σ' => σ' = mkS [(0, .v false (V.l 2 (List.map GPoint.e a0))), (1, .v false (V.l 2 (List.map GPoint.e a1))), (4, .v true (vb false)), (12, .v true (vi ((a0.length : Nat) : Int))), (13, .v true (vi ((k3 : Nat) : Int)))] [] [] (0, false)) ⟨_, rfl, shift_mk ⟨⟨_, rfl, .rfl⟩, ⟨⟨_, rfl, .rfl⟩, ⟨⟨_, rfl, (.flat rfl)⟩, ⟨⟨_, rfl, (.flat rfl)⟩, ⟨⟨_, rfl, .rfl⟩, trivial⟩⟩⟩⟩⟩ trivial rfl rfl⟩ ?_
    rintro k3 s1 _ rfl _ H
    refine ev_seq ?_
    refine ev_region ?_
    refine rq rfl rfl (q_lss rfl rfl) ?_
    refine run_nil ?_
    refine ev_seq ?_
    refine ev_cond rfl (fun hc => ?_) (fun hc => ?_)
    · obtain ⟨x5, w6, x5_g, H⟩ := forL_in hc H
      have x5_h : idx a0 ((k3 : Nat) : Int) = some x5 := by rw [idx_nat]; exact x5_g
      refine ev_skip ?_
      refine ev_seq ?_
      refine ev_block ?_
      refine ev_seq ?_
      refine ev_region ?_
      refine rq rfl rfl (q_move rfl) ?_
      refine rq rfl rfl (q_assign rfl) ?_
      refine run_nil ?_
      refine ev_seq ?_
      obtain ⟨x8, x8_h, H⟩ := bd_inv H
      refine ev_draw rfl (by kernel_rfl) ?_
      refine qq rfl rfl (q_move rfl) ?_
      refine qq rfl rfl (q_move rfl) ?_
      refine qq rfl rfl (q_idx_l rfl rfl (idx_inv x5_h).1 (map_get (idx_inv x5_h).2.1) rfl) ?_
      refine qq rfl rfl (q_load_e rfl rfl rfl) ?_
      refine qq rfl rfl (q_move rfl) ?_
      refine qq rfl rfl (q_move rfl) ?_
      refine qq rfl rfl (q_idx_l rfl rfl (idx_inv x8_h).1 (map_get (idx_inv x8_h).2.1) rfl) ?_
      refine qq rfl rfl (q_load_e rfl rfl rfl) ?_
      refine qq rfl rfl (q_nes rfl rfl (r := GPoint.eqb x5 x8) rfl) ?_
      refine qn ?_
      refine ev_cond rfl (fun hc => ?_) (fun hc => ?_)
      · replace H := ct hc H
        refine ev_seq ?_
        refine ev_region ?_
        refine rq rfl rfl (q_assign rfl) ?_
        refine run_nil ?_
        refine ev_ret ?_
        exact ret_ok [vb false] (congrArg (fun r : Bool => vb r) (Option.some.inj H)) rfl (.cons (.tmp rfl (.v _ _ (fun _ => rfl))) .nil)
      · replace H := cf hc H
        refine ev_skip ?_
        refine ev_region ?_
        refine rq rfl rfl (q_add rfl rfl) ?_
        refine rq rfl rfl (q_move rfl) ?_
        refine run_nil ?_
        exact ⟨_, _, w6, H, rfl, shift_mk ⟨⟨_, rfl, .rfl⟩, ⟨⟨_, rfl, .rfl⟩, ⟨⟨_, rfl, (.flat rfl)⟩, ⟨⟨_, rfl, (.flat rfl)⟩, ⟨⟨_, rfl, (.eq (congrArg (fun n => D.v true (vi n)) (wrap_succ w6 w7)))⟩, trivial⟩⟩⟩⟩⟩ trivial rfl rfl⟩
    · replace H := forL_out hc H
      refine ev_exit ?_
      refine ev_seq ?_
      refine ev_region ?_
      refine rq rfl rfl (q_assign rfl) ?_
      refine run_nil ?_
      refine ev_ret ?_
      exact ret_ok [vb true] (congrArg (fun r : Bool => vb r) (Option.some.inj H)) rfl (.cons (.tmp rfl (.v _ _ (fun _ => rfl))) .nil)
def facts_Alike_m (a0 : List GFact) (a1 : List GRead) (a2 : Int) (a3 : Int) : Option Bool := forL a1 (fun (k3 : Nat) (x5 : GRead) (s1 : Unit) loop2 => bd (facts_Points_m a0 x5.key x5.from_ x5.to_ a2) fun x9 => bd (facts_Points_m a0 x5.key x5.from_ x5.to_ a3) fun x10 => bd (slices_Equal_Point_m x9 x10) fun x11 => bif !x11 then (some false) else (loop2 ())) (fun (s1 : Unit) => some true) ()
theorem facts_Alike_c {a0 : List GFact} {a1 : List GRead} {a2 : Int} {a3 : Int} {r : Bool} (H : facts_Alike_m a0 a1 a2 a3 = some r) : PureC Try.prog true 29 [V.l 8 (List.map GFact.e a0), V.l 5 (List.map GRead.e a1), vi a2, vi a3] (vb r) := by
  unfold facts_Alike_m at H
  refine pure_intro (N := 38) Try.func29 rfl rfl rfl rfl fun C hO => ?_
  refine ev_shift (shift_mk (fs := [(0, .v false (V.l 8 (List.map GFact.e a0))), (1, .v false (V.l 5 (List.map GRead.e a1))), (2, .v true (vi a2)), (3, .v true (vi a3))]) (es := []) ⟨⟨_, rfl, .rfl⟩, ⟨⟨_, rfl, .rfl⟩, ⟨⟨_, rfl, (.flat rfl)⟩, ⟨⟨_, rfl, (.flat rfl)⟩, trivial⟩⟩⟩⟩ trivial rfl rfl) ?_
  refine ev_seq ?_
  refine ev_region ?_
  refine rq rfl rfl (q_assign rfl) ?_
  refine run_nil ?_
  refine ev_seq ?_
  refine ev_seq ?_
  refine ev_region ?_
  refine rq rfl rfl (q_move rfl) ?_
  refine rq rfl rfl (q_len_t rfl) ?_
  refine rq rfl rfl (q_move rfl) ?_
  refine run_nil ?_
  refine ev_block ?_
  refine ev_len_l (s := 11) rfl fun w7 => ?_
  rw [List.length_map] at w7
  refine ev_forL H (fun k3 s1 σ' => σ' = mkS [(0, .v false (V.l 8 (List.map GFact.e a0))), (2, .v true (vi a2)), (3, .v true (vi a3)), (8, .v true (vb false)), (11, .v false (V.l 5 (List.map GRead.e a1))), (12, .v true (vi ((a1.length : Nat) : Int))), (13, .v true (vi ((k3 : Nat) : Int)))] [] [] (0, false)) ⟨_, rfl, shift_mk ⟨⟨_, rfl, .rfl⟩, ⟨⟨_, rfl, (.flat rfl)⟩, ⟨⟨_, rfl, (.flat rfl)⟩, ⟨⟨_, rfl, (.flat rfl)⟩, ⟨⟨_, rfl, .rfl⟩, ⟨⟨_, rfl, (.flat rfl)⟩, ⟨⟨_, rfl, .rfl⟩, trivial⟩⟩⟩⟩⟩⟩⟩ trivial rfl rfl⟩ ?_
  rintro k3 s1 _ rfl _ H
  refine ev_seq ?_
  refine ev_region ?_
  refine rq rfl rfl (q_lss rfl rfl) ?_
  refine run_nil ?_
  refine ev_seq ?_
  refine ev_cond rfl (fun hc => ?_) (fun hc => ?_)
  · obtain ⟨x5, w6, x5_g, H⟩ := forL_in hc H
    have x5_h : idx a1 ((k3 : Nat) : Int) = some x5 := by rw [idx_nat]; exact x5_g
    refine ev_skip ?_
    refine ev_seq ?_
    refine ev_block ?_
    refine ev_seq ?_
    refine ev_region ?_
    refine rq rfl rfl (q_idx_l rfl rfl (idx_inv x5_h).1 (map_get (idx_inv x5_h).2.1) rfl) ?_
    refine rq rfl rfl (q_load_e rfl rfl rfl) ?_
    refine re rfl (e_alloc 10 0 rfl rfl) ?_; rintro _ ⟨b8, rfl⟩
    refine re rfl (e_store rfl rfl rfl rfl rfl (Nat.le_of_ble_eq_true rfl) rfl) ?_; rintro _ rfl
    refine run_nil ?_
    refine ev_seq ?_
    obtain ⟨x9, x9_h, H⟩ := bd_inv H
    obtain ⟨x10, x10_h, H⟩ := bd_inv H
    obtain ⟨x11, x11_h, H⟩ := bd_inv H
    refine ev_draw rfl (by kernel_rfl) ?_
    refine qq rfl rfl (q_move rfl) ?_
    refine qq rfl rfl (q_fld_p rfl) ?_
    refine qq rfl rfl (q_loadN rfl rfl rfl rfl) ?_
    refine qq rfl rfl (q_fld_p rfl) ?_
    refine qq rfl rfl (q_load1 rfl rfl rfl) ?_
    refine qq rfl rfl (q_fld_p rfl) ?_
    refine qq rfl rfl (q_load1 rfl rfl rfl) ?_
    refine qq rfl rfl (q_move rfl) ?_
    refine qq rfl rfl (q_call rfl (.v _ _ (fun e => nomatch e)) (.v rfl (.v rfl (.v rfl (.v rfl (.v rfl ArgsOk.nil))))) inferInstance (facts_Points_c  x9_h)) ?_
    refine qq rfl rfl (q_move rfl) ?_
    refine qq rfl rfl (q_fld_p rfl) ?_
    refine qq rfl rfl (q_loadN rfl rfl rfl rfl) ?_
    refine qq rfl rfl (q_fld_p rfl) ?_
    refine qq rfl rfl (q_load1 rfl rfl rfl) ?_
    refine qq rfl rfl (q_fld_p rfl) ?_
    refine qq rfl rfl (q_load1 rfl rfl rfl) ?_
    refine qq rfl rfl (q_move rfl) ?_
    refine qq rfl rfl (q_call rfl (.v _ _ (fun e => nomatch e)) (.v rfl (.v rfl (.v rfl (.v rfl (.v rfl ArgsOk.nil))))) inferInstance (facts_Points_c  x10_h)) ?_
    refine qq rfl rfl (q_call rfl (.v _ _ (fun e => nomatch e)) (.v rfl (.v rfl ArgsOk.nil)) inferInstance (slices_Equal_Point_c  x11_h)) ?_
    refine qq rfl rfl (q_not rfl) ?_
    refine qn ?_
    refine ev_cond rfl (fun hc => ?_) (fun hc => ?_)
    · replace H := ct hc H
      refine ev_seq ?_
      refine ev_region ?_
      refine rq rfl rfl (q_assign rfl) ?_
      refine run_nil ?_
      refine ev_ret ?_
      exact ret_ok [vb false] (congrArg (fun r : Bool => vb r) (Option.some.inj H)) rfl (.cons (.tmp rfl (.v _ _ (fun _ => rfl))) .nil)
    · replace H := cf hc H
      refine ev_skip ?_
      refine ev_region ?_
      refine rq rfl rfl (q_add rfl rfl) ?_
      refine rq rfl rfl (q_move rfl) ?_
      refine run_nil ?_
      exact ⟨_, _, w6, H, rfl, shift_mk ⟨⟨_, rfl, .rfl⟩, ⟨⟨_, rfl, (.flat rfl)⟩, ⟨⟨_, rfl, (.flat rfl)⟩, ⟨⟨_, rfl, (.flat rfl)⟩, ⟨⟨_, rfl, .rfl⟩, ⟨⟨_, rfl, (.flat rfl)⟩, ⟨⟨_, rfl, (.eq (congrArg (fun n => D.v true (vi n)) (wrap_succ w6 w7)))⟩, trivial⟩⟩⟩⟩⟩⟩⟩ trivial rfl rfl⟩
  · replace H := forL_out hc H
    refine ev_exit ?_
    refine ev_seq ?_
    refine ev_region ?_
    refine rq rfl rfl (q_assign rfl) ?_
    refine run_nil ?_
    refine ev_ret ?_
    exact ret_ok [vb true] (congrArg (fun r : Bool => vb r) (Option.some.inj H)) rfl (.cons (.tmp rfl (.v _ _ (fun _ => rfl))) .nil)
def backflushlaw18_StockReads_m (a0 : GWorld) (a1 : GLine) (a2 : Int) (a3 : Int) (a4 : Int) (a5 : Int) : Option Bool := bd (backflushlaw18_sane_m) fun x3 => bif !x3 then (some false) else (bd (backflushref18_Few_m a0) fun x4 => bif !x4 then (some true) else (bd (stock_Lot_m a0 a2 a3 a4) fun x5 => jn (fun (_ : Unit) => bd (stock_Lots_m a0 a3 a4) fun x8 => jn (fun (_ : Unit) => bd (stock_Usable_m a0 a1 a3 a4) fun x10 => bd (facts_Alike_m a0.facts x10.2 a4 a5) fun x11 => bif !x11 then (some true) else (bd (stock_Usable_m a0 a1 a3 a5) fun x12 => bd (backflushref18_Same_m x10.1 x12.1) fun x13 => bdc x13 (backflushref04_SameReads_m x10.2 x12.2) fun x14 => some (bif x13 then x14 else false))) fun j9 => bd (facts_Alike_m a0.facts x8.2 a4 a5) fun x15 => bif x15 then (bd (stock_Lots_m a0 a3 a5) fun x16 => bd (backflushref18_Same_m x8.1 x16.1) fun x17 => bdc (!(!x17)) (backflushref04_SameReads_m x8.2 x16.2) fun x18 => bif bif !x17 then true else !x18 then (some false) else (j9 ())) else (j9 ())) fun j7 => bd (facts_Alike_m a0.facts x5.2.1 a4 a5) fun x19 => bif x19 then (bd (stock_Lot_m a0 a2 a3 a5) fun x20 => bdc (!(bif !(GLot.eqb x5.1 x20.1) then true else x5.2.2 != x20.2.2)) (backflushref04_SameReads_m x5.2.1 x20.2.1) fun x22 => bif bif bif !(GLot.eqb x5.1 x20.1) then true else x5.2.2 != x20.2.2 then true else !x22 then (some false) else (j7 ())) else (j7 ())))
theorem backflushlaw18_StockReads_c {a0 : GWorld} {a1 : GLine} {a2 : Int} {a3 : Int} {a4 : Int} {a5 : Int} {r : Bool} (H : backflushlaw18_StockReads_m a0 a1 a2 a3 a4 a5 = some r) : PureC Try.prog true 13 [GWorld.e a0, GLine.e a1, vi a2, vi a3, vi a4, vi a5] (vb r) := by
  unfold backflushlaw18_StockReads_m at H
  refine pure_intro (N := 131) Try.func13 rfl rfl rfl rfl fun C hO => ?_
  refine ev_shift (shift_mk (fs := [(0, .v false (GWorld.e a0)), (1, .v true (GLine.e a1)), (2, .v true (vi a2)), (3, .v true (vi a3)), (4, .v true (vi a4)), (5, .v true (vi a5))]) (es := []) ⟨⟨_, rfl, .rfl⟩, ⟨⟨_, rfl, (.flat rfl)⟩, ⟨⟨_, rfl, (.flat rfl)⟩, ⟨⟨_, rfl, (.flat rfl)⟩, ⟨⟨_, rfl, (.flat rfl)⟩, ⟨⟨_, rfl, (.flat rfl)⟩, trivial⟩⟩⟩⟩⟩⟩ trivial rfl rfl) ?_
  refine ev_seq ?_
  refine ev_region ?_
  refine re rfl (e_box 6 0 rfl rfl rfl) ?_; rintro _ ⟨b1, rfl⟩
  refine re rfl (e_box 7 0 rfl rfl rfl) ?_; rintro _ ⟨b2, rfl⟩
  refine rq rfl rfl (q_assign rfl) ?_
  refine run_nil ?_
  refine ev_seq ?_
  refine ev_seq ?_
  refine ev_region ?_
  obtain ⟨x3, x3_h, H⟩ := bd_inv H
  refine rq rfl rfl (q_call rfl (.v _ _ (fun e => nomatch e)) ArgsOk.nil inferInstance (backflushlaw18_sane_c  x3_h)) ?_
  refine rq rfl rfl (q_not rfl) ?_
  refine run_nil ?_
  refine ev_cond rfl (fun hc => ?_) (fun hc => ?_)
  · replace H := ct hc H
    refine ev_seq ?_
    refine ev_region ?_
    refine rq rfl rfl (q_assign rfl) ?_
    refine run_nil ?_
    refine ev_ret ?_
    exact ret_ok [vb false] (congrArg (fun r : Bool => vb r) (Option.some.inj H)) rfl (.cons (.tmp rfl (.v _ _ (fun _ => rfl))) .nil)
  · replace H := cf hc H
    refine ev_skip ?_
    refine ev_seq ?_
    refine ev_seq ?_
    refine ev_region ?_
    refine rq rfl rfl (q_loadN rfl rfl rfl rfl) ?_
    obtain ⟨x4, x4_h, H⟩ := bd_inv H
    refine rq rfl rfl (q_call rfl (.v _ _ (fun e => nomatch e)) (.v rfl ArgsOk.nil) inferInstance (backflushref18_Few_c  x4_h)) ?_
    refine rq rfl rfl (q_not rfl) ?_
    refine run_nil ?_
    refine ev_cond rfl (fun hc => ?_) (fun hc => ?_)
    · replace H := ct hc H
      refine ev_seq ?_
      refine ev_region ?_
      refine rq rfl rfl (q_assign rfl) ?_
      refine run_nil ?_
      refine ev_ret ?_
      exact ret_ok [vb true] (congrArg (fun r : Bool => vb r) (Option.some.inj H)) rfl (.cons (.tmp rfl (.v _ _ (fun _ => rfl))) .nil)
    · replace H := cf hc H
      refine ev_skip ?_
      refine ev_seq ?_
      refine ev_region ?_
      refine rq rfl rfl (q_loadN rfl rfl rfl rfl) ?_
      refine rq rfl rfl (q_move rfl) ?_
      refine rq rfl rfl (q_move rfl) ?_
      refine rq rfl rfl (q_move rfl) ?_
      obtain ⟨x5, x5_h, H⟩ := bd_inv H
      refine rq rfl rfl (q_call rfl (.v _ _ (fun e => nomatch e)) (.v rfl (.v rfl (.v rfl (.v rfl ArgsOk.nil)))) inferInstance (stock_Lot_c  x5_h)) ?_
      refine rq rfl rfl (q_move rfl) ?_
      refine rq rfl rfl (q_extract rfl rfl) ?_
      refine rq rfl rfl (q_extract rfl rfl) ?_
      refine rq rfl rfl (q_extract rfl rfl) ?_
      refine re rfl (e_alloc 13 0 rfl rfl) ?_; rintro _ ⟨b6, rfl⟩
      refine re rfl (e_store rfl rfl rfl rfl rfl (Nat.le_of_ble_eq_true rfl) rfl) ?_; rintro _ rfl
      refine rq rfl rfl (q_assign rfl) ?_
      refine rq rfl rfl (q_assign rfl) ?_
      refine run_nil ?_
      obtain ⟨j7, j7_e, H⟩ := jn_inv H
      refine ev_join (fun σ' => j7 () = some r ∧ σ' = mkS [(3, .v true (vi a3)), (4, .v true (vi a4)), (5, .v true (vi a5)), (6, .p 6 0 b1 0), (7, .p 7 0 b2 0), (12, .v true (vb false))] [.e 6 0 (some (b1, 11)) (.row 38 [.v false (V.l 8 (List.map GUnit.e a0.tables.source.units)), .v false (V.l 6 (List.map GItem.e a0.tables.source.items)), .v false (V.l 1 (List.map V.s a0.tables.source.plants)), .v false (V.l 4 (List.map GMachine.e a0.tables.source.machines)), .v false (V.l 2 (List.map GOption.e a0.tables.source.options)), .v false (V.l 1 (List.map (fun l => V.l 4 (List.map GCond.e l)) a0.tables.source.forbids)), .v false (V.l 17 (List.map GRecipe.e a0.tables.source.recipes)), .v false (V.l 4 (List.map GSwap.e a0.tables.source.swaps)), .v false (V.l 1 (List.map vi a0.tables.levels)), .v false (V.l 1 (List.map (fun l => V.l 6 (List.map GInst.e l)) a0.tables.codes)), .v false (V.l 8 (List.map GFact.e a0.facts))]), .e 7 0 (some (b2, 3)) (.row 77 [.v true (vi a1.item), .v true (vi a1.plant), .v true (vi a1.config)])] [] (0, false)) ?_ ?_
      · rintro _ ⟨H, rfl⟩
        subst j7_e
        refine ev_seq ?_
        refine ev_region ?_
        refine rq rfl rfl (q_loadN rfl rfl rfl rfl) ?_
        refine rq rfl rfl (q_move rfl) ?_
        refine rq rfl rfl (q_move rfl) ?_
        obtain ⟨x8, x8_h, H⟩ := bd_inv H
        refine rq rfl rfl (q_call rfl (.v _ _ (fun e => nomatch e)) (.v rfl (.v rfl (.v rfl ArgsOk.nil))) inferInstance (stock_Lots_c  x8_h)) ?_
        refine rq rfl rfl (q_move rfl) ?_
        refine rq rfl rfl (q_extract rfl rfl) ?_
        refine rq rfl rfl (q_extract rfl rfl) ?_
        refine rq rfl rfl (q_assign rfl) ?_
        refine rq rfl rfl (q_assign rfl) ?_
        refine run_nil ?_
        obtain ⟨j9, j9_e, H⟩ := jn_inv H
        refine ev_join (fun σ' => j9 () = some r ∧ σ' = mkS [(3, .v true (vi a3)), (4, .v true (vi a4)), (5, .v true (vi a5)), (6, .p 6 0 b1 0), (7, .p 7 0 b2 0), (12, .v true (vb false))] [.e 6 0 (some (b1, 11)) (.row 38 [.v false (V.l 8 (List.map GUnit.e a0.tables.source.units)), .v false (V.l 6 (List.map GItem.e a0.tables.source.items)), .v false (V.l 1 (List.map V.s a0.tables.source.plants)), .v false (V.l 4 (List.map GMachine.e a0.tables.source.machines)), .v false (V.l 2 (List.map GOption.e a0.tables.source.options)), .v false (V.l 1 (List.map (fun l => V.l 4 (List.map GCond.e l)) a0.tables.source.forbids)), .v false (V.l 17 (List.map GRecipe.e a0.tables.source.recipes)), .v false (V.l 4 (List.map GSwap.e a0.tables.source.swaps)), .v false (V.l 1 (List.map vi a0.tables.levels)), .v false (V.l 1 (List.map (fun l => V.l 6 (List.map GInst.e l)) a0.tables.codes)), .v false (V.l 8 (List.map GFact.e a0.facts))]), .e 7 0 (some (b2, 3)) (.row 77 [.v true (vi a1.item), .v true (vi a1.plant), .v true (vi a1.config)])] [] (0, false)) ?_ ?_
        · rintro _ ⟨H, rfl⟩
          subst j9_e
          refine ev_seq ?_
          refine ev_region ?_
          refine rq rfl rfl (q_loadN rfl rfl rfl rfl) ?_
          refine rq rfl rfl (q_loadN rfl rfl rfl rfl) ?_
          refine rq rfl rfl (q_move rfl) ?_
          refine rq rfl rfl (q_move rfl) ?_
          obtain ⟨x10, x10_h, H⟩ := bd_inv H
          refine rq rfl rfl (q_call rfl (.v _ _ (fun e => nomatch e)) (.v rfl (.v rfl (.v rfl (.v rfl ArgsOk.nil)))) inferInstance (stock_Usable_c  x10_h)) ?_
          refine rq rfl rfl (q_move rfl) ?_
          refine rq rfl rfl (q_extract rfl rfl) ?_
          refine rq rfl rfl (q_extract rfl rfl) ?_
          refine rq rfl rfl (q_assign rfl) ?_
          refine rq rfl rfl (q_assign rfl) ?_
          refine run_nil ?_
          refine ev_seq ?_
          refine ev_seq ?_
          refine ev_region ?_
          refine rq rfl rfl (q_fld_p rfl) ?_
          refine rq rfl rfl (q_load1 rfl rfl rfl) ?_
          refine rq rfl rfl (q_move rfl) ?_
          refine rq rfl rfl (q_move rfl) ?_
          refine rq rfl rfl (q_move rfl) ?_
          obtain ⟨x11, x11_h, H⟩ := bd_inv H
          refine rq rfl rfl (q_call rfl (.v _ _ (fun e => nomatch e)) (.v rfl (.v rfl (.v rfl (.v rfl ArgsOk.nil)))) inferInstance (facts_Alike_c  x11_h)) ?_
          refine rq rfl rfl (q_not rfl) ?_
          refine run_nil ?_
          refine ev_cond rfl (fun hc => ?_) (fun hc => ?_)
          · replace H := ct hc H
            refine ev_seq ?_
            refine ev_region ?_
            refine rq rfl rfl (q_assign rfl) ?_
            refine run_nil ?_
            refine ev_ret ?_
            exact ret_ok [vb true] (congrArg (fun r : Bool => vb r) (Option.some.inj H)) rfl (.cons (.tmp rfl (.v _ _ (fun _ => rfl))) .nil)
          · replace H := cf hc H
            refine ev_skip ?_
            refine ev_seq ?_
            refine ev_region ?_
            refine rq rfl rfl (q_loadN rfl rfl rfl rfl) ?_
            refine rq rfl rfl (q_loadN rfl rfl rfl rfl) ?_
            refine rq rfl rfl (q_move rfl) ?_
            refine rq rfl rfl (q_move rfl) ?_
            obtain ⟨x12, x12_h, H⟩ := bd_inv H
            refine rq rfl rfl (q_call rfl (.v _ _ (fun e => nomatch e)) (.v rfl (.v rfl (.v rfl (.v rfl ArgsOk.nil)))) inferInstance (stock_Usable_c  x12_h)) ?_
            refine rq rfl rfl (q_move rfl) ?_
            refine rq rfl rfl (q_extract rfl rfl) ?_
            refine rq rfl rfl (q_extract rfl rfl) ?_
            refine rq rfl rfl (q_assign rfl) ?_
            refine rq rfl rfl (q_assign rfl) ?_
            refine run_nil ?_
            refine ev_seq ?_
            refine ev_region ?_
            refine rq rfl rfl (q_move rfl) ?_
            refine rq rfl rfl (q_move rfl) ?_
            obtain ⟨x13, x13_h, H⟩ := bd_inv H
            refine rq rfl rfl (q_call rfl (.v _ _ (fun e => nomatch e)) (.v rfl (.v rfl ArgsOk.nil)) inferInstance (backflushref18_Same_c  x13_h)) ?_
            refine rq rfl rfl (q_move rfl) ?_
            refine rqc (l := []) ⟨⟨_, _, _, rfl, rfl, rfl, rfl⟩, rfl, fun hc => q_move rfl, trivial⟩ rfl ?_
            refine rqc (l := []) ⟨⟨_, _, _, rfl, rfl, rfl, rfl⟩, rfl, fun hc => q_move rfl, trivial⟩ rfl ?_
            obtain ⟨x14, x14_h, _, H⟩ := bdc_inv H
            refine rqc (l := [127, 128]) ⟨⟨_, _, _, rfl, rfl, rfl, rfl⟩, rfl, fun hc => q_call rfl (.v _ _ (fun e => nomatch e)) (.v rfl (.v rfl ArgsOk.nil)) inferInstance (backflushref04_SameReads_c  (x14_h hc)), ⟨fun h => h, ⟨fun h => h, trivial⟩⟩⟩ rfl ?_
            refine rq rfl rfl (q_pickb rfl rfl rfl (PB.c (fun hp => hp)) PB.v) ?_
            refine rq rfl rfl (q_assign rfl) ?_
            refine run_nil ?_
            refine ev_ret ?_
            exact ret_ok [vb (bif x13 then x14 else false)] (congrArg (fun r : Bool => vb r) (Option.some.inj H)) rfl (.cons (.tmp rfl (.v _ _ (fun _ => rfl))) .nil)
        · clear j9_e
          refine ev_seq ?_
          refine ev_region ?_
          refine rq rfl rfl (q_fld_p rfl) ?_
          refine rq rfl rfl (q_load1 rfl rfl rfl) ?_
          refine rq rfl rfl (q_move rfl) ?_
          refine rq rfl rfl (q_move rfl) ?_
          refine rq rfl rfl (q_move rfl) ?_
          obtain ⟨x15, x15_h, H⟩ := bd_inv H
          refine rq rfl rfl (q_call rfl (.v _ _ (fun e => nomatch e)) (.v rfl (.v rfl (.v rfl (.v rfl ArgsOk.nil)))) inferInstance (facts_Alike_c  x15_h)) ?_
          refine run_nil ?_
          refine ev_cond rfl (fun hc => ?_) (fun hc => ?_)
          · replace H := ct hc H
            refine ev_seq ?_
            refine ev_region ?_
            refine rq rfl rfl (q_loadN rfl rfl rfl rfl) ?_
            refine rq rfl rfl (q_move rfl) ?_
            refine rq rfl rfl (q_move rfl) ?_
            obtain ⟨x16, x16_h, H⟩ := bd_inv H
            refine rq rfl rfl (q_call rfl (.v _ _ (fun e => nomatch e)) (.v rfl (.v rfl (.v rfl ArgsOk.nil))) inferInstance (stock_Lots_c  x16_h)) ?_
            refine rq rfl rfl (q_move rfl) ?_
            refine rq rfl rfl (q_extract rfl rfl) ?_
            refine rq rfl rfl (q_extract rfl rfl) ?_
            refine rq rfl rfl (q_assign rfl) ?_
            refine rq rfl rfl (q_assign rfl) ?_
            refine run_nil ?_
            refine ev_seq ?_
            refine ev_region ?_
            refine rq rfl rfl (q_move rfl) ?_
            refine rq rfl rfl (q_move rfl) ?_
            obtain ⟨x17, x17_h, H⟩ := bd_inv H
            refine rq rfl rfl (q_call rfl (.v _ _ (fun e => nomatch e)) (.v rfl (.v rfl ArgsOk.nil)) inferInstance (backflushref18_Same_c  x17_h)) ?_
            refine rq rfl rfl (q_not rfl) ?_
            refine rq rfl rfl (q_move rfl) ?_
            refine rqc (l := []) ⟨⟨_, _, _, rfl, rfl, rfl, rfl⟩, rfl, fun hc => q_move rfl, trivial⟩ rfl ?_
            refine rqc (l := []) ⟨⟨_, _, _, rfl, rfl, rfl, rfl⟩, rfl, fun hc => q_move rfl, trivial⟩ rfl ?_
            obtain ⟨x18, x18_h, _, H⟩ := bdc_inv H
            refine rqc (l := [95, 96]) ⟨⟨_, _, _, rfl, rfl, rfl, rfl⟩, rfl, fun hc => q_call rfl (.v _ _ (fun e => nomatch e)) (.v rfl (.v rfl ArgsOk.nil)) inferInstance (backflushref04_SameReads_c  (x18_h hc)), ⟨fun h => h, ⟨fun h => h, trivial⟩⟩⟩ rfl ?_
            refine rqc (l := [97]) ⟨⟨_, _, _, rfl, rfl, rfl, rfl⟩, rfl, fun hc => q_not rfl, ⟨fun h => h, trivial⟩⟩ rfl ?_
            refine rq rfl rfl (q_pickb rfl rfl rfl PB.v (PB.c (fun hp => by rw [hp]; rfl))) ?_
            refine run_nil ?_
            refine ev_cond rfl (fun hc => ?_) (fun hc => ?_)
            · replace H := ct hc H
              refine ev_seq ?_
              refine ev_region ?_
              refine rq rfl rfl (q_assign rfl) ?_
              refine run_nil ?_
              refine ev_ret ?_
              exact ret_ok [vb false] (congrArg (fun r : Bool => vb r) (Option.some.inj H)) rfl (.cons (.tmp rfl (.v _ _ (fun _ => rfl))) .nil)
            · replace H := cf hc H
              refine ev_skip ?_
              exact ⟨_, ⟨H, rfl⟩, shift_mk ⟨⟨_, rfl, (.flat rfl)⟩, ⟨⟨_, rfl, (.flat rfl)⟩, ⟨⟨_, rfl, (.flat rfl)⟩, ⟨⟨_, rfl, .rfl⟩, ⟨⟨_, rfl, .rfl⟩, ⟨⟨_, rfl, (.flat rfl)⟩, trivial⟩⟩⟩⟩⟩⟩ ⟨(.e rfl), ⟨(.w rfl (.cons (.flat rfl) (.cons (.flat rfl) (.cons (.flat rfl) .nil)))), trivial⟩⟩ rfl rfl⟩
          · replace H := cf hc H
            refine ev_skip ?_
            exact ⟨_, ⟨H, rfl⟩, shift_mk ⟨⟨_, rfl, (.flat rfl)⟩, ⟨⟨_, rfl, (.flat rfl)⟩, ⟨⟨_, rfl, (.flat rfl)⟩, ⟨⟨_, rfl, .rfl⟩, ⟨⟨_, rfl, .rfl⟩, ⟨⟨_, rfl, (.flat rfl)⟩, trivial⟩⟩⟩⟩⟩⟩ ⟨(.e rfl), ⟨(.w rfl (.cons (.flat rfl) (.cons (.flat rfl) (.cons (.flat rfl) .nil)))), trivial⟩⟩ rfl rfl⟩
      · clear j7_e
        refine ev_seq ?_
        refine ev_region ?_
        refine rq rfl rfl (q_fld_p rfl) ?_
        refine rq rfl rfl (q_load1 rfl rfl rfl) ?_
        refine rq rfl rfl (q_move rfl) ?_
        refine rq rfl rfl (q_move rfl) ?_
        refine rq rfl rfl (q_move rfl) ?_
        obtain ⟨x19, x19_h, H⟩ := bd_inv H
        refine rq rfl rfl (q_call rfl (.v _ _ (fun e => nomatch e)) (.v rfl (.v rfl (.v rfl (.v rfl ArgsOk.nil)))) inferInstance (facts_Alike_c  x19_h)) ?_
        refine run_nil ?_
        refine ev_cond rfl (fun hc => ?_) (fun hc => ?_)
        · replace H := ct hc H
          refine ev_seq ?_
          refine ev_region ?_
          refine rq rfl rfl (q_loadN rfl rfl rfl rfl) ?_
          refine rq rfl rfl (q_move rfl) ?_
          refine rq rfl rfl (q_move rfl) ?_
          refine rq rfl rfl (q_move rfl) ?_
          obtain ⟨x20, x20_h, H⟩ := bd_inv H
          refine rq rfl rfl (q_call rfl (.v _ _ (fun e => nomatch e)) (.v rfl (.v rfl (.v rfl (.v rfl ArgsOk.nil)))) inferInstance (stock_Lot_c  x20_h)) ?_
          refine rq rfl rfl (q_move rfl) ?_
          refine rq rfl rfl (q_extract rfl rfl) ?_
          refine rq rfl rfl (q_extract rfl rfl) ?_
          refine rq rfl rfl (q_extract rfl rfl) ?_
          refine re rfl (e_alloc 16 0 rfl rfl) ?_; rintro _ ⟨b21, rfl⟩
          refine re rfl (e_store rfl rfl rfl rfl rfl (Nat.le_of_ble_eq_true rfl) rfl) ?_; rintro _ rfl
          refine rq rfl rfl (q_assign rfl) ?_
          refine rq rfl rfl (q_assign rfl) ?_
          refine run_nil ?_
          refine ev_seq ?_
          refine ev_region ?_
          refine rq rfl rfl (q_loadN rfl rfl rfl rfl) ?_
          refine rq rfl rfl (q_loadN rfl rfl rfl rfl) ?_
          refine rq rfl rfl (q_nes rfl rfl (r := GLot.eqb x5.1 x20.1) rfl) ?_
          refine rq rfl rfl (q_move rfl) ?_
          refine rqc (l := []) ⟨⟨_, _, _, rfl, rfl, rfl, rfl⟩, rfl, fun hc => q_move rfl, trivial⟩ rfl ?_
          refine rqc (l := []) ⟨⟨_, _, _, rfl, rfl, rfl, rfl⟩, rfl, fun hc => q_move rfl, trivial⟩ rfl ?_
          refine rqc (l := [60, 61]) ⟨⟨_, _, _, rfl, rfl, rfl, rfl⟩, rfl, fun hc => q_neb rfl rfl, ⟨fun h => h, ⟨fun h => h, trivial⟩⟩⟩ rfl ?_
          refine rq rfl rfl (q_pickb rfl rfl rfl PB.v (PB.c (fun hp => by rw [hp]; rfl))) ?_
          refine rq rfl rfl (q_move rfl) ?_
          refine rqc (l := []) ⟨⟨_, _, _, rfl, rfl, rfl, rfl⟩, rfl, fun hc => q_move rfl, trivial⟩ rfl ?_
          refine rqc (l := []) ⟨⟨_, _, _, rfl, rfl, rfl, rfl⟩, rfl, fun hc => q_move rfl, trivial⟩ rfl ?_
          obtain ⟨x22, x22_h, _, H⟩ := bdc_inv H
          refine rqc (l := [65, 66]) ⟨⟨_, _, _, rfl, rfl, rfl, rfl⟩, rfl, fun hc => q_call rfl (.v _ _ (fun e => nomatch e)) (.v rfl (.v rfl ArgsOk.nil)) inferInstance (backflushref04_SameReads_c  (x22_h hc)), ⟨fun h => h, ⟨fun h => h, trivial⟩⟩⟩ rfl ?_
          refine rqc (l := [67]) ⟨⟨_, _, _, rfl, rfl, rfl, rfl⟩, rfl, fun hc => q_not rfl, ⟨fun h => h, trivial⟩⟩ rfl ?_
          refine rq rfl rfl (q_pickb rfl rfl rfl PB.v (PB.c (fun hp => by rw [hp]; rfl))) ?_
          refine run_nil ?_
          refine ev_cond rfl (fun hc => ?_) (fun hc => ?_)
          · replace H := ct hc H
            refine ev_seq ?_
            refine ev_region ?_
            refine rq rfl rfl (q_assign rfl) ?_
            refine run_nil ?_
            refine ev_ret ?_
            exact ret_ok [vb false] (congrArg (fun r : Bool => vb r) (Option.some.inj H)) rfl (.cons (.tmp rfl (.v _ _ (fun _ => rfl))) .nil)
          · replace H := cf hc H
            refine ev_skip ?_
            exact ⟨_, ⟨H, rfl⟩, shift_mk ⟨⟨_, rfl, (.flat rfl)⟩, ⟨⟨_, rfl, (.flat rfl)⟩, ⟨⟨_, rfl, (.flat rfl)⟩, ⟨⟨_, rfl, .rfl⟩, ⟨⟨_, rfl, .rfl⟩, ⟨⟨_, rfl, (.flat rfl)⟩, trivial⟩⟩⟩⟩⟩⟩ ⟨(.e rfl), ⟨(.w rfl (.cons (.flat rfl) (.cons (.flat rfl) (.cons (.flat rfl) .nil)))), trivial⟩⟩ rfl rfl⟩
        · replace H := cf hc H
          refine ev_skip ?_
          exact ⟨_, ⟨H, rfl⟩, shift_mk ⟨⟨_, rfl, (.flat rfl)⟩, ⟨⟨_, rfl, (.flat rfl)⟩, ⟨⟨_, rfl, (.flat rfl)⟩, ⟨⟨_, rfl, .rfl⟩, ⟨⟨_, rfl, .rfl⟩, ⟨⟨_, rfl, (.flat rfl)⟩, trivial⟩⟩⟩⟩⟩⟩ ⟨(.e rfl), ⟨(.w rfl (.cons (.flat rfl) (.cons (.flat rfl) (.cons (.flat rfl) .nil)))), trivial⟩⟩ rfl rfl⟩
def backflushref18_Day_m (a0 : Int) : Option Bool := some (bif decide (0 ≤ a0) then decide (a0 < 1024) else false)
theorem backflushref18_Day_c {a0 : Int} {r : Bool} (H : backflushref18_Day_m a0 = some r) : PureC Try.prog true 61 [vi a0] (vb r) := by
  unfold backflushref18_Day_m at H
  refine pure_intro (N := 9) Try.func61 rfl rfl rfl rfl fun C hO => ?_
  refine ev_shift (shift_mk (fs := [(0, .v true (vi a0))]) (es := []) ⟨⟨_, rfl, (.flat rfl)⟩, trivial⟩ trivial rfl rfl) ?_
  refine ev_seq ?_
  refine ev_region ?_
  refine rq rfl rfl (q_assign rfl) ?_
  refine run_nil ?_
  refine ev_seq ?_
  refine ev_region ?_
  refine rq rfl rfl (q_move rfl) ?_
  refine rq rfl rfl (q_geq rfl rfl) ?_
  refine rq rfl rfl (q_move rfl) ?_
  refine rqc (l := []) ⟨⟨_, _, _, rfl, rfl, rfl, rfl⟩, rfl, fun hc => q_move rfl, trivial⟩ rfl ?_
  refine rqc (l := [6]) ⟨⟨_, _, _, rfl, rfl, rfl, rfl⟩, rfl, fun hc => q_lss rfl rfl, ⟨fun h => h, trivial⟩⟩ rfl ?_
  refine rq rfl rfl (q_pickb rfl rfl rfl (PB.c (fun hp => hp)) PB.v) ?_
  refine rq rfl rfl (q_assign rfl) ?_
  refine run_nil ?_
  refine ev_ret ?_
  exact ret_ok [vb (bif decide (0 ≤ a0) then decide (a0 < 1024) else false)] (congrArg (fun r : Bool => vb r) (Option.some.inj H)) rfl (.cons (.tmp rfl (.v _ _ (fun _ => rfl))) .nil)
def backflushref18_head_m  : Option GKey := some (⟨0, 0, 0⟩ : GKey)
theorem backflushref18_head_c  {r : GKey} (H : backflushref18_head_m  = some r) : PureC Try.prog true 62 [] (GKey.e r) := by
  unfold backflushref18_head_m at H
  refine pure_intro (N := 2) Try.func62 rfl rfl rfl rfl fun C hO => ?_
  refine ev_seq ?_
  refine ev_region ?_
  refine re rfl (e_alloc 0 0 rfl rfl) ?_; rintro _ ⟨b1, rfl⟩
  refine run_nil ?_
  refine ev_seq ?_
  refine ev_region ?_
  refine rq rfl rfl (q_build rfl (.v rfl rfl rfl rfl rfl .nil)) ?_
  refine re rfl (e_store rfl rfl rfl rfl rfl (Nat.le_of_ble_eq_true rfl) rfl) ?_; rintro _ rfl
  refine run_nil ?_
  refine ev_ret ?_
  exact ret_ok [GKey.e (⟨0, 0, 0⟩ : GKey)] (congrArg (fun r : GKey => GKey.e r) (Option.some.inj H)) rfl (.cons (.cellN (z := 3) rfl rfl rfl rfl rfl rfl (.v _ _ (fun _ => rfl))) .nil)
def backflushref04_Before_m (a0 : GFact) (a1 : GFact) : Option Bool := some (bif decide (a0.known < a1.known) then true else bif a0.known == a1.known then decide (a0.no_ < a1.no_) else false)
theorem backflushref04_Before_c {a0 : GFact} {a1 : GFact} {r : Bool} (H : backflushref04_Before_m a0 a1 = some r) : PureC Try.prog true 80 [GFact.e a0, GFact.e a1] (vb r) := by
  unfold backflushref04_Before_m at H
  refine pure_intro (N := 24) Try.func80 rfl rfl rfl rfl fun C hO => ?_
  refine ev_shift (shift_mk (fs := [(0, .v true (GFact.e a0)), (1, .v true (GFact.e a1))]) (es := []) ⟨⟨_, rfl, (.flat rfl)⟩, ⟨⟨_, rfl, (.flat rfl)⟩, trivial⟩⟩ trivial rfl rfl) ?_
  refine ev_seq ?_
  refine ev_region ?_
  refine re rfl (e_box 2 0 rfl rfl rfl) ?_; rintro _ ⟨b1, rfl⟩
  refine re rfl (e_box 3 0 rfl rfl rfl) ?_; rintro _ ⟨b2, rfl⟩
  refine rq rfl rfl (q_assign rfl) ?_
  refine run_nil ?_
  refine ev_seq ?_
  refine ev_region ?_
  refine rq rfl rfl (q_fld_p rfl) ?_
  refine rq rfl rfl (q_load1 rfl rfl rfl) ?_
  refine rq rfl rfl (q_fld_p rfl) ?_
  refine rq rfl rfl (q_load1 rfl rfl rfl) ?_
  refine rq rfl rfl (q_lss rfl rfl) ?_
  refine rq rfl rfl (q_move rfl) ?_
  refine rqc (l := []) ⟨⟨_, _, _, rfl, rfl, rfl, rfl⟩, rfl, fun hc => q_fld_p rfl, trivial⟩ rfl ?_
  refine rqc (l := [11]) ⟨⟨_, _, _, rfl, rfl, rfl, rfl⟩, rfl, fun hc => q_load1 rfl rfl rfl, ⟨fun h => h, trivial⟩⟩ rfl ?_
  refine rqc (l := []) ⟨⟨_, _, _, rfl, rfl, rfl, rfl⟩, rfl, fun hc => q_fld_p rfl, trivial⟩ rfl ?_
  refine rqc (l := [13]) ⟨⟨_, _, _, rfl, rfl, rfl, rfl⟩, rfl, fun hc => q_load1 rfl rfl rfl, ⟨fun h => h, trivial⟩⟩ rfl ?_
  refine rqc (l := [12, 14]) ⟨⟨_, _, _, rfl, rfl, rfl, rfl⟩, rfl, fun hc => q_eqi rfl rfl, ⟨fun h => h, ⟨fun h => h, trivial⟩⟩⟩ rfl ?_
  refine rqc (l := [15]) ⟨⟨_, _, _, rfl, rfl, rfl, rfl⟩, rfl, fun hc => q_move rfl, ⟨fun h => h, trivial⟩⟩ rfl ?_
  refine rqc (l := []) ⟨⟨_, _, _, rfl, rfl, rfl, rfl⟩, rfl, fun hc => q_fld_p rfl, trivial⟩ rfl ?_
  refine rqc (l := [17]) ⟨⟨_, _, _, rfl, rfl, rfl, rfl⟩, rfl, fun hc => q_load1 rfl rfl rfl, ⟨fun h => h, trivial⟩⟩ rfl ?_
  refine rqc (l := []) ⟨⟨_, _, _, rfl, rfl, rfl, rfl⟩, rfl, fun hc => q_fld_p rfl, trivial⟩ rfl ?_
  refine rqc (l := [19]) ⟨⟨_, _, _, rfl, rfl, rfl, rfl⟩, rfl, fun hc => q_load1 rfl rfl rfl, ⟨fun h => h, trivial⟩⟩ rfl ?_
  refine rqc (l := [18, 20]) ⟨⟨_, _, _, rfl, rfl, rfl, rfl⟩, rfl, fun hc => q_lss rfl rfl, ⟨fun h => h, ⟨fun h => h, trivial⟩⟩⟩ rfl ?_
  refine rqc (l := [16]) ⟨⟨_, _, _, rfl, rfl, rfl, rfl⟩, rfl, fun hc => q_pickb rfl rfl rfl (PB.c (fun hp => by simp_all)) PB.v, ⟨fun h => h, trivial⟩⟩ rfl ?_
  refine rq rfl rfl (q_pickb rfl rfl rfl PB.v (PB.c (fun hp => by rw [hp]; rfl))) ?_
  refine rq rfl rfl (q_assign rfl) ?_
  refine run_nil ?_
  refine ev_ret ?_
  exact ret_ok [vb (bif decide (a0.known < a1.known) then true else bif a0.known == a1.known then decide (a0.no_ < a1.no_) else false)] (congrArg (fun r : Bool => vb r) (Option.some.inj H)) rfl (.cons (.tmp rfl (.v _ _ (fun _ => rfl))) .nil)
def backflushref04_At_m (a0 : List GFact) (a1 : GKey) (a2 : Int) (a3 : Int) : Option (Int × Bool) := forL a0 (fun (k4 : Nat) (x7 : GFact) (s2 : Int) loop3 => jn (fun (p11 : Int) => loop3 p11) fun j10 => bdc ((bif bif bif GKey.eqb x7.key a1 then decide (x7.valid.from_ ≤ a2) else false then decide (a2 < x7.valid.to_) else false then decide (x7.known ≤ a3) else false) && (!(decide (s2 < 0)))) (idx a0 s2) fun x13 => bdc ((bif bif bif GKey.eqb x7.key a1 then decide (x7.valid.from_ ≤ a2) else false then decide (a2 < x7.valid.to_) else false then decide (x7.known ≤ a3) else false) && (!(decide (s2 < 0)))) (backflushref04_Before_m x7 x13) fun x14 => bif bif bif bif bif GKey.eqb x7.key a1 then decide (x7.valid.from_ ≤ a2) else false then decide (a2 < x7.valid.to_) else false then decide (x7.known ≤ a3) else false then bif decide (s2 < 0) then true else !x14 else false then (j10 ((k4 : Nat) : Int)) else (j10 s2)) (fun (s2 : Int) => bdc (!(decide (s2 < 0))) (idx a0 s2) fun x15 => bif bif decide (s2 < 0) then true else decide (x15.value < 0) then (some (0, false)) else (bd (idx a0 s2) fun x16 => some (x16.value, true))) (-1)
theorem backflushref04_At_c {a0 : List GFact} {a1 : GKey} {a2 : Int} {a3 : Int} {r : Int × Bool} (H : backflushref04_At_m a0 a1 a2 a3 = some r) : PureC Try.prog true 43 [V.l 8 (List.map GFact.e a0), GKey.e a1, vi a2, vi a3] (V.t [vi r.1, vb r.2]) := by
  unfold backflushref04_At_m at H
  refine pure_intro (N := 76) Try.func43 rfl rfl rfl rfl fun C hO => ?_
  refine ev_shift (shift_mk (fs := [(0, .v false (V.l 8 (List.map GFact.e a0))), (1, .v true (GKey.e a1)), (2, .v true (vi a2)), (3, .v true (vi a3))]) (es := []) ⟨⟨_, rfl, .rfl⟩, ⟨⟨_, rfl, (.flat rfl)⟩, ⟨⟨_, rfl, (.flat rfl)⟩, ⟨⟨_, rfl, (.flat rfl)⟩, trivial⟩⟩⟩⟩ trivial rfl rfl) ?_
  refine ev_seq ?_
  refine ev_region ?_
  refine re rfl (e_box 5 0 rfl rfl rfl) ?_; rintro _ ⟨b1, rfl⟩
  refine rq rfl rfl (q_assign rfl) ?_
  refine rq rfl rfl (q_assign rfl) ?_
  refine run_nil ?_
  refine ev_seq ?_
  refine ev_region ?_
  refine rq rfl rfl (q_assign rfl) ?_
  refine run_nil ?_
  refine ev_seq ?_
  refine ev_seq ?_
  refine ev_region ?_
  refine rq rfl rfl (q_assign rfl) ?_
  refine run_nil ?_
  refine ev_block ?_
  refine ev_len_l (s := 0) rfl fun w9 => ?_
  rw [List.length_map] at w9
  refine ev_forL H (fun k4 s2 σ' => σ' = mkS [(0, .v false (V.l 8 (List.map GFact.e a0))), (2, .v true (vi a2)), (3, .v true (vi a3)), (5, .p 5 0 b1 0), (8, .v true (vi 0)), (9, .v true (vb false)), (10, .v true (vi s2)), (11, .v true (vi ((k4 : Nat) : Int)))] [.e 5 0 (some (b1, 3)) (.row 68 [.v true (vi a1.kind), .v true (vi a1.subject), .v true (vi a1.object)])] [] (0, false)) ⟨_, rfl, shift_mk ⟨⟨_, rfl, .rfl⟩, ⟨⟨_, rfl, (.flat rfl)⟩, ⟨⟨_, rfl, (.flat rfl)⟩, ⟨⟨_, rfl, .rfl⟩, ⟨⟨_, rfl, (.flat rfl)⟩, ⟨⟨_, rfl, (.flat rfl)⟩, ⟨⟨_, rfl, (.flat rfl)⟩, ⟨⟨_, rfl, .rfl⟩, trivial⟩⟩⟩⟩⟩⟩⟩⟩ ⟨(.w rfl (.cons (.flat rfl) (.cons (.flat rfl) (.cons (.flat rfl) .nil)))), trivial⟩ rfl rfl⟩ ?_
  rintro k4 s2 _ rfl _ H
  refine ev_seq ?_
  refine ev_seq ?_
  refine ev_region ?_
  refine rq rfl rfl (q_move rfl) ?_
  refine rq rfl rfl (q_move rfl) ?_
  refine rq rfl rfl (q_len_t rfl) ?_
  refine rq rfl rfl (q_lss rfl rfl) ?_
  refine run_nil ?_
  refine ev_cond rfl (fun hc => ?_) (fun hc => ?_)
  · obtain ⟨x7, w8, x7_g, H⟩ := forL_in hc H
    have x7_h : idx a0 ((k4 : Nat) : Int) = some x7 := by rw [idx_nat]; exact x7_g
    refine ev_skip ?_
    obtain ⟨j10, j10_e, H⟩ := jn_inv H
    refine ev_join (fun σ' => ∃ (p11 : Int), j10 p11 = some r ∧ σ' = mkS [(0, .v false (V.l 8 (List.map GFact.e a0))), (2, .v true (vi a2)), (3, .v true (vi a3)), (5, .p 5 0 b1 0), (8, .v true (vi 0)), (9, .v true (vb false)), (10, .v true (vi p11)), (11, .v true (vi ((k4 : Nat) : Int)))] [.e 5 0 (some (b1, 3)) (.row 68 [.v true (vi a1.kind), .v true (vi a1.subject), .v true (vi a1.object)])] [] (0, false)) ?_ ?_
    · rintro _ ⟨p11, H, rfl⟩
      subst j10_e
      refine ev_region ?_
      refine rq rfl rfl (q_move rfl) ?_
      refine rq rfl rfl (q_add rfl rfl) ?_
      refine rq rfl rfl (q_assign rfl) ?_
      refine run_nil ?_
      exact ⟨_, _, w8, H, rfl, shift_mk ⟨⟨_, rfl, .rfl⟩, ⟨⟨_, rfl, (.flat rfl)⟩, ⟨⟨_, rfl, (.flat rfl)⟩, ⟨⟨_, rfl, .rfl⟩, ⟨⟨_, rfl, (.flat rfl)⟩, ⟨⟨_, rfl, (.flat rfl)⟩, ⟨⟨_, rfl, (.flat rfl)⟩, ⟨⟨_, rfl, (.eq (congrArg (fun n => D.v true (vi n)) (wrap_succ w8 w9)))⟩, trivial⟩⟩⟩⟩⟩⟩⟩⟩ ⟨(.w rfl (.cons (.flat rfl) (.cons (.flat rfl) (.cons (.flat rfl) .nil)))), trivial⟩ rfl rfl⟩
    · clear j10_e
      refine ev_block ?_
      refine ev_seq ?_
      refine ev_region ?_
      refine rq rfl rfl (q_move rfl) ?_
      refine rq rfl rfl (q_move rfl) ?_
      refine rq rfl rfl (q_idx_l rfl rfl (idx_inv x7_h).1 (map_get (idx_inv x7_h).2.1) rfl) ?_
      refine rq rfl rfl (q_load_e rfl rfl rfl) ?_
      refine re rfl (e_alloc 12 0 rfl rfl) ?_; rintro _ ⟨b12, rfl⟩
      refine re rfl (e_store rfl rfl rfl rfl rfl (Nat.le_of_ble_eq_true rfl) rfl) ?_; rintro _ rfl
      refine run_nil ?_
      refine ev_seq ?_
      obtain ⟨x13, x13_h, _, H⟩ := bdc_inv H
      obtain ⟨x14, x14_h, _, H⟩ := bdc_inv H
      refine ev_draw rfl (by kernel_rfl) ?_
      refine qq rfl rfl (q_fld_p rfl) ?_
      refine qq rfl rfl (q_loadN rfl rfl rfl rfl) ?_
      refine qq rfl rfl (q_loadN rfl rfl rfl rfl) ?_
      refine qq rfl rfl (q_eqs rfl rfl rfl) ?_
      refine qq rfl rfl (q_move rfl) ?_
      refine qc (l := []) ⟨⟨_, _, _, rfl, rfl, rfl, rfl⟩, rfl, fun hc => q_fld_p rfl, trivial⟩ rfl rfl ?_
      refine qc (l := [28]) ⟨⟨_, _, _, rfl, rfl, rfl, rfl⟩, rfl, fun hc => q_fld_p rfl, ⟨fun h => h, trivial⟩⟩ rfl rfl ?_
      refine qc (l := [29]) ⟨⟨_, _, _, rfl, rfl, rfl, rfl⟩, rfl, fun hc => q_load1 rfl rfl rfl, ⟨fun h => h, trivial⟩⟩ rfl rfl ?_
      refine qc (l := []) ⟨⟨_, _, _, rfl, rfl, rfl, rfl⟩, rfl, fun hc => q_move rfl, trivial⟩ rfl rfl ?_
      refine qc (l := [30, 31]) ⟨⟨_, _, _, rfl, rfl, rfl, rfl⟩, rfl, fun hc => q_leq rfl rfl, ⟨fun h => h, ⟨fun h => h, trivial⟩⟩⟩ rfl rfl ?_
      refine qq rfl rfl (q_pickb rfl rfl rfl (PB.c (fun hp => hp)) PB.v) ?_
      refine qq rfl rfl (q_move rfl) ?_
      refine qc (l := []) ⟨⟨_, _, _, rfl, rfl, rfl, rfl⟩, rfl, fun hc => q_move rfl, trivial⟩ rfl rfl ?_
      refine qc (l := []) ⟨⟨_, _, _, rfl, rfl, rfl, rfl⟩, rfl, fun hc => q_fld_p rfl, trivial⟩ rfl rfl ?_
      refine qc (l := [36]) ⟨⟨_, _, _, rfl, rfl, rfl, rfl⟩, rfl, fun hc => q_fld_p rfl, ⟨fun h => h, trivial⟩⟩ rfl rfl ?_
      refine qc (l := [37]) ⟨⟨_, _, _, rfl, rfl, rfl, rfl⟩, rfl, fun hc => q_load1 rfl rfl rfl, ⟨fun h => h, trivial⟩⟩ rfl rfl ?_
      refine qc (l := [35, 38]) ⟨⟨_, _, _, rfl, rfl, rfl, rfl⟩, rfl, fun hc => q_lss rfl rfl, ⟨fun h => h, ⟨fun h => h, trivial⟩⟩⟩ rfl rfl ?_
      refine qq rfl rfl (q_pickb rfl rfl rfl (PB.c (fun hp => hp)) PB.v) ?_
      refine qq rfl rfl (q_move rfl) ?_
      refine qc (l := []) ⟨⟨_, _, _, rfl, rfl, rfl, rfl⟩, rfl, fun hc => q_fld_p rfl, trivial⟩ rfl rfl ?_
      refine qc (l := [42]) ⟨⟨_, _, _, rfl, rfl, rfl, rfl⟩, rfl, fun hc => q_load1 rfl rfl rfl, ⟨fun h => h, trivial⟩⟩ rfl rfl ?_
      refine qc (l := []) ⟨⟨_, _, _, rfl, rfl, rfl, rfl⟩, rfl, fun hc => q_move rfl, trivial⟩ rfl rfl ?_
      refine qc (l := [43, 44]) ⟨⟨_, _, _, rfl, rfl, rfl, rfl⟩, rfl, fun hc => q_leq rfl rfl, ⟨fun h => h, ⟨fun h => h, trivial⟩⟩⟩ rfl rfl ?_
      refine qq rfl rfl (q_pickb rfl rfl rfl (PB.c (fun hp => hp)) PB.v) ?_
      refine qq rfl rfl (q_move rfl) ?_
      refine qc (l := []) ⟨⟨_, _, _, rfl, rfl, rfl, rfl⟩, rfl, fun hc => q_move rfl, trivial⟩ rfl rfl ?_
      refine qc (l := [48]) ⟨⟨_, _, _, rfl, rfl, rfl, rfl⟩, rfl, fun hc => q_lss rfl rfl, ⟨fun h => h, trivial⟩⟩ rfl rfl ?_
      refine qc (l := [49]) ⟨⟨_, _, _, rfl, rfl, rfl, rfl⟩, rfl, fun hc => q_move rfl, ⟨fun h => h, trivial⟩⟩ rfl rfl ?_
      refine qc (l := []) ⟨⟨_, _, _, rfl, rfl, rfl, rfl⟩, rfl, fun hc => q_loadN rfl rfl rfl rfl, trivial⟩ rfl rfl ?_
      refine qc (l := []) ⟨⟨_, _, _, rfl, rfl, rfl, rfl⟩, rfl, fun hc => q_move rfl, trivial⟩ rfl rfl ?_
      refine qc (l := []) ⟨⟨_, _, _, rfl, rfl, rfl, rfl⟩, rfl, fun hc => q_move rfl, trivial⟩ rfl rfl ?_
      refine qc (l := [52, 53]) ⟨⟨_, _, _, rfl, rfl, rfl, rfl⟩, rfl, fun hc => q_idx_l rfl rfl (idx_inv (x13_h hc)).1 (map_get (idx_inv (x13_h hc)).2.1) rfl, ⟨fun h => h, ⟨fun h => h, trivial⟩⟩⟩ rfl rfl ?_
      refine qc (l := [54]) ⟨⟨_, _, _, rfl, rfl, rfl, rfl⟩, rfl, fun hc => q_load_e rfl rfl rfl, ⟨fun h => h, trivial⟩⟩ rfl rfl ?_
      refine qc (l := [51, 55]) ⟨⟨_, _, _, rfl, rfl, rfl, rfl⟩, rfl, fun hc => q_call rfl (.v _ _ (fun e => nomatch e)) (.v rfl (.v rfl ArgsOk.nil)) inferInstance (backflushref04_Before_c  (x14_h hc)), ⟨fun h => h, ⟨fun h => h, trivial⟩⟩⟩ rfl rfl ?_
      refine qc (l := [56]) ⟨⟨_, _, _, rfl, rfl, rfl, rfl⟩, rfl, fun hc => q_not rfl, ⟨fun h => h, trivial⟩⟩ rfl rfl ?_
      refine qc (l := [50]) ⟨⟨_, _, _, rfl, rfl, rfl, rfl⟩, rfl, fun hc => q_pickb rfl rfl rfl PB.v (PB.c (fun hp => by simp_all)), ⟨fun h => h, trivial⟩⟩ rfl rfl ?_
      refine qq rfl rfl (q_pickb rfl rfl rfl (PB.c (fun hp => hp)) PB.v) ?_
      refine qn ?_
      refine ev_cond rfl (fun hc => ?_) (fun hc => ?_)
      · replace H := ct hc H
        refine ev_region ?_
        refine rq rfl rfl (q_move rfl) ?_
        refine rq rfl rfl (q_assign rfl) ?_
        refine run_nil ?_
        exact ⟨_, ⟨((k4 : Nat) : Int), H, rfl⟩, shift_mk ⟨⟨_, rfl, .rfl⟩, ⟨⟨_, rfl, (.flat rfl)⟩, ⟨⟨_, rfl, (.flat rfl)⟩, ⟨⟨_, rfl, .rfl⟩, ⟨⟨_, rfl, (.flat rfl)⟩, ⟨⟨_, rfl, (.flat rfl)⟩, ⟨⟨_, rfl, (.flat rfl)⟩, ⟨⟨_, rfl, (.flat rfl)⟩, trivial⟩⟩⟩⟩⟩⟩⟩⟩ ⟨(.w rfl (.cons (.flat rfl) (.cons (.flat rfl) (.cons (.flat rfl) .nil)))), trivial⟩ rfl rfl⟩
      · replace H := cf hc H
        refine ev_skip ?_
        exact ⟨_, ⟨s2, H, rfl⟩, shift_mk ⟨⟨_, rfl, .rfl⟩, ⟨⟨_, rfl, (.flat rfl)⟩, ⟨⟨_, rfl, (.flat rfl)⟩, ⟨⟨_, rfl, .rfl⟩, ⟨⟨_, rfl, (.flat rfl)⟩, ⟨⟨_, rfl, (.flat rfl)⟩, ⟨⟨_, rfl, (.flat rfl)⟩, ⟨⟨_, rfl, (.flat rfl)⟩, trivial⟩⟩⟩⟩⟩⟩⟩⟩ ⟨(.w rfl (.cons (.flat rfl) (.cons (.flat rfl) (.cons (.flat rfl) .nil)))), trivial⟩ rfl rfl⟩
  · replace H := forL_out hc H
    refine ev_exit ?_
    refine ev_seq ?_
    refine ev_seq ?_
    refine ev_region ?_
    refine rq rfl rfl (q_move rfl) ?_
    refine rq rfl rfl (q_lss rfl rfl) ?_
    refine rq rfl rfl (q_move rfl) ?_
    refine rqc (l := []) ⟨⟨_, _, _, rfl, rfl, rfl, rfl⟩, rfl, fun hc => q_move rfl, trivial⟩ rfl ?_
    refine rqc (l := []) ⟨⟨_, _, _, rfl, rfl, rfl, rfl⟩, rfl, fun hc => q_move rfl, trivial⟩ rfl ?_
    obtain ⟨x15, x15_h, _, H⟩ := bdc_inv H
    refine rqc (l := [64, 65]) ⟨⟨_, _, _, rfl, rfl, rfl, rfl⟩, rfl, fun hc => q_idx_l rfl rfl (idx_inv (x15_h hc)).1 (map_get (idx_inv (x15_h hc)).2.1) rfl, ⟨fun h => h, ⟨fun h => h, trivial⟩⟩⟩ rfl ?_
    refine rqc (l := [66]) ⟨⟨_, _, _, rfl, rfl, rfl, rfl⟩, rfl, fun hc => q_fld_q rfl, ⟨fun h => h, trivial⟩⟩ rfl ?_
    refine rqc (l := [67]) ⟨⟨_, _, _, rfl, rfl, rfl, rfl⟩, rfl, fun hc => q_load1_q rfl, ⟨fun h => h, trivial⟩⟩ rfl ?_
    refine rqc (l := [68]) ⟨⟨_, _, _, rfl, rfl, rfl, rfl⟩, rfl, fun hc => q_lss rfl rfl, ⟨fun h => h, trivial⟩⟩ rfl ?_
    refine rq rfl rfl (q_pickb rfl rfl rfl PB.v (PB.c (fun hp => by rw [hp]; rfl))) ?_
    refine run_nil ?_
    refine ev_cond rfl (fun hc => ?_) (fun hc => ?_)
    · replace H := ct hc H
      refine ev_seq ?_
      refine ev_region ?_
      refine rq rfl rfl (q_assign rfl) ?_
      refine rq rfl rfl (q_assign rfl) ?_
      refine run_nil ?_
      refine ev_ret ?_
      exact ret_ok [vi 0, vb false] (congrArg (fun r : Int × Bool => V.t [vi r.1, vb r.2]) (Option.some.inj H)) rfl (.cons (.tmp rfl (.v _ _ (fun _ => rfl))) (.cons (.tmp rfl (.v _ _ (fun _ => rfl))) .nil))
    · replace H := cf hc H
      refine ev_skip ?_
      refine ev_seq ?_
      refine ev_region ?_
      refine rq rfl rfl (q_move rfl) ?_
      refine rq rfl rfl (q_move rfl) ?_
      obtain ⟨x16, x16_h, H⟩ := bd_inv H
      refine rq rfl rfl (q_idx_l rfl rfl (idx_inv x16_h).1 (map_get (idx_inv x16_h).2.1) rfl) ?_
      refine rq rfl rfl (q_fld_q rfl) ?_
      refine rq rfl rfl (q_load1_q rfl) ?_
      refine rq rfl rfl (q_assign rfl) ?_
      refine rq rfl rfl (q_assign rfl) ?_
      refine run_nil ?_
      refine ev_ret ?_
      exact ret_ok [vi x16.value, vb true] (congrArg (fun r : Int × Bool => V.t [vi r.1, vb r.2]) (Option.some.inj H)) rfl (.cons (.tmp rfl (.v _ _ (fun _ => rfl))) (.cons (.tmp rfl (.v _ _ (fun _ => rfl))) .nil))
def backflushref18_many_m (a0 : GWorld) (a1 : Int) (a2 : Int) : Option Int := bd (backflushref18_Day_m a1) fun x2 => bif !x2 then (some 0) else (bd (backflushref18_head_m) fun x3 => bd (backflushref04_At_m a0.facts x3 a1 a2) fun x4 => some (min (max x4.1 0) 1024))
theorem backflushref18_many_c {a0 : GWorld} {a1 : Int} {a2 : Int} {r : Int} (H : backflushref18_many_m a0 a1 a2 = some r) : PureC Try.prog true 63 [GWorld.e a0, vi a1, vi a2] (vi r) := by
  unfold backflushref18_many_m at H
  refine pure_intro (N := 24) Try.func63 rfl rfl rfl rfl fun C hO => ?_
  refine ev_shift (shift_mk (fs := [(0, .v false (GWorld.e a0)), (1, .v true (vi a1)), (2, .v true (vi a2))]) (es := []) ⟨⟨_, rfl, .rfl⟩, ⟨⟨_, rfl, (.flat rfl)⟩, ⟨⟨_, rfl, (.flat rfl)⟩, trivial⟩⟩⟩ trivial rfl rfl) ?_
  refine ev_seq ?_
  refine ev_region ?_
  refine re rfl (e_box 3 0 rfl rfl rfl) ?_; rintro _ ⟨b1, rfl⟩
  refine rq rfl rfl (q_assign rfl) ?_
  refine run_nil ?_
  refine ev_seq ?_
  refine ev_seq ?_
  refine ev_region ?_
  refine rq rfl rfl (q_move rfl) ?_
  obtain ⟨x2, x2_h, H⟩ := bd_inv H
  refine rq rfl rfl (q_call rfl (.v _ _ (fun e => nomatch e)) (.v rfl ArgsOk.nil) inferInstance (backflushref18_Day_c  x2_h)) ?_
  refine rq rfl rfl (q_not rfl) ?_
  refine run_nil ?_
  refine ev_cond rfl (fun hc => ?_) (fun hc => ?_)
  · replace H := ct hc H
    refine ev_seq ?_
    refine ev_region ?_
    refine rq rfl rfl (q_assign rfl) ?_
    refine run_nil ?_
    refine ev_ret ?_
    exact ret_ok [vi 0] (congrArg (fun r : Int => vi r) (Option.some.inj H)) rfl (.cons (.tmp rfl (.v _ _ (fun _ => rfl))) .nil)
  · replace H := cf hc H
    refine ev_skip ?_
    refine ev_seq ?_
    obtain ⟨x3, x3_h, H⟩ := bd_inv H
    obtain ⟨x4, x4_h, H⟩ := bd_inv H
    refine ev_draw rfl (by kernel_rfl) ?_
    refine qq rfl rfl (q_fld_p rfl) ?_
    refine qq rfl rfl (q_load1 rfl rfl rfl) ?_
    refine qq rfl rfl (q_call rfl (.v _ _ (fun e => nomatch e)) ArgsOk.nil inferInstance (backflushref18_head_c  x3_h)) ?_
    refine qq rfl rfl (q_move rfl) ?_
    refine qq rfl rfl (q_move rfl) ?_
    refine qq rfl rfl (q_call rfl (.v _ _ (fun e => nomatch e)) (.v rfl (.v rfl (.v rfl (.v rfl ArgsOk.nil)))) inferInstance (backflushref04_At_c  x4_h)) ?_
    refine qq rfl rfl (q_move rfl) ?_
    refine qq rfl rfl (q_extract rfl rfl) ?_
    refine qq rfl rfl (q_extract rfl rfl) ?_
    refine qq rfl rfl (q_assign rfl) ?_
    refine qq rfl rfl (q_assign rfl) ?_
    refine qn ?_
    refine ev_seq ?_
    refine ev_region ?_
    refine rq rfl rfl (q_move rfl) ?_
    refine rq rfl rfl (q_max rfl rfl) ?_
    refine rq rfl rfl (q_min rfl rfl) ?_
    refine rq rfl rfl (q_assign rfl) ?_
    refine run_nil ?_
    refine ev_ret ?_
    exact ret_ok [vi (min (max x4.1 0) 1024)] (congrArg (fun r : Int => vi r) (Option.some.inj H)) rfl (.cons (.tmp rfl (.v _ _ (fun _ => rfl))) .nil)
def backflushref18_lot_m (a0 : GWorld) (a1 : Int) (a2 : Int) (a3 : Int) : Option (GLot × (List GRead) × Bool) := forN 0 5 (fun (k7 : Int) (s5 : (List Int) × (List GRead)) loop6 => gd (decide ((s5.2.length + ([(⟨(⟨1, a1, k7⟩ : GKey), a2, wr (a2 + 1)⟩ : GRead)] : List GRead).length) * 41 ≤ 140737488355328)) <| bd (backflushref04_At_m a0.facts (⟨1, a1, k7⟩ : GKey) a2 a3) fun x23 => bif !x23.2 then (some ((⟨0, 0, 0, 0, 0, 0⟩ : GLot), s5.2 ++ ([(⟨(⟨1, a1, k7⟩ : GKey), a2, wr (a2 + 1)⟩ : GRead)] : List GRead), false)) else (gd (decide ((s5.1.length + ([x23.1] : List Int).length) * 9 ≤ 140737488355328)) <| loop6 (s5.1 ++ ([x23.1] : List Int), s5.2 ++ ([(⟨(⟨1, a1, k7⟩ : GKey), a2, wr (a2 + 1)⟩ : GRead)] : List GRead)))) (fun (s5 : (List Int) × (List GRead)) => bd (idx s5.1 0) fun x26 => bd (idx s5.1 1) fun x27 => bd (idx s5.1 2) fun x28 => bd (idx s5.1 3) fun x29 => bd (idx s5.1 4) fun x30 => bd (backflushref18_Right_m (⟨a1, x26, x27, x28, x29, x30⟩ : GLot)) fun x33 => bif !x33 then (some ((⟨0, 0, 0, 0, 0, 0⟩ : GLot), s5.2, false)) else (some ((⟨a1, x26, x27, x28, x29, x30⟩ : GLot), s5.2, true))) (([] : List Int), ([] : List GRead))
theorem backflushref18_lot_c {a0 : GWorld} {a1 : Int} {a2 : Int} {a3 : Int} {r : GLot × (List GRead) × Bool} (H : backflushref18_lot_m a0 a1 a2 a3 = some r) : PureC Try.prog true 64 [GWorld.e a0, vi a1, vi a2, vi a3] (V.t [GLot.e r.1, V.l 5 (List.map GRead.e r.2.1), vb r.2.2]) := by
  unfold backflushref18_lot_m at H
  refine pure_intro (N := 76) Try.func64 rfl rfl rfl rfl fun C hO => ?_
  refine ev_shift (shift_mk (fs := [(0, .v false (GWorld.e a0)), (1, .v true (vi a1)), (2, .v true (vi a2)), (3, .v true (vi a3))]) (es := []) ⟨⟨_, rfl, .rfl⟩, ⟨⟨_, rfl, (.flat rfl)⟩, ⟨⟨_, rfl, (.flat rfl)⟩, ⟨⟨_, rfl, (.flat rfl)⟩, trivial⟩⟩⟩⟩ trivial rfl rfl) ?_
  refine ev_seq ?_
  refine ev_region ?_
  refine re rfl (e_box 4 0 rfl rfl rfl) ?_; rintro _ ⟨b1, rfl⟩
  refine re rfl (e_alloc 8 0 rfl rfl) ?_; rintro _ ⟨b2, rfl⟩
  refine rq rfl rfl (q_assign rfl) ?_
  refine rq rfl rfl (q_assign rfl) ?_
  refine run_nil ?_
  refine ev_seq ?_
  refine ev_region ?_
  refine re rfl (e_buildSlice 18 0 rfl rfl rfl rfl) ?_; rintro _ ⟨b3, rfl⟩
  refine rq rfl rfl (q_assign rfl) ?_
  refine run_nil ?_
  refine ev_seq ?_
  refine ev_region ?_
  refine re rfl (e_buildSlice 19 0 rfl rfl rfl rfl) ?_; rintro _ ⟨b4, rfl⟩
  refine rq rfl rfl (q_assign rfl) ?_
  refine run_nil ?_
  refine ev_seq ?_
  refine ev_seq ?_
  refine ev_region ?_
  refine rq rfl rfl (q_assign rfl) ?_
  refine run_nil ?_
  refine ev_block ?_
  refine ev_forN H (fun k7 s5 σ' => ∃ (q10 : Pl) (q12 : Pl), σ' = mkS [(1, .v true (vi a1)), (2, .v true (vi a2)), (3, .v true (vi a3)), (4, .p 4 0 b1 0), (8, .p 8 0 b2 0), (9, .v true (.raw (.slice none 0 0))), (10, .v true (vb false)), (11, .o 18 0 q10 1 0 s5.1.length), (12, .o 19 0 q12 5 0 s5.2.length), (13, .v true (vi k7))] [.e 4 0 (some (b1, 11)) (.row 38 [.v false (V.l 8 (List.map GUnit.e a0.tables.source.units)), .v false (V.l 6 (List.map GItem.e a0.tables.source.items)), .v false (V.l 1 (List.map V.s a0.tables.source.plants)), .v false (V.l 4 (List.map GMachine.e a0.tables.source.machines)), .v false (V.l 2 (List.map GOption.e a0.tables.source.options)), .v false (V.l 1 (List.map (fun l => V.l 4 (List.map GCond.e l)) a0.tables.source.forbids)), .v false (V.l 17 (List.map GRecipe.e a0.tables.source.recipes)), .v false (V.l 4 (List.map GSwap.e a0.tables.source.swaps)), .v false (V.l 1 (List.map vi a0.tables.levels)), .v false (V.l 1 (List.map (fun l => V.l 6 (List.map GInst.e l)) a0.tables.codes)), .v false (V.l 8 (List.map GFact.e a0.facts))]), .e 8 0 (some (b2, 6)) (.row 60 [.v true (vi 0), .v true (vi 0), .v true (vi 0), .v true (vi 0), .v true (vi 0), .v true (vi 0)]), .e 18 0 q10 (.row 3 (els true (List.map vi s5.1))), .e 19 0 q12 (.row 100 (els true (List.map GRead.e s5.2)))] [] (0, false)) ⟨_, ⟨(some (b3, 0 * 1)), (some (b4, 0 * 5)), rfl⟩, shift_mk ⟨⟨_, rfl, (.flat rfl)⟩, ⟨⟨_, rfl, (.flat rfl)⟩, ⟨⟨_, rfl, (.flat rfl)⟩, ⟨⟨_, rfl, .rfl⟩, ⟨⟨_, rfl, .rfl⟩, ⟨⟨_, rfl, .rfl⟩, ⟨⟨_, rfl, (.flat rfl)⟩, ⟨⟨_, rfl, .rfl⟩, ⟨⟨_, rfl, .rfl⟩, ⟨⟨_, rfl, .rfl⟩, trivial⟩⟩⟩⟩⟩⟩⟩⟩⟩⟩ ⟨(.e rfl), ⟨(.w rfl (.cons (.flat rfl) (.cons (.flat rfl) (.cons (.flat rfl) (.cons (.flat rfl) (.cons (.flat rfl) (.cons (.flat rfl) .nil))))))), ⟨(.e rfl), ⟨(.e rfl), trivial⟩⟩⟩⟩ rfl rfl⟩ ?_
  rintro n13 k7 s5 _ ⟨q10, q12, rfl⟩ w14 w15 w16 w17 H
  refine ev_seq ?_
  refine ev_seq ?_
  refine ev_region ?_
  refine rq rfl rfl (q_move rfl) ?_
  refine rq rfl rfl (q_lss rfl rfl) ?_
  refine run_nil ?_
  refine ev_cond rfl (fun hc => ?_) (fun hc => ?_)
  · obtain ⟨n19, n19_e, w18, H⟩ := forN_in hc w14 H
    refine ev_skip ?_
    refine ev_seq ?_
    refine ev_block ?_
    refine ev_seq ?_
    refine ev_region ?_
    refine rq rfl rfl (q_move rfl) ?_
    refine rq rfl rfl (q_move rfl) ?_
    refine rq rfl rfl (q_build rfl (.v rfl rfl rfl rfl rfl (.v rfl rfl rfl rfl rfl (.v rfl rfl rfl rfl rfl .nil)))) ?_
    refine re rfl (e_alloc 14 0 rfl rfl) ?_; rintro _ ⟨b20, rfl⟩
    refine re rfl (e_store rfl rfl rfl rfl rfl (Nat.le_of_ble_eq_true rfl) rfl) ?_; rintro _ rfl
    refine run_nil ?_
    refine ev_seq ?_
    refine ev_region ?_
    refine rq rfl rfl (q_move rfl) ?_
    refine rq rfl rfl (q_loadN rfl rfl rfl rfl) ?_
    refine rq rfl rfl (q_move rfl) ?_
    refine rq rfl rfl (q_move rfl) ?_
    refine rq rfl rfl (q_add rfl rfl) ?_
    refine rq rfl rfl (q_build rfl (.v rfl rfl rfl rfl rfl (.v rfl rfl rfl rfl rfl (.v rfl rfl rfl rfl rfl .nil)))) ?_
    refine rq rfl rfl (q_buildSlice (z := 5) (xs := List.map GRead.e ([(⟨(⟨1, a1, k7⟩ : GKey), a2, wr (a2 + 1)⟩ : GRead)] : List GRead)) (fl := true) rfl rfl rfl rfl (by simp [V.plain, V.cells, GRead.e, vi, vb]) rfl) ?_
    obtain ⟨w21, H⟩ := gdd_inv H
    refine re rfl (e_appt rfl rfl rfl (fun _ => ⟨rfl, rfl⟩) rfl rfl rfl w21 rfl) ?_; rintro _ ⟨q22, rfl⟩
    refine rq rfl rfl (q_assign rfl) ?_
    refine run_nil ?_
    refine ev_seq ?_
    refine ev_region ?_
    refine rq rfl rfl (q_fld_p rfl) ?_
    refine rq rfl rfl (q_load1 rfl rfl rfl) ?_
    refine rq rfl rfl (q_loadN rfl rfl rfl rfl) ?_
    refine rq rfl rfl (q_move rfl) ?_
    refine rq rfl rfl (q_move rfl) ?_
    obtain ⟨x23, x23_h, H⟩ := bd_inv H
    refine rq rfl rfl (q_call rfl (.v _ _ (fun e => nomatch e)) (.v rfl (.v rfl (.v rfl (.v rfl ArgsOk.nil)))) inferInstance (backflushref04_At_c  x23_h)) ?_
    refine rq rfl rfl (q_move rfl) ?_
    refine rq rfl rfl (q_extract rfl rfl) ?_
    refine rq rfl rfl (q_extract rfl rfl) ?_
    refine rq rfl rfl (q_assign rfl) ?_
    refine rq rfl rfl (q_assign rfl) ?_
    refine run_nil ?_
    refine ev_seq ?_
    refine ev_seq ?_
    refine ev_region ?_
    refine rq rfl rfl (q_move rfl) ?_
    refine rq rfl rfl (q_not rfl) ?_
    refine run_nil ?_
    refine ev_cond rfl (fun hc => ?_) (fun hc => ?_)
    · replace H := ct hc H
      refine ev_seq ?_
      refine ev_region ?_
      refine rq rfl rfl (q_build rfl .nil) ?_
      refine rq rfl rfl (q_move rfl) ?_
      refine re rfl (e_store rfl rfl rfl rfl rfl (Nat.le_of_ble_eq_true rfl) rfl) ?_; rintro _ rfl
      refine rq rfl rfl (q_assign rfl) ?_
      refine rq rfl rfl (q_assign rfl) ?_
      refine run_nil ?_
      refine ev_ret ?_
      exact ret_ok [GLot.e (⟨0, 0, 0, 0, 0, 0⟩ : GLot), V.l 5 (List.map GRead.e (s5.2 ++ ([(⟨(⟨1, a1, k7⟩ : GKey), a2, wr (a2 + 1)⟩ : GRead)] : List GRead))), vb false] (congrArg (fun r : GLot × (List GRead) × Bool => V.t [GLot.e r.1, V.l 5 (List.map GRead.e r.2.1), vb r.2.2]) (Option.some.inj H)) rfl (.cons (.cellN (z := 6) rfl rfl rfl rfl rfl rfl (.v _ _ (fun _ => rfl))) (.cons (.tmp rfl (.all rfl (List.length_map _) (els_plain fun _ => ⟨rfl, rfl⟩) (fun _ => rfl))) (.cons (.tmp rfl (.v _ _ (fun _ => rfl))) .nil)))
    · replace H := cf hc H
      refine ev_skip ?_
      refine ev_region ?_
      refine rq rfl rfl (q_move rfl) ?_
      refine rq rfl rfl (q_move rfl) ?_
      refine rq rfl rfl (q_buildSlice (z := 1) (xs := List.map vi ([x23.1] : List Int)) (fl := true) rfl rfl rfl rfl (by simp [V.plain, V.cells, vi, vb]) rfl) ?_
      obtain ⟨w24, H⟩ := gdd_inv H
      refine re rfl (e_appt rfl rfl rfl (fun _ => ⟨rfl, rfl⟩) rfl rfl rfl w24 rfl) ?_; rintro _ ⟨q25, rfl⟩
      refine rq rfl rfl (q_assign rfl) ?_
      refine run_nil ?_
      refine ev_region ?_
      refine rq rfl rfl (q_move rfl) ?_
      refine rq rfl rfl (q_add rfl rfl) ?_
      refine rq rfl rfl (q_assign rfl) ?_
      refine run_nil ?_
      exact ⟨_, _, _, n19_e, H, ⟨q25, q22, rfl⟩, shift_mk ⟨⟨_, rfl, (.flat rfl)⟩, ⟨⟨_, rfl, (.flat rfl)⟩, ⟨⟨_, rfl, (.flat rfl)⟩, ⟨⟨_, rfl, .rfl⟩, ⟨⟨_, rfl, .rfl⟩, ⟨⟨_, rfl, .rfl⟩, ⟨⟨_, rfl, (.flat rfl)⟩, ⟨⟨_, rfl, .rfl⟩, ⟨⟨_, rfl, .rfl⟩, ⟨⟨_, rfl, (.eq (congrArg (fun n => D.v true (vi n)) (wrap_succ' (by omega) w18 w17)))⟩, trivial⟩⟩⟩⟩⟩⟩⟩⟩⟩⟩ ⟨(.e rfl), ⟨(.w rfl (.cons (.flat rfl) (.cons (.flat rfl) (.cons (.flat rfl) (.cons (.flat rfl) (.cons (.flat rfl) (.cons (.flat rfl) .nil))))))), ⟨(.e rfl), ⟨(.e rfl), trivial⟩⟩⟩⟩ rfl rfl⟩
  · replace H := forN_out hc w14 H
    refine ev_exit ?_
    refine ev_seq ?_
    obtain ⟨x26, x26_h, H⟩ := bd_inv H
    obtain ⟨x27, x27_h, H⟩ := bd_inv H
    obtain ⟨x28, x28_h, H⟩ := bd_inv H
    obtain ⟨x29, x29_h, H⟩ := bd_inv H
    obtain ⟨x30, x30_h, H⟩ := bd_inv H
    refine ev_drawX (fun i => (assocN [(17, [17]), (18, [17])] i).getD []) rfl ?_
    refine xq (r := some _) [17] 0 (.start _) rfl (by kernel_rfl) (by kernel_rfl) ⟨rfl, .inl ⟨rfl, Quiet.norm (q_move rfl)⟩⟩ rfl (fun hcl => ?_)
    refine xq (r := some _) [17] 1 hcl rfl (by kernel_rfl) (by kernel_rfl) ⟨rfl, .inl ⟨rfl, Quiet.norm (q_move rfl)⟩⟩ rfl (fun hcl => ?_)
    refine xq (r := some _) [17] 2 hcl rfl (by kernel_rfl) (by kernel_rfl) ⟨rfl, .inl ⟨rfl, Quiet.norm (q_idx_pl rfl rfl (idx_inv x26_h).1 (idx_inv x26_h).2.2.2)⟩⟩ rfl (fun hcl => ?_)
    refine xq (r := some _) [17] 3 hcl rfl (by kernel_rfl) (by kernel_rfl) ⟨rfl, .inl ⟨rfl, Quiet.norm (q_load_el0p (E := vi) (fun _ => rfl) rfl rfl (idx_inv x26_h).2.1)⟩⟩ rfl (fun hcl => ?_)
    refine xq (r := some _) [17] 4 hcl rfl (by kernel_rfl) (by kernel_rfl) ⟨rfl, .inl ⟨rfl, Quiet.norm (q_move rfl)⟩⟩ rfl (fun hcl => ?_)
    refine xq (r := some _) [17] 5 hcl rfl (by kernel_rfl) (by kernel_rfl) ⟨rfl, .inl ⟨rfl, Quiet.norm (q_idx_pl rfl rfl (idx_inv x27_h).1 (idx_inv x27_h).2.2.2)⟩⟩ rfl (fun hcl => ?_)
    refine xq (r := some _) [17] 6 hcl rfl (by kernel_rfl) (by kernel_rfl) ⟨rfl, .inl ⟨rfl, Quiet.norm (q_load_el0p (E := vi) (fun _ => rfl) rfl rfl (idx_inv x27_h).2.1)⟩⟩ rfl (fun hcl => ?_)
    refine xq (r := some _) [17] 7 hcl rfl (by kernel_rfl) (by kernel_rfl) ⟨rfl, .inl ⟨rfl, Quiet.norm (q_move rfl)⟩⟩ rfl (fun hcl => ?_)
    refine xq (r := some _) [17] 8 hcl rfl (by kernel_rfl) (by kernel_rfl) ⟨rfl, .inl ⟨rfl, Quiet.norm (q_idx_pl rfl rfl (idx_inv x28_h).1 (idx_inv x28_h).2.2.2)⟩⟩ rfl (fun hcl => ?_)
    refine xq (r := some _) [17] 9 hcl rfl (by kernel_rfl) (by kernel_rfl) ⟨rfl, .inl ⟨rfl, Quiet.norm (q_load_el0p (E := vi) (fun _ => rfl) rfl rfl (idx_inv x28_h).2.1)⟩⟩ rfl (fun hcl => ?_)
    refine xq (r := some _) [17] 10 hcl rfl (by kernel_rfl) (by kernel_rfl) ⟨rfl, .inl ⟨rfl, Quiet.norm (q_move rfl)⟩⟩ rfl (fun hcl => ?_)
    refine xq (r := some _) [17] 11 hcl rfl (by kernel_rfl) (by kernel_rfl) ⟨rfl, .inl ⟨rfl, Quiet.norm (q_idx_pl rfl rfl (idx_inv x29_h).1 (idx_inv x29_h).2.2.2)⟩⟩ rfl (fun hcl => ?_)
    refine xq (r := some _) [17] 12 hcl rfl (by kernel_rfl) (by kernel_rfl) ⟨rfl, .inl ⟨rfl, Quiet.norm (q_load_el0p (E := vi) (fun _ => rfl) rfl rfl (idx_inv x29_h).2.1)⟩⟩ rfl (fun hcl => ?_)
    refine xq (r := some _) [17] 13 hcl rfl (by kernel_rfl) (by kernel_rfl) ⟨rfl, .inl ⟨rfl, Quiet.norm (q_move rfl)⟩⟩ rfl (fun hcl => ?_)
    refine xq (r := some _) [17] 14 hcl rfl (by kernel_rfl) (by kernel_rfl) ⟨rfl, .inl ⟨rfl, Quiet.norm (q_idx_pl rfl rfl (idx_inv x30_h).1 (idx_inv x30_h).2.2.2)⟩⟩ rfl (fun hcl => ?_)
    refine xq (r := some _) [17] 15 hcl rfl (by kernel_rfl) (by kernel_rfl) ⟨rfl, .inl ⟨rfl, Quiet.norm (q_load_el0p (E := vi) (fun _ => rfl) rfl rfl (idx_inv x30_h).2.1)⟩⟩ rfl (fun hcl => ?_)
    refine xq (r := some _) [17] 16 hcl rfl (by kernel_rfl) (by kernel_rfl) ⟨rfl, .inl ⟨rfl, Quiet.norm (q_build rfl (.v rfl rfl rfl rfl rfl (.v rfl rfl rfl rfl rfl (.v rfl rfl rfl rfl rfl (.v rfl rfl rfl rfl rfl (.v rfl rfl rfl rfl rfl (.v rfl rfl rfl rfl rfl .nil)))))))⟩⟩ rfl (fun hcl => ?_)
    refine xb hcl (l := [17]) (by kernel_rfl) (by simp) (fun i hi hcl => ?_)
    obtain rfl : i = 17 := by simpa using hi
    refine xe rfl (x_alloc 17 0 rfl rfl rfl) ?_; rintro _ ⟨b32, rfl⟩
    refine xb hcl (l := [18]) (by kernel_rfl) (by simp) (fun i hi hcl => ?_)
    obtain rfl : i = 18 := by simpa using hi
    refine xe rfl (x_store rfl rfl rfl rfl rfl (Nat.le_of_ble_eq_true rfl) rfl rfl) ?_; rintro _ rfl
    refine xn (by kernel_rfl) ?_
    refine ev_seq ?_
    refine ev_seq ?_
    refine ev_region ?_
    refine rq rfl rfl (q_loadN rfl rfl rfl rfl) ?_
    obtain ⟨x33, x33_h, H⟩ := bd_inv H
    refine rq rfl rfl (q_call rfl (.v _ _ (fun e => nomatch e)) (.v rfl ArgsOk.nil) inferInstance (backflushref18_Right_c  x33_h)) ?_
    refine rq rfl rfl (q_not rfl) ?_
    refine run_nil ?_
    refine ev_cond rfl (fun hc => ?_) (fun hc => ?_)
    · replace H := ct hc H
      refine ev_seq ?_
      refine ev_region ?_
      refine rq rfl rfl (q_build rfl .nil) ?_
      refine rq rfl rfl (q_move rfl) ?_
      refine re rfl (e_store rfl rfl rfl rfl rfl (Nat.le_of_ble_eq_true rfl) rfl) ?_; rintro _ rfl
      refine rq rfl rfl (q_assign rfl) ?_
      refine rq rfl rfl (q_assign rfl) ?_
      refine run_nil ?_
      refine ev_ret ?_
      exact ret_ok [GLot.e (⟨0, 0, 0, 0, 0, 0⟩ : GLot), V.l 5 (List.map GRead.e s5.2), vb false] (congrArg (fun r : GLot × (List GRead) × Bool => V.t [GLot.e r.1, V.l 5 (List.map GRead.e r.2.1), vb r.2.2]) (Option.some.inj H)) rfl (.cons (.cellN (z := 6) rfl rfl rfl rfl rfl rfl (.v _ _ (fun _ => rfl))) (.cons (.tmp rfl (.all rfl (List.length_map _) (els_plain fun _ => ⟨rfl, rfl⟩) (fun _ => rfl))) (.cons (.tmp rfl (.v _ _ (fun _ => rfl))) .nil)))
    · replace H := cf hc H
      refine ev_skip ?_
      refine ev_seq ?_
      refine ev_region ?_
      refine rq rfl rfl (q_loadN rfl rfl rfl rfl) ?_
      refine rq rfl rfl (q_move rfl) ?_
      refine re rfl (e_store rfl rfl rfl rfl rfl (Nat.le_of_ble_eq_true rfl) rfl) ?_; rintro _ rfl
      refine rq rfl rfl (q_assign rfl) ?_
      refine rq rfl rfl (q_assign rfl) ?_
      refine run_nil ?_
      refine ev_ret ?_
      exact ret_ok [GLot.e (⟨a1, x26, x27, x28, x29, x30⟩ : GLot), V.l 5 (List.map GRead.e s5.2), vb true] (congrArg (fun r : GLot × (List GRead) × Bool => V.t [GLot.e r.1, V.l 5 (List.map GRead.e r.2.1), vb r.2.2]) (Option.some.inj H)) rfl (.cons (.cellN (z := 6) rfl rfl rfl rfl rfl rfl (.v _ _ (fun _ => rfl))) (.cons (.tmp rfl (.all rfl (List.length_map _) (els_plain fun _ => ⟨rfl, rfl⟩) (fun _ => rfl))) (.cons (.tmp rfl (.v _ _ (fun _ => rfl))) .nil)))
end Bf
