import Derived.Test.YtedblpbpoekdlaaU2
import Derived.Test.YtedblpbpoekdlaaF29
namespace Bf
open Go Go.RowKit Go.Proofs
attribute [local irreducible] Quiet Eff RunS Ev PureC Shift RunQ RetQ RetR SeqQ
set_option linter.unusedVariables false
set_option maxRecDepth 4000
structure GLine where
  item : Int
  plant : Int
  config : Int
  deriving Inhabited, DecidableEq
def GLine.e (x : GLine) : V := .st [vi x.item, vi x.plant, vi x.config]
def GLot.eqb (x y : GLot) : Bool := (x.no_ == y.no_ && (x.item == y.item && (x.plant == y.plant && (x.amount == y.amount && (x.expiry == y.expiry && (x.state == y.state && true))))))
def GRead.eqb (x y : GRead) : Bool := (x.key.kind == y.key.kind && (x.key.subject == y.key.subject && (x.key.object == y.key.object && (x.from_ == y.from_ && (x.to_ == y.to_ && true)))))
def GSpan.eqb (x y : GSpan) : Bool := (x.from_ == y.from_ && (x.to_ == y.to_ && true))
def GLine.eqb (x y : GLine) : Bool := (x.item == y.item && (x.plant == y.plant && (x.config == y.config && true)))
def slices_stableCmpFunc_Lot_m (a0 : List GLot) (a1 : Int) (a2 : GLot → GLot → Option Int) : Option (List GLot) := iter (fun (s1 : Int × Int × (List GLot)) loop2 => bif decide (s1.2.1 ≤ a1) then (bd (slices_insertionSortCmpFunc_Lot_m s1.2.2 s1.1 s1.2.1 a2) fun x6 => gd (decide (x6.length = s1.2.2.length)) <| loop2 (s1.2.1, wr (s1.2.1 + 20), x6)) else (bd (slices_insertionSortCmpFunc_Lot_m s1.2.2 s1.1 a1 a2) fun x8 => gd (decide (x8.length = s1.2.2.length)) <| iter (fun (s10 : Int) loop11 => bif decide (s10 < a1) then (iter (fun (s13 : Unit) loop14 => bif decide ((wr (2 * s10)) ≤ a1) then (none) else (bif decide ((wr (0 + s10)) < a1) then (none) else (loop11 (wr (s10 * 2))))) 1048576 ()) else (some x8)) 1048576 20)) 1048576 (0, 20, a0)
theorem slices_stableCmpFunc_Lot_c {a0 : List GLot} {q_a0 : Pl} {a1 : Int} {a2_g : Nat} {a2_k : List V} {a2 : GLot → GLot → Option Int} [TFn Try.prog a2_g] (a2_h : ∀ y0 y1 r, a2 y0 y1 = some r → PureC Try.prog true a2_g ([GLot.e y0, GLot.e y1] ++ a2_k) (vi r)) {f_a1 : Bool} {f_a2 : Bool} {r : (List GLot)} (H : slices_stableCmpFunc_Lot_m a0 a1 a2 = some r) : FnR Try.prog 92 [.o 8000 0 q_a0 6 0 a0.length, .v f_a1 (vi a1), .v f_a2 (.c a2_g a2_k)] [.e 8000 0 q_a0 (.row 60 (els true (List.map GLot.e a0)))] (fun d es' => d = .t [] ∧ es' = [.e 8000 0 q_a0 (.row 60 (els true (List.map GLot.e r)))]) := by
  unfold slices_stableCmpFunc_Lot_m at H
  refine fnr_intro (N := 63) Try.func92 rfl rfl rfl rfl fun C => ?_
  refine ev_shift (shift_mk (fs := [(0, .o 8000 0 q_a0 6 0 a0.length), (1, .v true (vi a1)), (2, .v false (.c a2_g a2_k))]) (es := [.e 8000 0 q_a0 (.row 60 (els true (List.map GLot.e a0)))]) ⟨⟨_, rfl, .rfl⟩, ⟨⟨_, rfl, (.flat rfl)⟩, ⟨⟨_, rfl, .old⟩, trivial⟩⟩⟩ ⟨(.e rfl), trivial⟩ rfl rfl) ?_
  refine ev_seq ?_
  refine ev_region ?_
  refine rq rfl rfl (q_assign rfl) ?_
  refine run_nil ?_
  refine ev_seq ?_
  refine ev_region ?_
  refine rq rfl rfl (q_move rfl) ?_
  refine rq rfl rfl (q_assign rfl) ?_
  refine rq rfl rfl (q_assign rfl) ?_
  refine run_nil ?_
  refine ev_seq ?_
  refine ev_block ?_
  refine ev_iter H (fun s1 σ' => σ' = mkS [(0, .o 8000 0 q_a0 6 0 s1.2.2.length), (1, .v true (vi a1)), (2, .v false (.c a2_g a2_k)), (6, .v true (vi 20)), (7, .v true (vi s1.1)), (8, .v true (vi s1.2.1))] [.e 8000 0 q_a0 (.row 60 (els true (List.map GLot.e s1.2.2)))] [] (0, false)) ⟨_, rfl, shift_mk ⟨⟨_, rfl, .rfl⟩, ⟨⟨_, rfl, (.flat rfl)⟩, ⟨⟨_, rfl, .rfl⟩, ⟨⟨_, rfl, (.flat rfl)⟩, ⟨⟨_, rfl, (.flat rfl)⟩, ⟨⟨_, rfl, (.flat rfl)⟩, trivial⟩⟩⟩⟩⟩⟩ ⟨(.e rfl), trivial⟩ rfl rfl⟩ ?_
  rintro n17 s1 _ rfl H
  refine ev_seq ?_
  refine ev_seq ?_
  refine ev_region ?_
  refine rq rfl rfl (q_move rfl) ?_
  refine rq rfl rfl (q_move rfl) ?_
  refine rq rfl rfl (q_leq rfl rfl) ?_
  refine run_nil ?_
  refine ev_cond rfl (fun hc => ?_) (fun hc => ?_)
  · replace H := ct hc H
    refine ev_skip ?_
    refine ev_block ?_
    refine ev_seq ?_
    refine ev_region ?_
    refine rq rfl rfl (q_move rfl) ?_
    refine rq rfl rfl (q_move rfl) ?_
    refine rq rfl rfl (q_move rfl) ?_
    refine rq rfl rfl (q_move rfl) ?_
    obtain ⟨x6, x6_h, H⟩ := bd_inv H
    obtain ⟨w7, H⟩ := gdd_inv H
    refine re rfl (e_callR [8000] rfl (.v _ _ []) rfl inferInstance (slices_insertionSortCmpFunc_Lot_c (a3_h := a2_h) x6_h) ⟨(.e rfl), trivial⟩ rfl rfl) ?_; rintro _ ⟨_, _, ⟨rfl, rfl⟩, rfl⟩
    refine run_shift (shift_as (s := 0) (d' := .o 8000 0 q_a0 6 0 x6.length) rfl (by rw [w7]; first | done | rfl | simp [normD])) ?_
    refine run_shift (shift_as (s := 14) (d' := .o 8000 0 q_a0 6 0 x6.length) rfl (by rw [w7]; first | done | rfl | simp [normD])) ?_
    refine run_nil ?_
    refine ev_seq ?_
    refine ev_region ?_
    refine rq rfl rfl (q_move rfl) ?_
    refine rq rfl rfl (q_assign rfl) ?_
    refine run_nil ?_
    refine ev_region ?_
    refine rq rfl rfl (q_move rfl) ?_
    refine rq rfl rfl (q_move rfl) ?_
    refine rq rfl rfl (q_add rfl rfl) ?_
    refine rq rfl rfl (q_assign rfl) ?_
    refine run_nil ?_
    exact ⟨_, _, H, rfl, shift_mk ⟨⟨_, rfl, .rfl⟩, ⟨⟨_, rfl, (.flat rfl)⟩, ⟨⟨_, rfl, .rfl⟩, ⟨⟨_, rfl, (.flat rfl)⟩, ⟨⟨_, rfl, (.flat rfl)⟩, ⟨⟨_, rfl, (.flat rfl)⟩, trivial⟩⟩⟩⟩⟩⟩ ⟨(.e rfl), trivial⟩ rfl rfl⟩
  · replace H := cf hc H
    refine ev_exit ?_
    refine ev_seq ?_
    refine ev_region ?_
    refine rq rfl rfl (q_move rfl) ?_
    refine rq rfl rfl (q_move rfl) ?_
    refine rq rfl rfl (q_move rfl) ?_
    refine rq rfl rfl (q_move rfl) ?_
    obtain ⟨x8, x8_h, H⟩ := bd_inv H
    obtain ⟨w9, H⟩ := gdd_inv H
    refine re rfl (e_callR [8000] rfl (.v _ _ []) rfl inferInstance (slices_insertionSortCmpFunc_Lot_c (a3_h := a2_h) x8_h) ⟨(.e rfl), trivial⟩ rfl rfl) ?_; rintro _ ⟨_, _, ⟨rfl, rfl⟩, rfl⟩
    refine run_shift (shift_as (s := 0) (d' := .o 8000 0 q_a0 6 0 x8.length) rfl (by rw [w9]; first | done | rfl | simp [normD])) ?_
    refine run_shift (shift_as (s := 23) (d' := .o 8000 0 q_a0 6 0 x8.length) rfl (by rw [w9]; first | done | rfl | simp [normD])) ?_
    refine run_nil ?_
    refine ev_block ?_
    refine ev_iter H (fun s10 σ' => σ' = mkS [(0, .o 8000 0 q_a0 6 0 x8.length), (1, .v true (vi a1)), (2, .v false (.c a2_g a2_k)), (6, .v true (vi s10))] [.e 8000 0 q_a0 (.row 60 (els true (List.map GLot.e x8)))] [] (0, false)) ⟨_, rfl, shift_mk ⟨⟨_, rfl, .rfl⟩, ⟨⟨_, rfl, (.flat rfl)⟩, ⟨⟨_, rfl, .rfl⟩, ⟨⟨_, rfl, (.flat rfl)⟩, trivial⟩⟩⟩⟩ ⟨(.e rfl), trivial⟩ rfl rfl⟩ ?_
    rintro n16 s10 _ rfl H
    refine ev_seq ?_
    refine ev_seq ?_
    refine ev_region ?_
    refine rq rfl rfl (q_move rfl) ?_
    refine rq rfl rfl (q_move rfl) ?_
    refine rq rfl rfl (q_lss rfl rfl) ?_
    refine run_nil ?_
    refine ev_cond rfl (fun hc => ?_) (fun hc => ?_)
    · replace H := ct hc H
      refine ev_skip ?_
      refine ev_block ?_
      refine ev_seq ?_
      refine ev_region ?_
      refine rq rfl rfl (q_move rfl) ?_
      refine rq rfl rfl (q_mul rfl rfl) ?_
      refine rq rfl rfl (q_assign rfl) ?_
      refine rq rfl rfl (q_assign rfl) ?_
      refine run_nil ?_
      refine ev_seq ?_
      refine ev_block ?_
      refine ev_iter H (fun s13 σ' => σ' = mkS [(0, .o 8000 0 q_a0 6 0 x8.length), (1, .v true (vi a1)), (2, .v false (.c a2_g a2_k)), (6, .v true (vi s10)), (7, .v true (vi 0)), (8, .v true (vi (wr (2 * s10))))] [.e 8000 0 q_a0 (.row 60 (els true (List.map GLot.e x8)))] [] (0, false)) ⟨_, rfl, shift_mk ⟨⟨_, rfl, .rfl⟩, ⟨⟨_, rfl, (.flat rfl)⟩, ⟨⟨_, rfl, .rfl⟩, ⟨⟨_, rfl, (.flat rfl)⟩, ⟨⟨_, rfl, (.flat rfl)⟩, ⟨⟨_, rfl, (.flat rfl)⟩, trivial⟩⟩⟩⟩⟩⟩ ⟨(.e rfl), trivial⟩ rfl rfl⟩ ?_
      rintro n15 s13 _ rfl H
      refine ev_seq ?_
      refine ev_seq ?_
      refine ev_region ?_
      refine rq rfl rfl (q_move rfl) ?_
      refine rq rfl rfl (q_move rfl) ?_
      refine rq rfl rfl (q_leq rfl rfl) ?_
      refine run_nil ?_
      refine ev_cond rfl (fun hc => ?_) (fun hc => ?_)
      · replace H := ct hc H
        refine ev_skip ?_
        refine ev_block ?_
        refine ev_seq ?_
        refine ev_region ?_
        refine rq rfl rfl (q_move rfl) ?_
        refine rq rfl rfl (q_move rfl) ?_
        refine rq rfl rfl (q_move rfl) ?_
        refine rq rfl rfl (q_move rfl) ?_
        refine rq rfl rfl (q_add rfl rfl) ?_
        refine rq rfl rfl (q_move rfl) ?_
        refine rq rfl rfl (q_move rfl) ?_
        cases H
      · replace H := cf hc H
        refine ev_exit ?_
        refine ev_seq ?_
        refine ev_seq ?_
        refine ev_region ?_
        refine rq rfl rfl (q_move rfl) ?_
        refine rq rfl rfl (q_move rfl) ?_
        refine rq rfl rfl (q_add rfl rfl) ?_
        refine rq rfl rfl (q_assign rfl) ?_
        refine run_nil ?_
        refine ev_seq ?_
        refine ev_region ?_
        refine rq rfl rfl (q_move rfl) ?_
        refine rq rfl rfl (q_move rfl) ?_
        refine rq rfl rfl (q_lss rfl rfl) ?_
        refine run_nil ?_
        refine ev_cond rfl (fun hc => ?_) (fun hc => ?_)
        · replace H := ct hc H
          refine ev_region ?_
          refine rq rfl rfl (q_move rfl) ?_
          refine rq rfl rfl (q_move rfl) ?_
          refine rq rfl rfl (q_move rfl) ?_
          refine rq rfl rfl (q_move rfl) ?_
          refine rq rfl rfl (q_move rfl) ?_
          cases H
        · replace H := cf hc H
          refine ev_skip ?_
          refine ev_region ?_
          refine rq rfl rfl (q_move rfl) ?_
          refine rq rfl rfl (q_mul rfl rfl) ?_
          refine rq rfl rfl (q_assign rfl) ?_
          refine run_nil ?_
          exact ⟨_, _, H, rfl, shift_mk ⟨⟨_, rfl, .rfl⟩, ⟨⟨_, rfl, (.flat rfl)⟩, ⟨⟨_, rfl, .rfl⟩, ⟨⟨_, rfl, (.flat rfl)⟩, trivial⟩⟩⟩⟩ ⟨(.e rfl), trivial⟩ rfl rfl⟩
    · replace H := cf hc H
      refine ev_exit ?_
      have hr := Option.some.inj H
      exact endR [] [.e 8000 0 q_a0 (.row 60 (els true (List.map GLot.e x8)))] rfl .nil ⟨by cases hr; rfl, by cases hr; rfl⟩ ⟨(.e rfl), trivial⟩
def slices_SortStableFunc_Lot_m (a0 : List GLot) (a1 : GLot → GLot → Option Int) : Option (List GLot) := bd (slices_stableCmpFunc_Lot_m a0 ((a0.length : Nat) : Int) a1) fun x1 => gd (decide (x1.length = a0.length)) <| some x1
theorem slices_SortStableFunc_Lot_c {a0 : List GLot} {q_a0 : Pl} {a1_g : Nat} {a1_k : List V} {a1 : GLot → GLot → Option Int} [TFn Try.prog a1_g] (a1_h : ∀ y0 y1 r, a1 y0 y1 = some r → PureC Try.prog true a1_g ([GLot.e y0, GLot.e y1] ++ a1_k) (vi r)) {f_a1 : Bool} {r : (List GLot)} (H : slices_SortStableFunc_Lot_m a0 a1 = some r) : FnR Try.prog 65 [.o 8000 0 q_a0 6 0 a0.length, .v f_a1 (.c a1_g a1_k)] [.e 8000 0 q_a0 (.row 60 (els true (List.map GLot.e a0)))] (fun d es' => d = .t [] ∧ es' = [.e 8000 0 q_a0 (.row 60 (els true (List.map GLot.e r)))]) := by
  unfold slices_SortStableFunc_Lot_m at H
  refine fnr_intro (N := 9) Try.func65 rfl rfl rfl rfl fun C => ?_
  refine ev_shift (shift_mk (fs := [(0, .o 8000 0 q_a0 6 0 a0.length), (1, .v false (.c a1_g a1_k))]) (es := [.e 8000 0 q_a0 (.row 60 (els true (List.map GLot.e a0)))]) ⟨⟨_, rfl, .rfl⟩, ⟨⟨_, rfl, .old⟩, trivial⟩⟩ ⟨(.e rfl), trivial⟩ rfl rfl) ?_
  refine ev_region ?_
  refine rq rfl rfl (q_move rfl) ?_
  refine rq rfl rfl (q_move rfl) ?_
  refine rq rfl rfl (q_len_o rfl) ?_
  refine rq rfl rfl (q_move rfl) ?_
  obtain ⟨x1, x1_h, H⟩ := bd_inv H
  obtain ⟨w2, H⟩ := gdd_inv H
  refine re rfl (e_callR [8000] rfl (.v _ _ []) rfl inferInstance (slices_stableCmpFunc_Lot_c (a2_h := a1_h) x1_h) ⟨(.e rfl), trivial⟩ rfl rfl) ?_; rintro _ ⟨_, _, ⟨rfl, rfl⟩, rfl⟩
  refine run_shift (shift_as (s := 0) (d' := .o 8000 0 q_a0 6 0 x1.length) rfl (by rw [w2]; first | done | rfl | simp [normD])) ?_
  refine run_shift (shift_as (s := 4) (d' := .o 8000 0 q_a0 6 0 x1.length) rfl (by rw [w2]; first | done | rfl | simp [normD])) ?_
  refine run_shift (shift_as (s := 5) (d' := .o 8000 0 q_a0 6 0 x1.length) rfl (by rw [w2]; first | done | rfl | simp [normD])) ?_
  refine run_nil ?_
  have hr := Option.some.inj H
  exact endR [] [.e 8000 0 q_a0 (.row 60 (els true (List.map GLot.e x1)))] rfl .nil ⟨by cases hr; rfl, by cases hr; rfl⟩ ⟨(.e rfl), trivial⟩
def stock_Usable_1_m (a0 : GLot) (a1 : GLot) : Option Int := bd (cmp_Compare_int_m a0.expiry a1.expiry) fun x3 => some x3
theorem stock_Usable_1_c {a0 : GLot} {a1 : GLot} {r : Int} (H : stock_Usable_1_m a0 a1 = some r) : PureC Try.prog true 66 [GLot.e a0, GLot.e a1] (vi r) := by
  unfold stock_Usable_1_m at H
  refine pure_intro (N := 10) Try.func66 rfl rfl rfl rfl fun C hO => ?_
  refine ev_shift (shift_mk (fs := [(0, .v true (GLot.e a0)), (1, .v true (GLot.e a1))]) (es := []) ⟨⟨_, rfl, (.flat rfl)⟩, ⟨⟨_, rfl, (.flat rfl)⟩, trivial⟩⟩ trivial rfl rfl) ?_
  refine ev_seq ?_
  refine ev_region ?_
  refine re rfl (e_box 2 0 rfl rfl rfl) ?_; rintro _ ⟨b1, rfl⟩
  refine re rfl (e_box 3 0 rfl rfl rfl) ?_; rintro _ ⟨b2, rfl⟩
  refine rq rfl rfl (q_assign rfl) ?_
  refine run_nil ?_
  refine ev_seq ?_
  refine ev_region ?_
  refine rq rfl rfl (q_fld_p rfl) ?_
  refine rq rfl rfl (q_load1 rfl rfl rfl) ?_
  refine rq rfl rfl (q_fld_p rfl) ?_
  refine rq rfl rfl (q_load1 rfl rfl rfl) ?_
  obtain ⟨x3, x3_h, H⟩ := bd_inv H
  refine rq rfl rfl (q_call rfl (.v _ _ (fun e => nomatch e)) (.v rfl (.v rfl ArgsOk.nil)) inferInstance (cmp_Compare_int_c  x3_h)) ?_
  refine rq rfl rfl (q_assign rfl) ?_
  refine run_nil ?_
  refine ev_ret ?_
  exact ret_ok [vi x3] (congrArg (fun r : Int => vi r) (Option.some.inj H)) rfl (.cons (.tmp rfl (.v _ _ (fun _ => rfl))) .nil)
def stock_Usable_m (a0 : GWorld) (a1 : GLine) (a2 : Int) (a3 : Int) : Option ((List GLot) × (List GRead)) := bif a1.config != 0 then (some ([], [])) else (bd (stock_Lots_m a0 a2 a3) fun x3 => forL x3.1 (fun (k6 : Nat) (x10 : GLot) (s4 : (List GLot)) loop5 => jn (fun (p14 : List GLot) => loop5 p14) fun j13 => bif bif bif bif x10.item == a1.item then x10.plant == a1.plant else false then x10.state == 0 else false then decide (a2 < x10.expiry) else false then (gd (decide ((s4.length + ([x10] : List GLot).length) * 49 ≤ 140737488355328)) <| j13 (s4 ++ ([x10] : List GLot))) else (j13 s4)) (fun (s4 : (List GLot)) => bd (slices_SortStableFunc_Lot_m s4 (fun y0 y1 => stock_Usable_1_m y0 y1)) fun x19 => gd (decide (x19.length = s4.length)) <| some (x19, x3.2)) ([] : List GLot))
theorem stock_Usable_c {a0 : GWorld} {a1 : GLine} {a2 : Int} {a3 : Int} {r : (List GLot) × (List GRead)} (H : stock_Usable_m a0 a1 a2 a3 = some r) : PureC Try.prog true 35 [GWorld.e a0, GLine.e a1, vi a2, vi a3] (V.t [V.l 6 (List.map GLot.e r.1), V.l 5 (List.map GRead.e r.2)]) := by
  unfold stock_Usable_m at H
  refine pure_intro (N := 61) Try.func35 rfl rfl rfl rfl fun C hO => ?_
  refine ev_shift (shift_mk (fs := [(0, .v false (GWorld.e a0)), (1, .v true (GLine.e a1)), (2, .v true (vi a2)), (3, .v true (vi a3))]) (es := []) ⟨⟨_, rfl, .rfl⟩, ⟨⟨_, rfl, (.flat rfl)⟩, ⟨⟨_, rfl, (.flat rfl)⟩, ⟨⟨_, rfl, (.flat rfl)⟩, trivial⟩⟩⟩⟩ trivial rfl rfl) ?_
  refine ev_seq ?_
  refine ev_region ?_
  refine re rfl (e_box 4 0 rfl rfl rfl) ?_; rintro _ ⟨b1, rfl⟩
  refine re rfl (e_box 5 0 rfl rfl rfl) ?_; rintro _ ⟨b2, rfl⟩
  refine rq rfl rfl (q_assign rfl) ?_
  refine rq rfl rfl (q_assign rfl) ?_
  refine run_nil ?_
  refine ev_seq ?_
  refine ev_seq ?_
  refine ev_region ?_
  refine rq rfl rfl (q_fld_p rfl) ?_
  refine rq rfl rfl (q_load1 rfl rfl rfl) ?_
  refine rq rfl rfl (q_nei rfl rfl) ?_
  refine run_nil ?_
  refine ev_cond rfl (fun hc => ?_) (fun hc => ?_)
  · replace H := ct hc H
    refine ev_seq ?_
    refine ev_region ?_
    refine rq rfl rfl (q_assign rfl) ?_
    refine rq rfl rfl (q_assign rfl) ?_
    refine run_nil ?_
    refine ev_ret ?_
    exact ret_ok [V.l 6 (List.map GLot.e []), V.l 5 (List.map GRead.e [])] (congrArg (fun r : (List GLot) × (List GRead) => V.t [V.l 6 (List.map GLot.e r.1), V.l 5 (List.map GRead.e r.2)]) (Option.some.inj H)) rfl (.cons (.tmp rfl (.nil _ _)) (.cons (.tmp rfl (.nil _ _)) .nil))
  · replace H := cf hc H
    refine ev_skip ?_
    refine ev_seq ?_
    refine ev_region ?_
    refine rq rfl rfl (q_loadN rfl rfl rfl rfl) ?_
    refine rq rfl rfl (q_move rfl) ?_
    refine rq rfl rfl (q_move rfl) ?_
    obtain ⟨x3, x3_h, H⟩ := bd_inv H
    refine rq rfl rfl (q_call rfl (.v _ _ (fun e => nomatch e)) (.v rfl (.v rfl (.v rfl ArgsOk.nil))) inferInstance (stock_Lots_c  x3_h)) ?_
    refine rq rfl rfl (q_move rfl) ?_
    refine rq rfl rfl (q_extract rfl rfl) ?_
    refine rq rfl rfl (q_extract rfl rfl) ?_
    refine rq rfl rfl (q_assign rfl) ?_
    refine rq rfl rfl (q_assign rfl) ?_
    refine run_nil ?_
    refine ev_seq ?_
    refine ev_seq ?_
    refine ev_region ?_
    refine rq rfl rfl (q_move rfl) ?_
    refine rq rfl rfl (q_len_t rfl) ?_
    refine rq rfl rfl (q_move rfl) ?_
    refine run_nil ?_
    refine ev_block ?_
    refine ev_len_l (s := 23) rfl fun w12 => ?_
    rw [List.length_map] at w12
    refine ev_forL H (fun k6 s4 σ' => ∃ (q9 : Pl), σ' = mkS [(2, .v true (vi a2)), (5, .p 5 0 b2 0), (8, .o 55 0 q9 6 0 s4.length), (9, .v true (V.l 5 (List.map GRead.e x3.2))), (23, .v true (V.l 6 (List.map GLot.e x3.1))), (24, .v true (vi ((x3.1.length : Nat) : Int))), (25, .v true (vi ((k6 : Nat) : Int)))] [.e 5 0 (some (b2, 3)) (.row 77 [.v true (vi a1.item), .v true (vi a1.plant), .v true (vi a1.config)]), .e 55 0 q9 (.row 60 (els true (List.map GLot.e s4)))] [] (0, false)) ⟨_, ⟨none, rfl⟩, shift_mk ⟨⟨_, rfl, (.flat rfl)⟩, ⟨⟨_, rfl, .rfl⟩, ⟨⟨_, rfl, .nilo⟩, ⟨⟨_, rfl, .rfl⟩, ⟨⟨_, rfl, .rfl⟩, ⟨⟨_, rfl, (.flat rfl)⟩, ⟨⟨_, rfl, .rfl⟩, trivial⟩⟩⟩⟩⟩⟩⟩ ⟨(.w rfl (.cons (.flat rfl) (.cons (.flat rfl) (.cons (.flat rfl) .nil)))), ⟨(.nn rfl), trivial⟩⟩ rfl rfl⟩ ?_
    rintro k6 s4 _ ⟨q9, rfl⟩ _ H
    refine ev_seq ?_
    refine ev_region ?_
    refine rq rfl rfl (q_lss rfl rfl) ?_
    refine run_nil ?_
    refine ev_seq ?_
    refine ev_cond rfl (fun hc => ?_) (fun hc => ?_)
    · obtain ⟨x10, w11, x10_g, H⟩ := forL_in hc H
      have x10_h : idx x3.1 ((k6 : Nat) : Int) = some x10 := by rw [idx_nat]; exact x10_g
      refine ev_skip ?_
      obtain ⟨j13, j13_e, H⟩ := jn_inv H
      refine ev_join (fun σ' => ∃ (p14 : List GLot) (q15 : Pl), j13 p14 = some r ∧ σ' = mkS [(2, .v true (vi a2)), (5, .p 5 0 b2 0), (8, .o 55 0 q15 6 0 p14.length), (9, .v true (V.l 5 (List.map GRead.e x3.2))), (23, .v true (V.l 6 (List.map GLot.e x3.1))), (24, .v true (vi ((x3.1.length : Nat) : Int))), (25, .v true (vi ((k6 : Nat) : Int)))] [.e 5 0 (some (b2, 3)) (.row 77 [.v true (vi a1.item), .v true (vi a1.plant), .v true (vi a1.config)]), .e 55 0 q15 (.row 60 (els true (List.map GLot.e p14)))] [] (0, false)) ?_ ?_
      · rintro _ ⟨p14, q15, H, rfl⟩
        subst j13_e
        refine ev_region ?_
        refine rq rfl rfl (q_add rfl rfl) ?_
        refine rq rfl rfl (q_move rfl) ?_
        refine run_nil ?_
        exact ⟨_, _, w11, H, ⟨q15, rfl⟩, shift_mk ⟨⟨_, rfl, (.flat rfl)⟩, ⟨⟨_, rfl, .rfl⟩, ⟨⟨_, rfl, .rfl⟩, ⟨⟨_, rfl, .rfl⟩, ⟨⟨_, rfl, .rfl⟩, ⟨⟨_, rfl, (.flat rfl)⟩, ⟨⟨_, rfl, (.eq (congrArg (fun n => D.v true (vi n)) (wrap_succ w11 w12)))⟩, trivial⟩⟩⟩⟩⟩⟩⟩ ⟨(.w rfl (.cons (.flat rfl) (.cons (.flat rfl) (.cons (.flat rfl) .nil)))), ⟨(.e rfl), trivial⟩⟩ rfl rfl⟩
      · clear j13_e
        refine ev_block ?_
        refine ev_seq ?_
        refine ev_region ?_
        refine rq rfl rfl (q_idx_l rfl rfl (idx_inv x10_h).1 (map_get (idx_inv x10_h).2.1) rfl) ?_
        refine rq rfl rfl (q_load_e rfl rfl rfl) ?_
        refine re rfl (e_alloc 12 0 rfl rfl) ?_; rintro _ ⟨b16, rfl⟩
        refine re rfl (e_store rfl rfl rfl rfl rfl (Nat.le_of_ble_eq_true rfl) rfl) ?_; rintro _ rfl
        refine run_nil ?_
        refine ev_seq ?_
        refine ev_region ?_
        refine rq rfl rfl (q_fld_p rfl) ?_
        refine rq rfl rfl (q_load1 rfl rfl rfl) ?_
        refine rq rfl rfl (q_fld_p rfl) ?_
        refine rq rfl rfl (q_load1 rfl rfl rfl) ?_
        refine rq rfl rfl (q_eqi rfl rfl) ?_
        refine rq rfl rfl (q_move rfl) ?_
        refine rqc (l := []) ⟨⟨_, _, _, rfl, rfl, rfl, rfl⟩, rfl, fun hc => q_fld_p rfl, trivial⟩ rfl ?_
        refine rqc (l := [35]) ⟨⟨_, _, _, rfl, rfl, rfl, rfl⟩, rfl, fun hc => q_load1 rfl rfl rfl, ⟨fun h => h, trivial⟩⟩ rfl ?_
        refine rqc (l := []) ⟨⟨_, _, _, rfl, rfl, rfl, rfl⟩, rfl, fun hc => q_fld_p rfl, trivial⟩ rfl ?_
        refine rqc (l := [37]) ⟨⟨_, _, _, rfl, rfl, rfl, rfl⟩, rfl, fun hc => q_load1 rfl rfl rfl, ⟨fun h => h, trivial⟩⟩ rfl ?_
        refine rqc (l := [36, 38]) ⟨⟨_, _, _, rfl, rfl, rfl, rfl⟩, rfl, fun hc => q_eqi rfl rfl, ⟨fun h => h, ⟨fun h => h, trivial⟩⟩⟩ rfl ?_
        refine rq rfl rfl (q_pickb rfl rfl rfl (PB.c (fun hp => hp)) PB.v) ?_
        refine rq rfl rfl (q_move rfl) ?_
        refine rqc (l := []) ⟨⟨_, _, _, rfl, rfl, rfl, rfl⟩, rfl, fun hc => q_fld_p rfl, trivial⟩ rfl ?_
        refine rqc (l := [42]) ⟨⟨_, _, _, rfl, rfl, rfl, rfl⟩, rfl, fun hc => q_load1 rfl rfl rfl, ⟨fun h => h, trivial⟩⟩ rfl ?_
        refine rqc (l := [43]) ⟨⟨_, _, _, rfl, rfl, rfl, rfl⟩, rfl, fun hc => q_eqi rfl rfl, ⟨fun h => h, trivial⟩⟩ rfl ?_
        refine rq rfl rfl (q_pickb rfl rfl rfl (PB.c (fun hp => hp)) PB.v) ?_
        refine rq rfl rfl (q_move rfl) ?_
        refine rqc (l := []) ⟨⟨_, _, _, rfl, rfl, rfl, rfl⟩, rfl, fun hc => q_fld_p rfl, trivial⟩ rfl ?_
        refine rqc (l := [47]) ⟨⟨_, _, _, rfl, rfl, rfl, rfl⟩, rfl, fun hc => q_load1 rfl rfl rfl, ⟨fun h => h, trivial⟩⟩ rfl ?_
        refine rqc (l := []) ⟨⟨_, _, _, rfl, rfl, rfl, rfl⟩, rfl, fun hc => q_move rfl, trivial⟩ rfl ?_
        refine rqc (l := [48, 49]) ⟨⟨_, _, _, rfl, rfl, rfl, rfl⟩, rfl, fun hc => q_gtr rfl rfl, ⟨fun h => h, ⟨fun h => h, trivial⟩⟩⟩ rfl ?_
        refine rq rfl rfl (q_pickb rfl rfl rfl (PB.c (fun hp => hp)) PB.v) ?_
        refine run_nil ?_
        refine ev_cond rfl (fun hc => ?_) (fun hc => ?_)
        · replace H := ct hc H
          refine ev_region ?_
          refine rq rfl rfl (q_move rfl) ?_
          refine rq rfl rfl (q_loadN rfl rfl rfl rfl) ?_
          refine rq rfl rfl (q_buildSlice (z := 6) (xs := List.map GLot.e ([x10] : List GLot)) (fl := true) rfl rfl rfl rfl (by simp [V.plain, V.cells, GLot.e, vi, vb]) rfl) ?_
          obtain ⟨w17, H⟩ := gdd_inv H
          refine re rfl (e_appt rfl rfl rfl (fun _ => ⟨rfl, rfl⟩) rfl rfl rfl w17 rfl) ?_; rintro _ ⟨q18, rfl⟩
          refine rq rfl rfl (q_assign rfl) ?_
          refine run_nil ?_
          exact ⟨_, ⟨s4 ++ ([x10] : List GLot), q18, H, rfl⟩, shift_mk ⟨⟨_, rfl, (.flat rfl)⟩, ⟨⟨_, rfl, .rfl⟩, ⟨⟨_, rfl, .rfl⟩, ⟨⟨_, rfl, .rfl⟩, ⟨⟨_, rfl, .rfl⟩, ⟨⟨_, rfl, (.flat rfl)⟩, ⟨⟨_, rfl, (.flat rfl)⟩, trivial⟩⟩⟩⟩⟩⟩⟩ ⟨(.w rfl (.cons (.flat rfl) (.cons (.flat rfl) (.cons (.flat rfl) .nil)))), ⟨(.e rfl), trivial⟩⟩ rfl rfl⟩
        · replace H := cf hc H
          refine ev_skip ?_
          exact ⟨_, ⟨s4, q9, H, rfl⟩, shift_mk ⟨⟨_, rfl, (.flat rfl)⟩, ⟨⟨_, rfl, .rfl⟩, ⟨⟨_, rfl, .rfl⟩, ⟨⟨_, rfl, .rfl⟩, ⟨⟨_, rfl, .rfl⟩, ⟨⟨_, rfl, (.flat rfl)⟩, ⟨⟨_, rfl, (.flat rfl)⟩, trivial⟩⟩⟩⟩⟩⟩⟩ ⟨(.w rfl (.cons (.flat rfl) (.cons (.flat rfl) (.cons (.flat rfl) .nil)))), ⟨(.e rfl), trivial⟩⟩ rfl rfl⟩
    · replace H := forL_out hc H
      refine ev_exit ?_
      refine ev_seq ?_
      refine ev_region ?_
      refine rq rfl rfl (q_move rfl) ?_
      obtain ⟨x19, x19_h, H⟩ := bd_inv H
      obtain ⟨w20, H⟩ := gdd_inv H
      refine run_shift (shift_name 55 0 8000 0 rfl) ?_
      refine run_shift (shift_wkd (s := 57) (d' := .o 8000 0 q9 6 0 s4.length) rfl .olab) ?_
      refine re rfl (e_callR [8000] rfl (.v _ _ []) rfl inferInstance (slices_SortStableFunc_Lot_c (a1_h := fun _ _ _ h => stock_Usable_1_c h) x19_h) ⟨(.e rfl), trivial⟩ rfl rfl) ?_; rintro _ ⟨_, _, ⟨rfl, rfl⟩, rfl⟩
      refine run_shift (shift_name 8000 0 55 0 rfl) ?_
      refine run_shift (shift_as (s := 8) (d' := .o 55 0 q9 6 0 x19.length) rfl (by rw [w20]; first | done | rfl | simp [normD])) ?_
      refine run_nil ?_
      refine ev_seq ?_
      refine ev_region ?_
      refine rq rfl rfl (q_move rfl) ?_
      refine rq rfl rfl (q_move rfl) ?_
      refine rq rfl rfl (q_assign rfl) ?_
      refine rq rfl rfl (q_assign rfl) ?_
      refine run_nil ?_
      refine ev_ret ?_
      exact ret_ok [V.l 6 (List.map GLot.e x19), V.l 5 (List.map GRead.e x3.2)] (congrArg (fun r : (List GLot) × (List GRead) => V.t [V.l 6 (List.map GLot.e r.1), V.l 5 (List.map GRead.e r.2)]) (Option.some.inj H)) rfl (.cons (.tmp rfl (.all rfl (List.length_map _) (els_plain fun _ => ⟨rfl, rfl⟩) (fun _ => rfl))) (.cons (.tmp rfl (.v _ _ (fun _ => rfl))) .nil))
def backflushref18_Same_m (a0 : List GLot) (a1 : List GLot) : Option Bool := bif ((a0.length : Nat) : Int) != ((a1.length : Nat) : Int) then (some false) else (forL a0 (fun (k3 : Nat) (x5 : GLot) (s1 : Unit) loop2 => bd (idx a1 ((k3 : Nat) : Int)) fun x8 => bif !(GLot.eqb x5 x8) then (some false) else (loop2 ())) (fun (s1 : Unit) => some true) ())
theorem backflushref18_Same_c {a0 : List GLot} {a1 : List GLot} {r : Bool} (H : backflushref18_Same_m a0 a1 = some r) : PureC Try.prog true 37 [V.l 6 (List.map GLot.e a0), V.l 6 (List.map GLot.e a1)] (vb r) := by
  unfold backflushref18_Same_m at H
  refine pure_intro (N := 26) Try.func37 rfl rfl rfl rfl fun C hO => ?_
  refine ev_seq ?_
  refine ev_region ?_
  refine rq rfl rfl (q_assign rfl) ?_
  refine run_nil ?_
  refine ev_seq ?_
  refine ev_seq ?_
  refine ev_region ?_
  refine rq rfl rfl (q_move rfl) ?_
  refine rq rfl rfl (q_len_t rfl) ?_
  refine rq rfl rfl (q_move rfl) ?_
  refine rq rfl rfl (q_len_t rfl) ?_
  refine rq rfl rfl (q_nei rfl rfl) ?_
  refine run_nil ?_
  refine ev_cond rfl (fun hc => ?_) (fun hc => ?_)
  · replace H := ct hc H
    refine ev_seq ?_
    refine ev_region ?_
    refine rq rfl rfl (q_assign rfl) ?_
    refine run_nil ?_
    refine ev_ret ?_
    exact ret_ok [vb false] (congrArg (fun r : Bool => vb r) (Option.some.inj H)) rfl (.cons (.tmp rfl (.v _ _ (fun _ => rfl))) .nil)
  · replace H := cf hc H
    refine ev_skip ?_
    refine ev_seq ?_
    refine ev_seq ?_
    refine ev_region ?_
    refine rq rfl rfl (q_assign rfl) ?_
    refine run_nil ?_
    refine ev_block ?_
    refine ev_len_l (s := 0) rfl fun w7 => ?_
    rw [List.length_map] at w7
    refine ev_forL H (fun k3 s1 σ' => σ' = mkS [(0, .v false (V.l 6 (List.map GLot.e a0))), (1, .v false (V.l 6 (List.map GLot.e a1))), (4, .v true (vb false)), (5, .v true (vi ((k3 : Nat) : Int)))] [] [] (0, false)) ⟨_, rfl, shift_mk ⟨⟨_, rfl, .rfl⟩, ⟨⟨_, rfl, .rfl⟩, ⟨⟨_, rfl, (.flat rfl)⟩, ⟨⟨_, rfl, .rfl⟩, trivial⟩⟩⟩⟩ trivial rfl rfl⟩ ?_
    rintro k3 s1 _ rfl _ H
    refine ev_seq ?_
    refine ev_seq ?_
    refine ev_region ?_
    refine rq rfl rfl (q_move rfl) ?_
    refine rq rfl rfl (q_move rfl) ?_
    refine rq rfl rfl (q_len_t rfl) ?_
    refine rq rfl rfl (q_lss rfl rfl) ?_
    refine run_nil ?_
    refine ev_cond rfl (fun hc => ?_) (fun hc => ?_)
    · obtain ⟨x5, w6, x5_g, H⟩ := forL_in hc H
      have x5_h : idx a0 ((k3 : Nat) : Int) = some x5 := by rw [idx_nat]; exact x5_g
      refine ev_skip ?_
      refine ev_seq ?_
      refine ev_block ?_
      refine ev_seq ?_
      obtain ⟨x8, x8_h, H⟩ := bd_inv H
      refine ev_draw rfl (by kernel_rfl) ?_
      refine qq rfl rfl (q_move rfl) ?_
      refine qq rfl rfl (q_move rfl) ?_
      refine qq rfl rfl (q_idx_l rfl rfl (idx_inv x5_h).1 (map_get (idx_inv x5_h).2.1) rfl) ?_
      refine qq rfl rfl (q_load_e rfl rfl rfl) ?_
      refine qq rfl rfl (q_move rfl) ?_
      refine qq rfl rfl (q_move rfl) ?_
      refine qq rfl rfl (q_idx_l rfl rfl (idx_inv x8_h).1 (map_get (idx_inv x8_h).2.1) rfl) ?_
      refine qq rfl rfl (q_load_e rfl rfl rfl) ?_
      refine qq rfl rfl (q_nes rfl rfl (r := GLot.eqb x5 x8) rfl) ?_
      refine qn ?_
      refine ev_cond rfl (fun hc => ?_) (fun hc => ?_)
      · replace H := ct hc H
        refine ev_seq ?_
        refine ev_region ?_
        refine rq rfl rfl (q_assign rfl) ?_
        refine run_nil ?_
        refine ev_ret ?_
        exact ret_ok [vb false] (congrArg (fun r : Bool => vb r) (Option.some.inj H)) rfl (.cons (.tmp rfl (.v _ _ (fun _ => rfl))) .nil)
      · replace H := cf hc H
        refine ev_skip ?_
        refine ev_region ?_
        refine rq rfl rfl (q_move rfl) ?_
        refine rq rfl rfl (q_add rfl rfl) ?_
        refine rq rfl rfl (q_assign rfl) ?_
        refine run_nil ?_
        exact ⟨_, _, w6, H, rfl, shift_mk ⟨⟨_, rfl, .rfl⟩, ⟨⟨_, rfl, .rfl⟩, ⟨⟨_, rfl, (.flat rfl)⟩, ⟨⟨_, rfl, (.eq (congrArg (fun n => D.v true (vi n)) (wrap_succ w6 w7)))⟩, trivial⟩⟩⟩⟩ trivial rfl rfl⟩
    · replace H := forL_out hc H
      refine ev_exit ?_
      refine ev_seq ?_
      refine ev_region ?_
      refine rq rfl rfl (q_assign rfl) ?_
      refine run_nil ?_
      refine ev_ret ?_
      exact ret_ok [vb true] (congrArg (fun r : Bool => vb r) (Option.some.inj H)) rfl (.cons (.tmp rfl (.v _ _ (fun _ => rfl))) .nil)
def backflushref04_SameReads_m (a0 : List GRead) (a1 : List GRead) : Option Bool := bif ((a0.length : Nat) : Int) != ((a1.length : Nat) : Int) then (some false) else (forL a0 (fun (k3 : Nat) (x5 : GRead) (s1 : Unit) loop2 => bd (idx a1 ((k3 : Nat) : Int)) fun x8 => bif !(GRead.eqb x5 x8) then (some false) else (loop2 ())) (fun (s1 : Unit) => some true) ())
theorem backflushref04_SameReads_c {a0 : List GRead} {a1 : List GRead} {r : Bool} (H : backflushref04_SameReads_m a0 a1 = some r) : PureC Try.prog true 21 [V.l 5 (List.map GRead.e a0), V.l 5 (List.map GRead.e a1)] (vb r) := by
  unfold backflushref04_SameReads_m at H
  refine pure_intro (N := 26) Try.func21 rfl rfl rfl rfl fun C hO => ?_
  refine ev_seq ?_
  refine ev_region ?_
  refine rq rfl rfl (q_assign rfl) ?_
  refine run_nil ?_
  refine ev_seq ?_
  refine ev_seq ?_
  refine ev_region ?_
  refine rq rfl rfl (q_move rfl) ?_
  refine rq rfl rfl (q_len_t rfl) ?_
  refine rq rfl rfl (q_move rfl) ?_
  refine rq rfl rfl (q_len_t rfl) ?_
  refine rq rfl rfl (q_nei rfl rfl) ?_
  refine run_nil ?_
  refine ev_cond rfl (fun hc => ?_) (fun hc => ?_)
  · replace H := ct hc H
    refine ev_seq ?_
    refine ev_region ?_
    refine rq rfl rfl (q_assign rfl) ?_
    refine run_nil ?_
    refine ev_ret ?_
    exact ret_ok [vb false] (congrArg (fun r : Bool => vb r) (Option.some.inj H)) rfl (.cons (.tmp rfl (.v _ _ (fun _ => rfl))) .nil)
  · replace H := cf hc H
    refine ev_skip ?_
    refine ev_seq ?_
    refine ev_seq ?_
    refine ev_region ?_
    refine rq rfl rfl (q_assign rfl) ?_
    refine run_nil ?_
    refine ev_block ?_
    refine ev_len_l (s := 0) rfl fun w7 => ?_
    rw [List.length_map] at w7
    refine ev_forL H (fun k3 s1 σ' => σ' = mkS [(0, .v false (V.l 5 (List.map GRead.e a0))), (1, .v false (V.l 5 (List.map GRead.e a1))), (4, .v true (vb false)), (5, .v true (vi ((k3 : Nat) : Int)))] [] [] (0, false)) ⟨_, rfl, shift_mk ⟨⟨_, rfl, .rfl⟩, ⟨⟨_, rfl, .rfl⟩, ⟨⟨_, rfl, (.flat rfl)⟩, ⟨⟨_, rfl, .rfl⟩, trivial⟩⟩⟩⟩ trivial rfl rfl⟩ ?_
    rintro k3 s1 _ rfl _ H
    refine ev_seq ?_
    refine ev_seq ?_
    refine ev_region ?_
    refine rq rfl rfl (q_move rfl) ?_
    refine rq rfl rfl (q_move rfl) ?_
    refine rq rfl rfl (q_len_t rfl) ?_
    refine rq rfl rfl (q_lss rfl rfl) ?_
    refine run_nil ?_
    refine ev_cond rfl (fun hc => ?_) (fun hc => ?_)
    · obtain ⟨x5, w6, x5_g, H⟩ := forL_in hc H
      have x5_h : idx a0 ((k3 : Nat) : Int) = some x5 := by rw [idx_nat]; exact x5_g
      refine ev_skip ?_
      refine ev_seq ?_
      refine ev_block ?_
      refine ev_seq ?_
      obtain ⟨x8, x8_h, H⟩ := bd_inv H
      refine ev_draw rfl (by kernel_rfl) ?_
      refine qq rfl rfl (q_move rfl) ?_
      refine qq rfl rfl (q_move rfl) ?_
      refine qq rfl rfl (q_idx_l rfl rfl (idx_inv x5_h).1 (map_get (idx_inv x5_h).2.1) rfl) ?_
      refine qq rfl rfl (q_load_e rfl rfl rfl) ?_
      refine qq rfl rfl (q_move rfl) ?_
      refine qq rfl rfl (q_move rfl) ?_
      refine qq rfl rfl (q_idx_l rfl rfl (idx_inv x8_h).1 (map_get (idx_inv x8_h).2.1) rfl) ?_
      refine qq rfl rfl (q_load_e rfl rfl rfl) ?_
      refine qq rfl rfl (q_nes rfl rfl (r := GRead.eqb x5 x8) rfl) ?_
      refine qn ?_
      refine ev_cond rfl (fun hc => ?_) (fun hc => ?_)
      · replace H := ct hc H
        refine ev_seq ?_
        refine ev_region ?_
        refine rq rfl rfl (q_assign rfl) ?_
        refine run_nil ?_
        refine ev_ret ?_
        exact ret_ok [vb false] (congrArg (fun r : Bool => vb r) (Option.some.inj H)) rfl (.cons (.tmp rfl (.v _ _ (fun _ => rfl))) .nil)
      · replace H := cf hc H
        refine ev_skip ?_
        refine ev_region ?_
        refine rq rfl rfl (q_move rfl) ?_
        refine rq rfl rfl (q_add rfl rfl) ?_
        refine rq rfl rfl (q_assign rfl) ?_
        refine run_nil ?_
        exact ⟨_, _, w6, H, rfl, shift_mk ⟨⟨_, rfl, .rfl⟩, ⟨⟨_, rfl, .rfl⟩, ⟨⟨_, rfl, (.flat rfl)⟩, ⟨⟨_, rfl, (.eq (congrArg (fun n => D.v true (vi n)) (wrap_succ w6 w7)))⟩, trivial⟩⟩⟩⟩ trivial rfl rfl⟩
    · replace H := forL_out hc H
      refine ev_exit ?_
      refine ev_seq ?_
      refine ev_region ?_
      refine rq rfl rfl (q_assign rfl) ?_
      refine run_nil ?_
      refine ev_ret ?_
      exact ret_ok [vb true] (congrArg (fun r : Bool => vb r) (Option.some.inj H)) rfl (.cons (.tmp rfl (.v _ _ (fun _ => rfl))) .nil)
def backflushlaw18_sane_m  : Option Bool := bd (stock_Put_m (⟨(⟨(⟨[], [], [], [], [], [], [], []⟩ : GSource), [], []⟩ : GTables), []⟩ : GWorld) (⟨3, 1, 0, 5, 9, 0⟩ : GLot) (⟨2, 8⟩ : GSpan) 10) fun x4 => bd (stock_Put_m x4.1 (⟨0, 1, 0, 2, 12, 0⟩ : GLot) (⟨0, 20⟩ : GSpan) 11) fun x6 => bd (stock_Put_m x6.1 (⟨1, 1, 0, 2, 5, 1⟩ : GLot) (⟨0, 20⟩ : GSpan) 11) fun x8 => bd (stock_Put_m (⟨(⟨(⟨[], [], [], [], [], [], [], []⟩ : GSource), [], []⟩ : GTables), []⟩ : GWorld) (⟨0, 0, 0, 0, 0, 0⟩ : GLot) (⟨0, 0⟩ : GSpan) 1) fun x10 => bd (stock_Lot_m x4.1 3 2 10) fun x12 => bd (stock_Lot_m x4.1 3 2 9) fun x14 => bd (stock_Lot_m x4.1 3 8 10) fun x16 => bd (stock_Lot_m x4.1 3 1024 10) fun x18 => bd (stock_Lot_m (⟨(⟨(⟨[], [], [], [], [], [], [], []⟩ : GSource), [], []⟩ : GTables), []⟩ : GWorld) 0 0 0) fun x20 => bd (stock_Lots_m x8.1 4 11) fun x22 => bd (stock_Usable_m x8.1 (⟨1, 0, 0⟩ : GLine) 4 11) fun x23 => bd (stock_Usable_m x8.1 (⟨1, 0, 1⟩ : GLine) 4 11) fun x24 => bif bif bif bif bif bif bif x4.2 != 0 then true else x6.2 != 0 then true else x8.2 != 0 then true else x10.2 != 180 then true else ((x4.1.facts.length : Nat) : Int) != 6 then true else ((x6.1.facts.length : Nat) : Int) != 11 then true else ((x8.1.facts.length : Nat) : Int) != 16 then (some false) else (bdc (bif bif bif bif bif bif bif bif bif bif bif bif x12.2.2 then GLot.eqb x12.1 (⟨3, 1, 0, 5, 9, 0⟩ : GLot) else false then ((x12.2.1.length : Nat) : Int) == 6 else false then !x14.2.2 else false then ((x14.2.1.length : Nat) : Int) == 1 else false then !x16.2.2 else false then ((x16.2.1.length : Nat) : Int) == 2 else false then !x18.2.2 else false then ((x18.2.1.length : Nat) : Int) == 0 else false then !x20.2.2 else false then ((x20.2.1.length : Nat) : Int) == 1 else false then ((x22.1.length : Nat) : Int) == 3 else false then ((x22.2.length : Nat) : Int) == 17 else false) (backflushref18_Same_m x23.1 ([(⟨3, 1, 0, 5, 9, 0⟩ : GLot), (⟨0, 1, 0, 2, 12, 0⟩ : GLot)] : List GLot)) fun x25 => bdc (bif bif bif bif bif bif bif bif bif bif bif bif bif x12.2.2 then GLot.eqb x12.1 (⟨3, 1, 0, 5, 9, 0⟩ : GLot) else false then ((x12.2.1.length : Nat) : Int) == 6 else false then !x14.2.2 else false then ((x14.2.1.length : Nat) : Int) == 1 else false then !x16.2.2 else false then ((x16.2.1.length : Nat) : Int) == 2 else false then !x18.2.2 else false then ((x18.2.1.length : Nat) : Int) == 0 else false then !x20.2.2 else false then ((x20.2.1.length : Nat) : Int) == 1 else false then ((x22.1.length : Nat) : Int) == 3 else false then ((x22.2.length : Nat) : Int) == 17 else false then x25 else false) (backflushref04_SameReads_m x22.2 x23.2) fun x26 => bdc (bif bif bif bif bif bif bif bif bif bif bif bif bif bif bif bif x12.2.2 then GLot.eqb x12.1 (⟨3, 1, 0, 5, 9, 0⟩ : GLot) else false then ((x12.2.1.length : Nat) : Int) == 6 else false then !x14.2.2 else false then ((x14.2.1.length : Nat) : Int) == 1 else false then !x16.2.2 else false then ((x16.2.1.length : Nat) : Int) == 2 else false then !x18.2.2 else false then ((x18.2.1.length : Nat) : Int) == 0 else false then !x20.2.2 else false then ((x20.2.1.length : Nat) : Int) == 1 else false then ((x22.1.length : Nat) : Int) == 3 else false then ((x22.2.length : Nat) : Int) == 17 else false then x25 else false then x26 else false then ((x24.1.length : Nat) : Int) == 0 else false then ((x24.2.length : Nat) : Int) == 0 else false) (idx x4.1.facts 5) fun x27 => bdc (bif bif bif bif bif bif bif bif bif bif bif bif bif bif bif bif bif x12.2.2 then GLot.eqb x12.1 (⟨3, 1, 0, 5, 9, 0⟩ : GLot) else false then ((x12.2.1.length : Nat) : Int) == 6 else false then !x14.2.2 else false then ((x14.2.1.length : Nat) : Int) == 1 else false then !x16.2.2 else false then ((x16.2.1.length : Nat) : Int) == 2 else false then !x18.2.2 else false then ((x18.2.1.length : Nat) : Int) == 0 else false then !x20.2.2 else false then ((x20.2.1.length : Nat) : Int) == 1 else false then ((x22.1.length : Nat) : Int) == 3 else false then ((x22.2.length : Nat) : Int) == 17 else false then x25 else false then x26 else false then ((x24.1.length : Nat) : Int) == 0 else false then ((x24.2.length : Nat) : Int) == 0 else false then x27.value == 4 else false) (idx x4.1.facts 5) fun x28 => bdc (bif bif bif bif bif bif bif bif bif bif bif bif bif bif bif bif bif bif x12.2.2 then GLot.eqb x12.1 (⟨3, 1, 0, 5, 9, 0⟩ : GLot) else false then ((x12.2.1.length : Nat) : Int) == 6 else false then !x14.2.2 else false then ((x14.2.1.length : Nat) : Int) == 1 else false then !x16.2.2 else false then ((x16.2.1.length : Nat) : Int) == 2 else false then !x18.2.2 else false then ((x18.2.1.length : Nat) : Int) == 0 else false then !x20.2.2 else false then ((x20.2.1.length : Nat) : Int) == 1 else false then ((x22.1.length : Nat) : Int) == 3 else false then ((x22.2.length : Nat) : Int) == 17 else false then x25 else false then x26 else false then ((x24.1.length : Nat) : Int) == 0 else false then ((x24.2.length : Nat) : Int) == 0 else false then x27.value == 4 else false then x28.no_ == 5 else false) (idx x4.1.facts 5) fun x29 => some (bif bif bif bif bif bif bif bif bif bif bif bif bif bif bif bif bif bif bif x12.2.2 then GLot.eqb x12.1 (⟨3, 1, 0, 5, 9, 0⟩ : GLot) else false then ((x12.2.1.length : Nat) : Int) == 6 else false then !x14.2.2 else false then ((x14.2.1.length : Nat) : Int) == 1 else false then !x16.2.2 else false then ((x16.2.1.length : Nat) : Int) == 2 else false then !x18.2.2 else false then ((x18.2.1.length : Nat) : Int) == 0 else false then !x20.2.2 else false then ((x20.2.1.length : Nat) : Int) == 1 else false then ((x22.1.length : Nat) : Int) == 3 else false then ((x22.2.length : Nat) : Int) == 17 else false then x25 else false then x26 else false then ((x24.1.length : Nat) : Int) == 0 else false then ((x24.2.length : Nat) : Int) == 0 else false then x27.value == 4 else false then x28.no_ == 5 else false then GSpan.eqb x29.valid (⟨0, 1024⟩ : GSpan) else false))
set_option maxHeartbeats 4000000 in
theorem backflushlaw18_sane_c  {r : Bool} (H : backflushlaw18_sane_m  = some r) : PureC Try.prog true 30 [] (vb r) := by
  unfold backflushlaw18_sane_m at H
  refine pure_intro (N := 247) Try.func30 rfl rfl rfl rfl fun C hO => ?_
  refine ev_seq ?_
  refine ev_region ?_
  refine rq rfl rfl (q_assign rfl) ?_
  refine run_nil ?_
  refine ev_seq ?_
  refine ev_region ?_
  refine rq rfl rfl (Quiet.wk (d := .v true (GWorld.e (⟨(⟨(⟨[], [], [], [], [], [], [], []⟩ : GSource), [], []⟩ : GTables), []⟩ : GWorld))) (q_build rfl .nil) (Wk.nilLe (NilLe.st (by repeat (first | exact NilLes.nil | refine NilLes.cons (.refl _) ?_ | refine NilLes.cons (.nil _) ?_))))) ?_
  refine re rfl (e_alloc 1 0 rfl rfl) ?_; rintro _ ⟨b1, rfl⟩
  refine re rfl (e_store rfl rfl rfl rfl rfl (Nat.le_of_ble_eq_true rfl) rfl) ?_; rintro _ rfl
  refine run_nil ?_
  refine ev_seq ?_
  refine ev_region ?_
  refine rq rfl rfl (q_build rfl (.v rfl rfl rfl rfl rfl (.v rfl rfl rfl rfl rfl (.v rfl rfl rfl rfl rfl (.v rfl rfl rfl rfl rfl .nil))))) ?_
  refine rq rfl rfl (q_build rfl (.v rfl rfl rfl rfl rfl (.v rfl rfl rfl rfl rfl (.v rfl rfl rfl rfl rfl (.v rfl rfl rfl rfl rfl .nil))))) ?_
  refine re rfl (e_alloc 2 0 rfl rfl) ?_; rintro _ ⟨b2, rfl⟩
  refine re rfl (e_alloc 3 0 rfl rfl) ?_; rintro _ ⟨b3, rfl⟩
  refine re rfl (e_store rfl rfl rfl rfl rfl (Nat.le_of_ble_eq_true rfl) rfl) ?_; rintro _ rfl
  refine re rfl (e_store rfl rfl rfl rfl rfl (Nat.le_of_ble_eq_true rfl) rfl) ?_; rintro _ rfl
  refine run_nil ?_
  refine ev_seq ?_
  refine ev_region ?_
  refine rq rfl rfl (q_loadN rfl rfl rfl rfl) ?_
  refine rq rfl rfl (q_loadN rfl rfl rfl rfl) ?_
  refine rq rfl rfl (q_build rfl (.v rfl rfl rfl rfl rfl (.v rfl rfl rfl rfl rfl .nil))) ?_
  obtain ⟨x4, x4_h, H⟩ := bd_inv H
  refine rq rfl rfl (q_calla rfl (.v rfl (.v rfl (.v rfl (.v rfl CapsOk.nil)))) inferInstance (stock_Put_c  x4_h)) ?_
  refine rq rfl rfl (q_move rfl) ?_
  refine rq rfl rfl (q_extract rfl rfl) ?_
  refine rq rfl rfl (q_extract rfl rfl) ?_
  refine re rfl (e_alloc 4 0 rfl rfl) ?_; rintro _ ⟨b5, rfl⟩
  refine re rfl (e_store rfl rfl rfl rfl rfl (Nat.le_of_ble_eq_true rfl) rfl) ?_; rintro _ rfl
  refine rq rfl rfl (q_assign rfl) ?_
  refine run_nil ?_
  refine ev_seq ?_
  refine ev_region ?_
  refine rq rfl rfl (q_loadN rfl rfl rfl rfl) ?_
  refine rq rfl rfl (q_loadN rfl rfl rfl rfl) ?_
  refine rq rfl rfl (q_build rfl (.v rfl rfl rfl rfl rfl (.v rfl rfl rfl rfl rfl .nil))) ?_
  obtain ⟨x6, x6_h, H⟩ := bd_inv H
  refine rq rfl rfl (q_calla rfl (.v rfl (.v rfl (.v rfl (.v rfl CapsOk.nil)))) inferInstance (stock_Put_c  x6_h)) ?_
  refine rq rfl rfl (q_move rfl) ?_
  refine rq rfl rfl (q_extract rfl rfl) ?_
  refine rq rfl rfl (q_extract rfl rfl) ?_
  refine re rfl (e_alloc 6 0 rfl rfl) ?_; rintro _ ⟨b7, rfl⟩
  refine re rfl (e_store rfl rfl rfl rfl rfl (Nat.le_of_ble_eq_true rfl) rfl) ?_; rintro _ rfl
  refine rq rfl rfl (q_assign rfl) ?_
  refine run_nil ?_
  refine ev_seq ?_
  refine ev_region ?_
  refine rq rfl rfl (q_loadN rfl rfl rfl rfl) ?_
  refine rq rfl rfl (q_build rfl (.v rfl rfl rfl rfl rfl (.v rfl rfl rfl rfl rfl (.v rfl rfl rfl rfl rfl (.v rfl rfl rfl rfl rfl (.v rfl rfl rfl rfl rfl .nil)))))) ?_
  refine rq rfl rfl (q_build rfl (.v rfl rfl rfl rfl rfl (.v rfl rfl rfl rfl rfl .nil))) ?_
  obtain ⟨x8, x8_h, H⟩ := bd_inv H
  refine rq rfl rfl (q_calla rfl (.v rfl (.v rfl (.v rfl (.v rfl CapsOk.nil)))) inferInstance (stock_Put_c  x8_h)) ?_
  refine rq rfl rfl (q_move rfl) ?_
  refine rq rfl rfl (q_extract rfl rfl) ?_
  refine rq rfl rfl (q_extract rfl rfl) ?_
  refine re rfl (e_alloc 8 0 rfl rfl) ?_; rintro _ ⟨b9, rfl⟩
  refine re rfl (e_store rfl rfl rfl rfl rfl (Nat.le_of_ble_eq_true rfl) rfl) ?_; rintro _ rfl
  refine rq rfl rfl (q_assign rfl) ?_
  refine run_nil ?_
  refine ev_seq ?_
  refine ev_region ?_
  refine rq rfl rfl (Quiet.wk (d := .v true (GWorld.e (⟨(⟨(⟨[], [], [], [], [], [], [], []⟩ : GSource), [], []⟩ : GTables), []⟩ : GWorld))) (q_build rfl .nil) (Wk.nilLe (NilLe.st (by repeat (first | exact NilLes.nil | refine NilLes.cons (.refl _) ?_ | refine NilLes.cons (.nil _) ?_))))) ?_
  refine rq rfl rfl (q_build rfl .nil) ?_
  refine rq rfl rfl (q_build rfl .nil) ?_
  obtain ⟨x10, x10_h, H⟩ := bd_inv H
  refine rq rfl rfl (q_calla rfl (.v rfl (.v rfl (.v rfl (.v rfl CapsOk.nil)))) inferInstance (stock_Put_c  x10_h)) ?_
  refine rq rfl rfl (q_move rfl) ?_
  refine rq rfl rfl (q_extract rfl rfl) ?_
  refine rq rfl rfl (q_extract rfl rfl) ?_
  refine re rfl (e_alloc 10 0 rfl rfl) ?_; rintro _ ⟨b11, rfl⟩
  refine re rfl (e_store rfl rfl rfl rfl rfl (Nat.le_of_ble_eq_true rfl) rfl) ?_; rintro _ rfl
  refine rq rfl rfl (q_assign rfl) ?_
  refine run_nil ?_
  refine ev_seq ?_
  refine ev_region ?_
  refine rq rfl rfl (q_loadN rfl rfl rfl rfl) ?_
  obtain ⟨x12, x12_h, H⟩ := bd_inv H
  refine rq rfl rfl (q_call rfl (.v _ _ (fun e => nomatch e)) (.v rfl (.v rfl (.v rfl (.v rfl ArgsOk.nil)))) inferInstance (stock_Lot_c  x12_h)) ?_
  refine rq rfl rfl (q_move rfl) ?_
  refine rq rfl rfl (q_extract rfl rfl) ?_
  refine rq rfl rfl (q_extract rfl rfl) ?_
  refine rq rfl rfl (q_extract rfl rfl) ?_
  refine re rfl (e_alloc 12 0 rfl rfl) ?_; rintro _ ⟨b13, rfl⟩
  refine re rfl (e_store rfl rfl rfl rfl rfl (Nat.le_of_ble_eq_true rfl) rfl) ?_; rintro _ rfl
  refine rq rfl rfl (q_assign rfl) ?_
  refine rq rfl rfl (q_assign rfl) ?_
  refine run_nil ?_
  refine ev_seq ?_
  refine ev_region ?_
  refine rq rfl rfl (q_loadN rfl rfl rfl rfl) ?_
  obtain ⟨x14, x14_h, H⟩ := bd_inv H
  refine rq rfl rfl (q_call rfl (.v _ _ (fun e => nomatch e)) (.v rfl (.v rfl (.v rfl (.v rfl ArgsOk.nil)))) inferInstance (stock_Lot_c  x14_h)) ?_
  refine rq rfl rfl (q_move rfl) ?_
  refine rq rfl rfl (q_extract rfl rfl) ?_
  refine rq rfl rfl (q_extract rfl rfl) ?_
  refine rq rfl rfl (q_extract rfl rfl) ?_
  refine re rfl (e_alloc 15 0 rfl rfl) ?_; rintro _ ⟨b15, rfl⟩
  refine re rfl (e_store rfl rfl rfl rfl rfl (Nat.le_of_ble_eq_true rfl) rfl) ?_; rintro _ rfl
  refine rq rfl rfl (q_assign rfl) ?_
  refine rq rfl rfl (q_assign rfl) ?_
  refine run_nil ?_
  refine ev_seq ?_
  refine ev_region ?_
  refine rq rfl rfl (q_loadN rfl rfl rfl rfl) ?_
  obtain ⟨x16, x16_h, H⟩ := bd_inv H
  refine rq rfl rfl (q_call rfl (.v _ _ (fun e => nomatch e)) (.v rfl (.v rfl (.v rfl (.v rfl ArgsOk.nil)))) inferInstance (stock_Lot_c  x16_h)) ?_
  refine rq rfl rfl (q_move rfl) ?_
  refine rq rfl rfl (q_extract rfl rfl) ?_
  refine rq rfl rfl (q_extract rfl rfl) ?_
  refine rq rfl rfl (q_extract rfl rfl) ?_
  refine re rfl (e_alloc 18 0 rfl rfl) ?_; rintro _ ⟨b17, rfl⟩
  refine re rfl (e_store rfl rfl rfl rfl rfl (Nat.le_of_ble_eq_true rfl) rfl) ?_; rintro _ rfl
  refine rq rfl rfl (q_assign rfl) ?_
  refine rq rfl rfl (q_assign rfl) ?_
  refine run_nil ?_
  refine ev_seq ?_
  refine ev_region ?_
  refine rq rfl rfl (q_loadN rfl rfl rfl rfl) ?_
  obtain ⟨x18, x18_h, H⟩ := bd_inv H
  refine rq rfl rfl (q_call rfl (.v _ _ (fun e => nomatch e)) (.v rfl (.v rfl (.v rfl (.v rfl ArgsOk.nil)))) inferInstance (stock_Lot_c  x18_h)) ?_
  refine rq rfl rfl (q_move rfl) ?_
  refine rq rfl rfl (q_extract rfl rfl) ?_
  refine rq rfl rfl (q_extract rfl rfl) ?_
  refine rq rfl rfl (q_extract rfl rfl) ?_
  refine re rfl (e_alloc 21 0 rfl rfl) ?_; rintro _ ⟨b19, rfl⟩
  refine re rfl (e_store rfl rfl rfl rfl rfl (Nat.le_of_ble_eq_true rfl) rfl) ?_; rintro _ rfl
  refine rq rfl rfl (q_assign rfl) ?_
  refine rq rfl rfl (q_assign rfl) ?_
  refine run_nil ?_
  refine ev_seq ?_
  refine ev_region ?_
  refine rq rfl rfl (Quiet.wk (d := .v true (GWorld.e (⟨(⟨(⟨[], [], [], [], [], [], [], []⟩ : GSource), [], []⟩ : GTables), []⟩ : GWorld))) (q_build rfl .nil) (Wk.nilLe (NilLe.st (by repeat (first | exact NilLes.nil | refine NilLes.cons (.refl _) ?_ | refine NilLes.cons (.nil _) ?_))))) ?_
  obtain ⟨x20, x20_h, H⟩ := bd_inv H
  refine rq rfl rfl (q_call rfl (.v _ _ (fun e => nomatch e)) (.v rfl (.v rfl (.v rfl (.v rfl ArgsOk.nil)))) inferInstance (stock_Lot_c  x20_h)) ?_
  refine rq rfl rfl (q_move rfl) ?_
  refine rq rfl rfl (q_extract rfl rfl) ?_
  refine rq rfl rfl (q_extract rfl rfl) ?_
  refine rq rfl rfl (q_extract rfl rfl) ?_
  refine re rfl (e_alloc 24 0 rfl rfl) ?_; rintro _ ⟨b21, rfl⟩
  refine re rfl (e_store rfl rfl rfl rfl rfl (Nat.le_of_ble_eq_true rfl) rfl) ?_; rintro _ rfl
  refine rq rfl rfl (q_assign rfl) ?_
  refine rq rfl rfl (q_assign rfl) ?_
  refine run_nil ?_
  refine ev_seq ?_
  refine ev_region ?_
  refine rq rfl rfl (q_loadN rfl rfl rfl rfl) ?_
  obtain ⟨x22, x22_h, H⟩ := bd_inv H
  refine rq rfl rfl (q_call rfl (.v _ _ (fun e => nomatch e)) (.v rfl (.v rfl (.v rfl ArgsOk.nil))) inferInstance (stock_Lots_c  x22_h)) ?_
  refine rq rfl rfl (q_move rfl) ?_
  refine rq rfl rfl (q_extract rfl rfl) ?_
  refine rq rfl rfl (q_extract rfl rfl) ?_
  refine rq rfl rfl (q_assign rfl) ?_
  refine rq rfl rfl (q_assign rfl) ?_
  refine run_nil ?_
  refine ev_seq ?_
  refine ev_region ?_
  refine rq rfl rfl (q_loadN rfl rfl rfl rfl) ?_
  refine rq rfl rfl (q_build rfl (.v rfl rfl rfl rfl rfl .nil)) ?_
  obtain ⟨x23, x23_h, H⟩ := bd_inv H
  refine rq rfl rfl (q_call rfl (.v _ _ (fun e => nomatch e)) (.v rfl (.v rfl (.v rfl (.v rfl ArgsOk.nil)))) inferInstance (stock_Usable_c  x23_h)) ?_
  refine rq rfl rfl (q_move rfl) ?_
  refine rq rfl rfl (q_extract rfl rfl) ?_
  refine rq rfl rfl (q_extract rfl rfl) ?_
  refine rq rfl rfl (q_assign rfl) ?_
  refine rq rfl rfl (q_assign rfl) ?_
  refine run_nil ?_
  refine ev_seq ?_
  refine ev_region ?_
  refine rq rfl rfl (q_loadN rfl rfl rfl rfl) ?_
  refine rq rfl rfl (q_build rfl (.v rfl rfl rfl rfl rfl (.v rfl rfl rfl rfl rfl .nil))) ?_
  obtain ⟨x24, x24_h, H⟩ := bd_inv H
  refine rq rfl rfl (q_call rfl (.v _ _ (fun e => nomatch e)) (.v rfl (.v rfl (.v rfl (.v rfl ArgsOk.nil)))) inferInstance (stock_Usable_c  x24_h)) ?_
  refine rq rfl rfl (q_move rfl) ?_
  refine rq rfl rfl (q_extract rfl rfl) ?_
  refine rq rfl rfl (q_extract rfl rfl) ?_
  refine rq rfl rfl (q_assign rfl) ?_
  refine rq rfl rfl (q_assign rfl) ?_
  refine run_nil ?_
  refine ev_seq ?_
  refine ev_seq ?_
  refine ev_region ?_
  refine rq rfl rfl (q_move rfl) ?_
  refine rq rfl rfl (q_nei rfl rfl) ?_
  refine rq rfl rfl (q_move rfl) ?_
  refine rqc (l := []) ⟨⟨_, _, _, rfl, rfl, rfl, rfl⟩, rfl, fun hc => q_move rfl, trivial⟩ rfl ?_
  refine rqc (l := [114]) ⟨⟨_, _, _, rfl, rfl, rfl, rfl⟩, rfl, fun hc => q_nei rfl rfl, ⟨fun h => h, trivial⟩⟩ rfl ?_
  refine rq rfl rfl (q_pickb rfl rfl rfl PB.v (PB.c (fun hp => by rw [hp]; rfl))) ?_
  refine rq rfl rfl (q_move rfl) ?_
  refine rqc (l := []) ⟨⟨_, _, _, rfl, rfl, rfl, rfl⟩, rfl, fun hc => q_move rfl, trivial⟩ rfl ?_
  refine rqc (l := [118]) ⟨⟨_, _, _, rfl, rfl, rfl, rfl⟩, rfl, fun hc => q_nei rfl rfl, ⟨fun h => h, trivial⟩⟩ rfl ?_
  refine rq rfl rfl (q_pickb rfl rfl rfl PB.v (PB.c (fun hp => by rw [hp]; rfl))) ?_
  refine rq rfl rfl (q_move rfl) ?_
  refine rqc (l := []) ⟨⟨_, _, _, rfl, rfl, rfl, rfl⟩, rfl, fun hc => q_move rfl, trivial⟩ rfl ?_
  refine rqc (l := [122]) ⟨⟨_, _, _, rfl, rfl, rfl, rfl⟩, rfl, fun hc => q_nei rfl rfl, ⟨fun h => h, trivial⟩⟩ rfl ?_
  refine rq rfl rfl (q_pickb rfl rfl rfl PB.v (PB.c (fun hp => by rw [hp]; rfl))) ?_
  refine rq rfl rfl (q_move rfl) ?_
  refine rqc (l := []) ⟨⟨_, _, _, rfl, rfl, rfl, rfl⟩, rfl, fun hc => q_fld_p rfl, trivial⟩ rfl ?_
  refine rqc (l := [126]) ⟨⟨_, _, _, rfl, rfl, rfl, rfl⟩, rfl, fun hc => q_load1 rfl rfl rfl, ⟨fun h => h, trivial⟩⟩ rfl ?_
  refine rqc (l := [127]) ⟨⟨_, _, _, rfl, rfl, rfl, rfl⟩, rfl, fun hc => q_len_t rfl, ⟨fun h => h, trivial⟩⟩ rfl ?_
  refine rqc (l := [128]) ⟨⟨_, _, _, rfl, rfl, rfl, rfl⟩, rfl, fun hc => q_nei rfl rfl, ⟨fun h => h, trivial⟩⟩ rfl ?_
  refine rq rfl rfl (q_pickb rfl rfl rfl PB.v (PB.c (fun hp => by rw [hp]; rfl))) ?_
  refine rq rfl rfl (q_move rfl) ?_
  refine rqc (l := []) ⟨⟨_, _, _, rfl, rfl, rfl, rfl⟩, rfl, fun hc => q_fld_p rfl, trivial⟩ rfl ?_
  refine rqc (l := [132]) ⟨⟨_, _, _, rfl, rfl, rfl, rfl⟩, rfl, fun hc => q_load1 rfl rfl rfl, ⟨fun h => h, trivial⟩⟩ rfl ?_
  refine rqc (l := [133]) ⟨⟨_, _, _, rfl, rfl, rfl, rfl⟩, rfl, fun hc => q_len_t rfl, ⟨fun h => h, trivial⟩⟩ rfl ?_
  refine rqc (l := [134]) ⟨⟨_, _, _, rfl, rfl, rfl, rfl⟩, rfl, fun hc => q_nei rfl rfl, ⟨fun h => h, trivial⟩⟩ rfl ?_
  refine rq rfl rfl (q_pickb rfl rfl rfl PB.v (PB.c (fun hp => by rw [hp]; rfl))) ?_
  refine rq rfl rfl (q_move rfl) ?_
  refine rqc (l := []) ⟨⟨_, _, _, rfl, rfl, rfl, rfl⟩, rfl, fun hc => q_fld_p rfl, trivial⟩ rfl ?_
  refine rqc (l := [138]) ⟨⟨_, _, _, rfl, rfl, rfl, rfl⟩, rfl, fun hc => q_load1 rfl rfl rfl, ⟨fun h => h, trivial⟩⟩ rfl ?_
  refine rqc (l := [139]) ⟨⟨_, _, _, rfl, rfl, rfl, rfl⟩, rfl, fun hc => q_len_t rfl, ⟨fun h => h, trivial⟩⟩ rfl ?_
  refine rqc (l := [140]) ⟨⟨_, _, _, rfl, rfl, rfl, rfl⟩, rfl, fun hc => q_nei rfl rfl, ⟨fun h => h, trivial⟩⟩ rfl ?_
  refine rq rfl rfl (q_pickb rfl rfl rfl PB.v (PB.c (fun hp => by rw [hp]; rfl))) ?_
  refine run_nil ?_
  refine ev_cond rfl (fun hc => ?_) (fun hc => ?_)
  · replace H := ct hc H
    refine ev_seq ?_
    refine ev_region ?_
    refine rq rfl rfl (q_assign rfl) ?_
    refine run_nil ?_
    refine ev_ret ?_
    exact ret_ok [vb false] (congrArg (fun r : Bool => vb r) (Option.some.inj H)) rfl (.cons (.tmp rfl (.v _ _ (fun _ => rfl))) .nil)
  · replace H := cf hc H
    refine ev_skip ?_
    refine ev_seq ?_
    refine ev_region ?_
    refine rq rfl rfl (q_move rfl) ?_
    refine rq rfl rfl (q_move rfl) ?_
    refine rqc (l := []) ⟨⟨_, _, _, rfl, rfl, rfl, rfl⟩, rfl, fun hc => q_loadN rfl rfl rfl rfl, trivial⟩ rfl ?_
    refine rqc (l := []) ⟨⟨_, _, _, rfl, rfl, rfl, rfl⟩, rfl, fun hc => q_loadN rfl rfl rfl rfl, trivial⟩ rfl ?_
    refine rqc (l := [145, 146]) ⟨⟨_, _, _, rfl, rfl, rfl, rfl⟩, rfl, fun hc => q_eqs rfl rfl rfl, ⟨fun h => h, ⟨fun h => h, trivial⟩⟩⟩ rfl ?_
    refine rq rfl rfl (q_pickb rfl rfl rfl (PB.c (fun hp => hp)) PB.v) ?_
    refine rq rfl rfl (q_move rfl) ?_
    refine rqc (l := []) ⟨⟨_, _, _, rfl, rfl, rfl, rfl⟩, rfl, fun hc => q_move rfl, trivial⟩ rfl ?_
    refine rqc (l := [150]) ⟨⟨_, _, _, rfl, rfl, rfl, rfl⟩, rfl, fun hc => q_len_t rfl, ⟨fun h => h, trivial⟩⟩ rfl ?_
    refine rqc (l := [151]) ⟨⟨_, _, _, rfl, rfl, rfl, rfl⟩, rfl, fun hc => q_eqi rfl rfl, ⟨fun h => h, trivial⟩⟩ rfl ?_
    refine rq rfl rfl (q_pickb rfl rfl rfl (PB.c (fun hp => hp)) PB.v) ?_
    refine rq rfl rfl (q_move rfl) ?_
    refine rqc (l := []) ⟨⟨_, _, _, rfl, rfl, rfl, rfl⟩, rfl, fun hc => q_move rfl, trivial⟩ rfl ?_
    refine rqc (l := [155]) ⟨⟨_, _, _, rfl, rfl, rfl, rfl⟩, rfl, fun hc => q_not rfl, ⟨fun h => h, trivial⟩⟩ rfl ?_
    refine rq rfl rfl (q_pickb rfl rfl rfl (PB.c (fun hp => hp)) PB.v) ?_
    refine rq rfl rfl (q_move rfl) ?_
    refine rqc (l := []) ⟨⟨_, _, _, rfl, rfl, rfl, rfl⟩, rfl, fun hc => q_move rfl, trivial⟩ rfl ?_
    refine rqc (l := [159]) ⟨⟨_, _, _, rfl, rfl, rfl, rfl⟩, rfl, fun hc => q_len_t rfl, ⟨fun h => h, trivial⟩⟩ rfl ?_
    refine rqc (l := [160]) ⟨⟨_, _, _, rfl, rfl, rfl, rfl⟩, rfl, fun hc => q_eqi rfl rfl, ⟨fun h => h, trivial⟩⟩ rfl ?_
    refine rq rfl rfl (q_pickb rfl rfl rfl (PB.c (fun hp => hp)) PB.v) ?_
    refine rq rfl rfl (q_move rfl) ?_
    refine rqc (l := []) ⟨⟨_, _, _, rfl, rfl, rfl, rfl⟩, rfl, fun hc => q_move rfl, trivial⟩ rfl ?_
    refine rqc (l := [164]) ⟨⟨_, _, _, rfl, rfl, rfl, rfl⟩, rfl, fun hc => q_not rfl, ⟨fun h => h, trivial⟩⟩ rfl ?_
    refine rq rfl rfl (q_pickb rfl rfl rfl (PB.c (fun hp => hp)) PB.v) ?_
    refine rq rfl rfl (q_move rfl) ?_
    refine rqc (l := []) ⟨⟨_, _, _, rfl, rfl, rfl, rfl⟩, rfl, fun hc => q_move rfl, trivial⟩ rfl ?_
    refine rqc (l := [168]) ⟨⟨_, _, _, rfl, rfl, rfl, rfl⟩, rfl, fun hc => q_len_t rfl, ⟨fun h => h, trivial⟩⟩ rfl ?_
    refine rqc (l := [169]) ⟨⟨_, _, _, rfl, rfl, rfl, rfl⟩, rfl, fun hc => q_eqi rfl rfl, ⟨fun h => h, trivial⟩⟩ rfl ?_
    refine rq rfl rfl (q_pickb rfl rfl rfl (PB.c (fun hp => hp)) PB.v) ?_
    refine rq rfl rfl (q_move rfl) ?_
    refine rqc (l := []) ⟨⟨_, _, _, rfl, rfl, rfl, rfl⟩, rfl, fun hc => q_move rfl, trivial⟩ rfl ?_
    refine rqc (l := [173]) ⟨⟨_, _, _, rfl, rfl, rfl, rfl⟩, rfl, fun hc => q_not rfl, ⟨fun h => h, trivial⟩⟩ rfl ?_
    refine rq rfl rfl (q_pickb rfl rfl rfl (PB.c (fun hp => hp)) PB.v) ?_
    refine rq rfl rfl (q_move rfl) ?_
    refine rqc (l := []) ⟨⟨_, _, _, rfl, rfl, rfl, rfl⟩, rfl, fun hc => q_move rfl, trivial⟩ rfl ?_
    refine rqc (l := [177]) ⟨⟨_, _, _, rfl, rfl, rfl, rfl⟩, rfl, fun hc => q_len_t rfl, ⟨fun h => h, trivial⟩⟩ rfl ?_
    refine rqc (l := [178]) ⟨⟨_, _, _, rfl, rfl, rfl, rfl⟩, rfl, fun hc => q_eqi rfl rfl, ⟨fun h => h, trivial⟩⟩ rfl ?_
    refine rq rfl rfl (q_pickb rfl rfl rfl (PB.c (fun hp => hp)) PB.v) ?_
    refine rq rfl rfl (q_move rfl) ?_
    refine rqc (l := []) ⟨⟨_, _, _, rfl, rfl, rfl, rfl⟩, rfl, fun hc => q_move rfl, trivial⟩ rfl ?_
    refine rqc (l := [182]) ⟨⟨_, _, _, rfl, rfl, rfl, rfl⟩, rfl, fun hc => q_not rfl, ⟨fun h => h, trivial⟩⟩ rfl ?_
    refine rq rfl rfl (q_pickb rfl rfl rfl (PB.c (fun hp => hp)) PB.v) ?_
    refine rq rfl rfl (q_move rfl) ?_
    refine rqc (l := []) ⟨⟨_, _, _, rfl, rfl, rfl, rfl⟩, rfl, fun hc => q_move rfl, trivial⟩ rfl ?_
    refine rqc (l := [186]) ⟨⟨_, _, _, rfl, rfl, rfl, rfl⟩, rfl, fun hc => q_len_t rfl, ⟨fun h => h, trivial⟩⟩ rfl ?_
    refine rqc (l := [187]) ⟨⟨_, _, _, rfl, rfl, rfl, rfl⟩, rfl, fun hc => q_eqi rfl rfl, ⟨fun h => h, trivial⟩⟩ rfl ?_
    refine rq rfl rfl (q_pickb rfl rfl rfl (PB.c (fun hp => hp)) PB.v) ?_
    refine rq rfl rfl (q_move rfl) ?_
    refine rqc (l := []) ⟨⟨_, _, _, rfl, rfl, rfl, rfl⟩, rfl, fun hc => q_move rfl, trivial⟩ rfl ?_
    refine rqc (l := [191]) ⟨⟨_, _, _, rfl, rfl, rfl, rfl⟩, rfl, fun hc => q_len_t rfl, ⟨fun h => h, trivial⟩⟩ rfl ?_
    refine rqc (l := [192]) ⟨⟨_, _, _, rfl, rfl, rfl, rfl⟩, rfl, fun hc => q_eqi rfl rfl, ⟨fun h => h, trivial⟩⟩ rfl ?_
    refine rq rfl rfl (q_pickb rfl rfl rfl (PB.c (fun hp => hp)) PB.v) ?_
    refine rq rfl rfl (q_move rfl) ?_
    refine rqc (l := []) ⟨⟨_, _, _, rfl, rfl, rfl, rfl⟩, rfl, fun hc => q_move rfl, trivial⟩ rfl ?_
    refine rqc (l := [196]) ⟨⟨_, _, _, rfl, rfl, rfl, rfl⟩, rfl, fun hc => q_len_t rfl, ⟨fun h => h, trivial⟩⟩ rfl ?_
    refine rqc (l := [197]) ⟨⟨_, _, _, rfl, rfl, rfl, rfl⟩, rfl, fun hc => q_eqi rfl rfl, ⟨fun h => h, trivial⟩⟩ rfl ?_
    refine rq rfl rfl (q_pickb rfl rfl rfl (PB.c (fun hp => hp)) PB.v) ?_
    refine rq rfl rfl (q_move rfl) ?_
    refine rqc (l := []) ⟨⟨_, _, _, rfl, rfl, rfl, rfl⟩, rfl, fun hc => q_move rfl, trivial⟩ rfl ?_
    refine rqc (l := []) ⟨⟨_, _, _, rfl, rfl, rfl, rfl⟩, rfl, fun hc => q_loadN rfl rfl rfl rfl, trivial⟩ rfl ?_
    refine rqc (l := []) ⟨⟨_, _, _, rfl, rfl, rfl, rfl⟩, rfl, fun hc => q_loadN rfl rfl rfl rfl, trivial⟩ rfl ?_
    refine rqc (l := [202, 203]) ⟨⟨_, _, _, rfl, rfl, rfl, rfl⟩, rfl, fun hc => q_buildSlice (z := 6) (xs := List.map GLot.e ([(⟨3, 1, 0, 5, 9, 0⟩ : GLot), (⟨0, 1, 0, 2, 12, 0⟩ : GLot)] : List GLot)) (fl := true) rfl rfl rfl rfl (by simp [V.plain, V.cells, GLot.e, vi, vb]) rfl, ⟨fun h => h, ⟨fun h => h, trivial⟩⟩⟩ rfl ?_
    obtain ⟨x25, x25_h, _, H⟩ := bdc_inv H
    refine rqc (l := [201, 204]) ⟨⟨_, _, _, rfl, rfl, rfl, rfl⟩, rfl, fun hc => q_call rfl (.v _ _ (fun e => nomatch e)) (.v rfl (.v rfl ArgsOk.nil)) inferInstance (backflushref18_Same_c  (x25_h hc)), ⟨fun h => h, ⟨fun h => h, trivial⟩⟩⟩ rfl ?_
    refine rq rfl rfl (q_pickb rfl rfl rfl (PB.c (fun hp => hp)) PB.v) ?_
    refine rq rfl rfl (q_move rfl) ?_
    refine rqc (l := []) ⟨⟨_, _, _, rfl, rfl, rfl, rfl⟩, rfl, fun hc => q_move rfl, trivial⟩ rfl ?_
    refine rqc (l := []) ⟨⟨_, _, _, rfl, rfl, rfl, rfl⟩, rfl, fun hc => q_move rfl, trivial⟩ rfl ?_
    obtain ⟨x26, x26_h, _, H⟩ := bdc_inv H
    refine rqc (l := [208, 209]) ⟨⟨_, _, _, rfl, rfl, rfl, rfl⟩, rfl, fun hc => q_call rfl (.v _ _ (fun e => nomatch e)) (.v rfl (.v rfl ArgsOk.nil)) inferInstance (backflushref04_SameReads_c  (x26_h hc)), ⟨fun h => h, ⟨fun h => h, trivial⟩⟩⟩ rfl ?_
    refine rq rfl rfl (q_pickb rfl rfl rfl (PB.c (fun hp => hp)) PB.v) ?_
    refine rq rfl rfl (q_move rfl) ?_
    refine rqc (l := []) ⟨⟨_, _, _, rfl, rfl, rfl, rfl⟩, rfl, fun hc => q_move rfl, trivial⟩ rfl ?_
    refine rqc (l := [213]) ⟨⟨_, _, _, rfl, rfl, rfl, rfl⟩, rfl, fun hc => q_len_t rfl, ⟨fun h => h, trivial⟩⟩ rfl ?_
    refine rqc (l := [214]) ⟨⟨_, _, _, rfl, rfl, rfl, rfl⟩, rfl, fun hc => q_eqi rfl rfl, ⟨fun h => h, trivial⟩⟩ rfl ?_
    refine rq rfl rfl (q_pickb rfl rfl rfl (PB.c (fun hp => hp)) PB.v) ?_
    refine rq rfl rfl (q_move rfl) ?_
    refine rqc (l := []) ⟨⟨_, _, _, rfl, rfl, rfl, rfl⟩, rfl, fun hc => q_move rfl, trivial⟩ rfl ?_
    refine rqc (l := [218]) ⟨⟨_, _, _, rfl, rfl, rfl, rfl⟩, rfl, fun hc => q_len_t rfl, ⟨fun h => h, trivial⟩⟩ rfl ?_
    refine rqc (l := [219]) ⟨⟨_, _, _, rfl, rfl, rfl, rfl⟩, rfl, fun hc => q_eqi rfl rfl, ⟨fun h => h, trivial⟩⟩ rfl ?_
    refine rq rfl rfl (q_pickb rfl rfl rfl (PB.c (fun hp => hp)) PB.v) ?_
    refine rq rfl rfl (q_move rfl) ?_
    refine rqc (l := []) ⟨⟨_, _, _, rfl, rfl, rfl, rfl⟩, rfl, fun hc => q_fld_p rfl, trivial⟩ rfl ?_
    refine rqc (l := [223]) ⟨⟨_, _, _, rfl, rfl, rfl, rfl⟩, rfl, fun hc => q_load1 rfl rfl rfl, ⟨fun h => h, trivial⟩⟩ rfl ?_
    obtain ⟨x27, x27_h, _, H⟩ := bdc_inv H
    refine rqc (l := [224]) ⟨⟨_, _, _, rfl, rfl, rfl, rfl⟩, rfl, fun hc => q_idx_l rfl rfl (idx_inv (x27_h hc)).1 (map_get (idx_inv (x27_h hc)).2.1) rfl, ⟨fun h => h, trivial⟩⟩ rfl ?_
    refine rqc (l := [225]) ⟨⟨_, _, _, rfl, rfl, rfl, rfl⟩, rfl, fun hc => q_fld_q rfl, ⟨fun h => h, trivial⟩⟩ rfl ?_
    refine rqc (l := [226]) ⟨⟨_, _, _, rfl, rfl, rfl, rfl⟩, rfl, fun hc => q_load1_q rfl, ⟨fun h => h, trivial⟩⟩ rfl ?_
    refine rqc (l := [227]) ⟨⟨_, _, _, rfl, rfl, rfl, rfl⟩, rfl, fun hc => q_eqi rfl rfl, ⟨fun h => h, trivial⟩⟩ rfl ?_
    refine rq rfl rfl (q_pickb rfl rfl rfl (PB.c (fun hp => hp)) PB.v) ?_
    refine rq rfl rfl (q_move rfl) ?_
    refine rqc (l := []) ⟨⟨_, _, _, rfl, rfl, rfl, rfl⟩, rfl, fun hc => q_fld_p rfl, trivial⟩ rfl ?_
    refine rqc (l := [231]) ⟨⟨_, _, _, rfl, rfl, rfl, rfl⟩, rfl, fun hc => q_load1 rfl rfl rfl, ⟨fun h => h, trivial⟩⟩ rfl ?_
    obtain ⟨x28, x28_h, _, H⟩ := bdc_inv H
    refine rqc (l := [232]) ⟨⟨_, _, _, rfl, rfl, rfl, rfl⟩, rfl, fun hc => q_idx_l rfl rfl (idx_inv (x28_h hc)).1 (map_get (idx_inv (x28_h hc)).2.1) rfl, ⟨fun h => h, trivial⟩⟩ rfl ?_
    refine rqc (l := [233]) ⟨⟨_, _, _, rfl, rfl, rfl, rfl⟩, rfl, fun hc => q_fld_q rfl, ⟨fun h => h, trivial⟩⟩ rfl ?_
    refine rqc (l := [234]) ⟨⟨_, _, _, rfl, rfl, rfl, rfl⟩, rfl, fun hc => q_load1_q rfl, ⟨fun h => h, trivial⟩⟩ rfl ?_
    refine rqc (l := [235]) ⟨⟨_, _, _, rfl, rfl, rfl, rfl⟩, rfl, fun hc => q_eqi rfl rfl, ⟨fun h => h, trivial⟩⟩ rfl ?_
    refine rq rfl rfl (q_pickb rfl rfl rfl (PB.c (fun hp => hp)) PB.v) ?_
    refine rq rfl rfl (q_move rfl) ?_
    refine rqc (l := []) ⟨⟨_, _, _, rfl, rfl, rfl, rfl⟩, rfl, fun hc => q_fld_p rfl, trivial⟩ rfl ?_
    refine rqc (l := [239]) ⟨⟨_, _, _, rfl, rfl, rfl, rfl⟩, rfl, fun hc => q_load1 rfl rfl rfl, ⟨fun h => h, trivial⟩⟩ rfl ?_
    obtain ⟨x29, x29_h, _, H⟩ := bdc_inv H
    refine rqc (l := [240]) ⟨⟨_, _, _, rfl, rfl, rfl, rfl⟩, rfl, fun hc => q_idx_l rfl rfl (idx_inv (x29_h hc)).1 (map_get (idx_inv (x29_h hc)).2.1) rfl, ⟨fun h => h, trivial⟩⟩ rfl ?_
    refine rqc (l := [241]) ⟨⟨_, _, _, rfl, rfl, rfl, rfl⟩, rfl, fun hc => q_fld_q rfl, ⟨fun h => h, trivial⟩⟩ rfl ?_
    refine rqc (l := [242]) ⟨⟨_, _, _, rfl, rfl, rfl, rfl⟩, rfl, fun hc => q_loadN_q rfl rfl, ⟨fun h => h, trivial⟩⟩ rfl ?_
    refine rqc (l := []) ⟨⟨_, _, _, rfl, rfl, rfl, rfl⟩, rfl, fun hc => q_build rfl (.v rfl rfl rfl rfl rfl .nil), trivial⟩ rfl ?_
    refine rqc (l := [243, 244]) ⟨⟨_, _, _, rfl, rfl, rfl, rfl⟩, rfl, fun hc => q_eqs rfl rfl rfl, ⟨fun h => h, ⟨fun h => h, trivial⟩⟩⟩ rfl ?_
    refine rq rfl rfl (q_pickb rfl rfl rfl (PB.c (fun hp => hp)) PB.v) ?_
    refine rq rfl rfl (q_assign rfl) ?_
    refine run_nil ?_
    refine ev_ret ?_
    exact ret_ok [vb (bif bif bif bif bif bif bif bif bif bif bif bif bif bif bif bif bif bif bif x12.2.2 then GLot.eqb x12.1 (⟨3, 1, 0, 5, 9, 0⟩ : GLot) else false then ((x12.2.1.length : Nat) : Int) == 6 else false then !x14.2.2 else false then ((x14.2.1.length : Nat) : Int) == 1 else false then !x16.2.2 else false then ((x16.2.1.length : Nat) : Int) == 2 else false then !x18.2.2 else false then ((x18.2.1.length : Nat) : Int) == 0 else false then !x20.2.2 else false then ((x20.2.1.length : Nat) : Int) == 1 else false then ((x22.1.length : Nat) : Int) == 3 else false then ((x22.2.length : Nat) : Int) == 17 else false then x25 else false then x26 else false then ((x24.1.length : Nat) : Int) == 0 else false then ((x24.2.length : Nat) : Int) == 0 else false then x27.value == 4 else false then x28.no_ == 5 else false then GSpan.eqb x29.valid (⟨0, 1024⟩ : GSpan) else false)] (congrArg (fun r : Bool => vb r) (Option.some.inj H)) rfl (.cons (.tmp rfl (.v _ _ (fun _ => rfl))) .nil)
def backflushref18_Few_m (a0 : GWorld) : Option Bool := forN 0 ((a0.facts.length : Nat) : Int) (fun (k4 : Int) (s2 : Unit) loop3 => bd (idx a0.facts k4) fun x13 => bif bif x13.key.kind == 0 then decide (8 < x13.value) else false then (some false) else (loop3 ())) (fun (s2 : Unit) => some (decide (((a0.facts.length : Nat) : Int) ≤ 60))) ()
theorem backflushref18_Few_c {a0 : GWorld} {r : Bool} (H : backflushref18_Few_m a0 = some r) : PureC Try.prog true 31 [GWorld.e a0] (vb r) := by
  unfold backflushref18_Few_m at H
  refine pure_intro (N := 32) Try.func31 rfl rfl rfl rfl fun C hO => ?_
  refine ev_seq ?_
  refine ev_region ?_
  refine re rfl (e_box 1 0 rfl rfl rfl) ?_; rintro _ ⟨b1, rfl⟩
  refine rq rfl rfl (q_assign rfl) ?_
  refine run_nil ?_
  refine ev_seq ?_
  refine ev_seq ?_
  refine ev_region ?_
  refine rq rfl rfl (q_assign rfl) ?_
  refine run_nil ?_
  refine ev_block ?_
  refine ev_forN H (fun k4 s2 σ' => σ' = mkS [(1, .p 1 0 b1 0), (2, .v true (vb false)), (3, .v true (vi k4))] [.e 1 0 (some (b1, 11)) (.row 38 [.v false (V.l 8 (List.map GUnit.e a0.tables.source.units)), .v false (V.l 6 (List.map GItem.e a0.tables.source.items)), .v false (V.l 1 (List.map V.s a0.tables.source.plants)), .v false (V.l 4 (List.map GMachine.e a0.tables.source.machines)), .v false (V.l 2 (List.map GOption.e a0.tables.source.options)), .v false (V.l 1 (List.map (fun l => V.l 4 (List.map GCond.e l)) a0.tables.source.forbids)), .v false (V.l 17 (List.map GRecipe.e a0.tables.source.recipes)), .v false (V.l 4 (List.map GSwap.e a0.tables.source.swaps)), .v false (V.l 1 (List.map vi a0.tables.levels)), .v false (V.l 1 (List.map (fun l => V.l 6 (List.map GInst.e l)) a0.tables.codes)), .v false (V.l 8 (List.map GFact.e a0.facts))])] [] (0, false)) ⟨_, rfl, shift_mk ⟨⟨_, rfl, .rfl⟩, ⟨⟨_, rfl, (.flat rfl)⟩, ⟨⟨_, rfl, .rfl⟩, trivial⟩⟩⟩ ⟨(.e rfl), trivial⟩ rfl rfl⟩ ?_
  rintro n6 k4 s2 _ rfl w7 w8 w9 w10 H
  refine ev_seq ?_
  refine ev_seq ?_
  refine ev_region ?_
  refine rq rfl rfl (q_move rfl) ?_
  refine rq rfl rfl (q_fld_p rfl) ?_
  refine rq rfl rfl (q_load1 rfl rfl rfl) ?_
  refine rq rfl rfl (q_len_t rfl) ?_
  refine rq rfl rfl (q_lss rfl rfl) ?_
  refine run_nil ?_
  refine ev_cond rfl (fun hc => ?_) (fun hc => ?_)
  · obtain ⟨n12, n12_e, w11, H⟩ := forN_in hc w7 H
    refine ev_skip ?_
    refine ev_seq ?_
    refine ev_block ?_
    refine ev_seq ?_
    refine ev_region ?_
    refine rq rfl rfl (q_fld_p rfl) ?_
    refine rq rfl rfl (q_load1 rfl rfl rfl) ?_
    refine rq rfl rfl (q_move rfl) ?_
    obtain ⟨x13, x13_h, H⟩ := bd_inv H
    refine rq rfl rfl (q_idx_l rfl rfl (idx_inv x13_h).1 (map_get (idx_inv x13_h).2.1) rfl) ?_
    refine rq rfl rfl (q_fld_q rfl) ?_
    refine rq rfl rfl (q_fld_q rfl) ?_
    refine rq rfl rfl (q_load1_q rfl) ?_
    refine rq rfl rfl (q_eqi rfl rfl) ?_
    refine rq rfl rfl (q_move rfl) ?_
    refine rqc (l := []) ⟨⟨_, _, _, rfl, rfl, rfl, rfl⟩, rfl, fun hc => q_fld_p rfl, trivial⟩ rfl ?_
    refine rqc (l := [20]) ⟨⟨_, _, _, rfl, rfl, rfl, rfl⟩, rfl, fun hc => q_load1 rfl rfl rfl, ⟨fun h => h, trivial⟩⟩ rfl ?_
    refine rqc (l := []) ⟨⟨_, _, _, rfl, rfl, rfl, rfl⟩, rfl, fun hc => q_move rfl, trivial⟩ rfl ?_
    refine rqc (l := [21, 22]) ⟨⟨_, _, _, rfl, rfl, rfl, rfl⟩, rfl, fun hc => q_idx_l rfl rfl (idx_inv x13_h).1 (map_get (idx_inv x13_h).2.1) rfl, ⟨fun h => h, ⟨fun h => h, trivial⟩⟩⟩ rfl ?_
    refine rqc (l := [23]) ⟨⟨_, _, _, rfl, rfl, rfl, rfl⟩, rfl, fun hc => q_fld_q rfl, ⟨fun h => h, trivial⟩⟩ rfl ?_
    refine rqc (l := [24]) ⟨⟨_, _, _, rfl, rfl, rfl, rfl⟩, rfl, fun hc => q_load1_q rfl, ⟨fun h => h, trivial⟩⟩ rfl ?_
    refine rqc (l := [25]) ⟨⟨_, _, _, rfl, rfl, rfl, rfl⟩, rfl, fun hc => q_gtr rfl rfl, ⟨fun h => h, trivial⟩⟩ rfl ?_
    refine rq rfl rfl (q_pickb rfl rfl rfl (PB.c (fun hp => hp)) PB.v) ?_
    refine run_nil ?_
    refine ev_cond rfl (fun hc => ?_) (fun hc => ?_)
    · replace H := ct hc H
      refine ev_seq ?_
      refine ev_region ?_
      refine rq rfl rfl (q_assign rfl) ?_
      refine run_nil ?_
      refine ev_ret ?_
      exact ret_ok [vb false] (congrArg (fun r : Bool => vb r) (Option.some.inj H)) rfl (.cons (.tmp rfl (.v _ _ (fun _ => rfl))) .nil)
    · replace H := cf hc H
      refine ev_skip ?_
      refine ev_region ?_
      refine rq rfl rfl (q_move rfl) ?_
      refine rq rfl rfl (q_add rfl rfl) ?_
      refine rq rfl rfl (q_assign rfl) ?_
      refine run_nil ?_
      exact ⟨_, _, _, n12_e, H, rfl, shift_mk ⟨⟨_, rfl, .rfl⟩, ⟨⟨_, rfl, (.flat rfl)⟩, ⟨⟨_, rfl, (.eq (congrArg (fun n => D.v true (vi n)) (wrap_succ' (by omega) w11 w10)))⟩, trivial⟩⟩⟩ ⟨(.e rfl), trivial⟩ rfl rfl⟩
  · replace H := forN_out hc w7 H
    refine ev_exit ?_
    refine ev_seq ?_
    refine ev_region ?_
    refine rq rfl rfl (q_fld_p rfl) ?_
    refine rq rfl rfl (q_load1 rfl rfl rfl) ?_
    refine rq rfl rfl (q_len_t rfl) ?_
    refine rq rfl rfl (q_leq rfl rfl) ?_
    refine rq rfl rfl (q_assign rfl) ?_
    refine run_nil ?_
    refine ev_ret ?_
    exact ret_ok [vb (decide (((a0.facts.length : Nat) : Int) ≤ 60))] (congrArg (fun r : Bool => vb r) (Option.some.inj H)) rfl (.cons (.tmp rfl (.v _ _ (fun _ => rfl))) .nil)
def backflushref18_Day_m (a0 : Int) : Option Bool := some (bif decide (0 ≤ a0) then decide (a0 < 1024) else false)
theorem backflushref18_Day_c {a0 : Int} {r : Bool} (H : backflushref18_Day_m a0 = some r) : PureC Try.prog true 61 [vi a0] (vb r) := by
  unfold backflushref18_Day_m at H
  refine pure_intro (N := 9) Try.func61 rfl rfl rfl rfl fun C hO => ?_
  refine ev_shift (shift_mk (fs := [(0, .v true (vi a0))]) (es := []) ⟨⟨_, rfl, (.flat rfl)⟩, trivial⟩ trivial rfl rfl) ?_
  refine ev_seq ?_
  refine ev_region ?_
  refine rq rfl rfl (q_assign rfl) ?_
  refine run_nil ?_
  refine ev_seq ?_
  refine ev_region ?_
  refine rq rfl rfl (q_move rfl) ?_
  refine rq rfl rfl (q_geq rfl rfl) ?_
  refine rq rfl rfl (q_move rfl) ?_
  refine rqc (l := []) ⟨⟨_, _, _, rfl, rfl, rfl, rfl⟩, rfl, fun hc => q_move rfl, trivial⟩ rfl ?_
  refine rqc (l := [6]) ⟨⟨_, _, _, rfl, rfl, rfl, rfl⟩, rfl, fun hc => q_lss rfl rfl, ⟨fun h => h, trivial⟩⟩ rfl ?_
  refine rq rfl rfl (q_pickb rfl rfl rfl (PB.c (fun hp => hp)) PB.v) ?_
  refine rq rfl rfl (q_assign rfl) ?_
  refine run_nil ?_
  refine ev_ret ?_
  exact ret_ok [vb (bif decide (0 ≤ a0) then decide (a0 < 1024) else false)] (congrArg (fun r : Bool => vb r) (Option.some.inj H)) rfl (.cons (.tmp rfl (.v _ _ (fun _ => rfl))) .nil)
def backflushref18_head_m  : Option GKey := some (⟨0, 0, 0⟩ : GKey)
theorem backflushref18_head_c  {r : GKey} (H : backflushref18_head_m  = some r) : PureC Try.prog true 62 [] (GKey.e r) := by
  unfold backflushref18_head_m at H
  refine pure_intro (N := 2) Try.func62 rfl rfl rfl rfl fun C hO => ?_
  refine ev_seq ?_
  refine ev_region ?_
  refine re rfl (e_alloc 0 0 rfl rfl) ?_; rintro _ ⟨b1, rfl⟩
  refine run_nil ?_
  refine ev_seq ?_
  refine ev_region ?_
  refine rq rfl rfl (q_build rfl (.v rfl rfl rfl rfl rfl .nil)) ?_
  refine re rfl (e_store rfl rfl rfl rfl rfl (Nat.le_of_ble_eq_true rfl) rfl) ?_; rintro _ rfl
  refine run_nil ?_
  refine ev_ret ?_
  exact ret_ok [GKey.e (⟨0, 0, 0⟩ : GKey)] (congrArg (fun r : GKey => GKey.e r) (Option.some.inj H)) rfl (.cons (.cellN (z := 3) rfl rfl rfl rfl rfl rfl (.v _ _ (fun _ => rfl))) .nil)
def backflushref04_Before_m (a0 : GFact) (a1 : GFact) : Option Bool := some (bif decide (a0.known < a1.known) then true else bif a0.known == a1.known then decide (a0.no_ < a1.no_) else false)
theorem backflushref04_Before_c {a0 : GFact} {a1 : GFact} {r : Bool} (H : backflushref04_Before_m a0 a1 = some r) : PureC Try.prog true 80 [GFact.e a0, GFact.e a1] (vb r) := by
  unfold backflushref04_Before_m at H
  refine pure_intro (N := 24) Try.func80 rfl rfl rfl rfl fun C hO => ?_
  refine ev_shift (shift_mk (fs := [(0, .v true (GFact.e a0)), (1, .v true (GFact.e a1))]) (es := []) ⟨⟨_, rfl, (.flat rfl)⟩, ⟨⟨_, rfl, (.flat rfl)⟩, trivial⟩⟩ trivial rfl rfl) ?_
  refine ev_seq ?_
  refine ev_region ?_
  refine re rfl (e_box 2 0 rfl rfl rfl) ?_; rintro _ ⟨b1, rfl⟩
  refine re rfl (e_box 3 0 rfl rfl rfl) ?_; rintro _ ⟨b2, rfl⟩
  refine rq rfl rfl (q_assign rfl) ?_
  refine run_nil ?_
  refine ev_seq ?_
  refine ev_region ?_
  refine rq rfl rfl (q_fld_p rfl) ?_
  refine rq rfl rfl (q_load1 rfl rfl rfl) ?_
  refine rq rfl rfl (q_fld_p rfl) ?_
  refine rq rfl rfl (q_load1 rfl rfl rfl) ?_
  refine rq rfl rfl (q_lss rfl rfl) ?_
  refine rq rfl rfl (q_move rfl) ?_
  refine rqc (l := []) ⟨⟨_, _, _, rfl, rfl, rfl, rfl⟩, rfl, fun hc => q_fld_p rfl, trivial⟩ rfl ?_
  refine rqc (l := [11]) ⟨⟨_, _, _, rfl, rfl, rfl, rfl⟩, rfl, fun hc => q_load1 rfl rfl rfl, ⟨fun h => h, trivial⟩⟩ rfl ?_
  refine rqc (l := []) ⟨⟨_, _, _, rfl, rfl, rfl, rfl⟩, rfl, fun hc => q_fld_p rfl, trivial⟩ rfl ?_
  refine rqc (l := [13]) ⟨⟨_, _, _, rfl, rfl, rfl, rfl⟩, rfl, fun hc => q_load1 rfl rfl rfl, ⟨fun h => h, trivial⟩⟩ rfl ?_
  refine rqc (l := [12, 14]) ⟨⟨_, _, _, rfl, rfl, rfl, rfl⟩, rfl, fun hc => q_eqi rfl rfl, ⟨fun h => h, ⟨fun h => h, trivial⟩⟩⟩ rfl ?_
  refine rqc (l := [15]) ⟨⟨_, _, _, rfl, rfl, rfl, rfl⟩, rfl, fun hc => q_move rfl, ⟨fun h => h, trivial⟩⟩ rfl ?_
  refine rqc (l := []) ⟨⟨_, _, _, rfl, rfl, rfl, rfl⟩, rfl, fun hc => q_fld_p rfl, trivial⟩ rfl ?_
  refine rqc (l := [17]) ⟨⟨_, _, _, rfl, rfl, rfl, rfl⟩, rfl, fun hc => q_load1 rfl rfl rfl, ⟨fun h => h, trivial⟩⟩ rfl ?_
  refine rqc (l := []) ⟨⟨_, _, _, rfl, rfl, rfl, rfl⟩, rfl, fun hc => q_fld_p rfl, trivial⟩ rfl ?_
  refine rqc (l := [19]) ⟨⟨_, _, _, rfl, rfl, rfl, rfl⟩, rfl, fun hc => q_load1 rfl rfl rfl, ⟨fun h => h, trivial⟩⟩ rfl ?_
  refine rqc (l := [18, 20]) ⟨⟨_, _, _, rfl, rfl, rfl, rfl⟩, rfl, fun hc => q_lss rfl rfl, ⟨fun h => h, ⟨fun h => h, trivial⟩⟩⟩ rfl ?_
  refine rqc (l := [16]) ⟨⟨_, _, _, rfl, rfl, rfl, rfl⟩, rfl, fun hc => q_pickb rfl rfl rfl (PB.c (fun hp => by simp_all)) PB.v, ⟨fun h => h, trivial⟩⟩ rfl ?_
  refine rq rfl rfl (q_pickb rfl rfl rfl PB.v (PB.c (fun hp => by rw [hp]; rfl))) ?_
  refine rq rfl rfl (q_assign rfl) ?_
  refine run_nil ?_
  refine ev_ret ?_
  exact ret_ok [vb (bif decide (a0.known < a1.known) then true else bif a0.known == a1.known then decide (a0.no_ < a1.no_) else false)] (congrArg (fun r : Bool => vb r) (Option.some.inj H)) rfl (.cons (.tmp rfl (.v _ _ (fun _ => rfl))) .nil)
def backflushref04_At_m (a0 : List GFact) (a1 : GKey) (a2 : Int) (a3 : Int) : Option (Int × Bool) := forL a0 (fun (k4 : Nat) (x7 : GFact) (s2 : Int) loop3 => jn (fun (p11 : Int) => loop3 p11) fun j10 => bdc ((bif bif bif GKey.eqb x7.key a1 then decide (x7.valid.from_ ≤ a2) else false then decide (a2 < x7.valid.to_) else false then decide (x7.known ≤ a3) else false) && (!(decide (s2 < 0)))) (idx a0 s2) fun x13 => bdc ((bif bif bif GKey.eqb x7.key a1 then decide (x7.valid.from_ ≤ a2) else false then decide (a2 < x7.valid.to_) else false then decide (x7.known ≤ a3) else false) && (!(decide (s2 < 0)))) (backflushref04_Before_m x7 x13) fun x14 => bif bif bif bif bif GKey.eqb x7.key a1 then decide (x7.valid.from_ ≤ a2) else false then decide (a2 < x7.valid.to_) else false then decide (x7.known ≤ a3) else false then bif decide (s2 < 0) then true else !x14 else false then (j10 ((k4 : Nat) : Int)) else (j10 s2)) (fun (s2 : Int) => bdc (!(decide (s2 < 0))) (idx a0 s2) fun x15 => bif bif decide (s2 < 0) then true else decide (x15.value < 0) then (some (0, false)) else (bd (idx a0 s2) fun x16 => some (x16.value, true))) (-1)
theorem backflushref04_At_c {a0 : List GFact} {a1 : GKey} {a2 : Int} {a3 : Int} {r : Int × Bool} (H : backflushref04_At_m a0 a1 a2 a3 = some r) : PureC Try.prog true 43 [V.l 8 (List.map GFact.e a0), GKey.e a1, vi a2, vi a3] (V.t [vi r.1, vb r.2]) := by
  unfold backflushref04_At_m at H
  refine pure_intro (N := 76) Try.func43 rfl rfl rfl rfl fun C hO => ?_
  refine ev_shift (shift_mk (fs := [(0, .v false (V.l 8 (List.map GFact.e a0))), (1, .v true (GKey.e a1)), (2, .v true (vi a2)), (3, .v true (vi a3))]) (es := []) ⟨⟨_, rfl, .rfl⟩, ⟨⟨_, rfl, (.flat rfl)⟩, ⟨⟨_, rfl, (.flat rfl)⟩, ⟨⟨_, rfl, (.flat rfl)⟩, trivial⟩⟩⟩⟩ trivial rfl rfl) ?_
  refine ev_seq ?_
  refine ev_region ?_
  refine re rfl (e_box 5 0 rfl rfl rfl) ?_; rintro _ ⟨b1, rfl⟩
  refine rq rfl rfl (q_assign rfl) ?_
  refine rq rfl rfl (q_assign rfl) ?_
  refine run_nil ?_
  refine ev_seq ?_
  refine ev_region ?_
  refine rq rfl rfl (q_assign rfl) ?_
  refine run_nil ?_
  refine ev_seq ?_
  refine ev_seq ?_
  refine ev_region ?_
  refine rq rfl rfl (q_assign rfl) ?_
  refine run_nil ?_
  refine ev_block ?_
  refine ev_len_l (s := 0) rfl fun w9 => ?_
  rw [List.length_map] at w9
  refine ev_forL H (fun k4 s2 σ' => σ' = mkS [(0, .v false (V.l 8 (List.map GFact.e a0))), (2, .v true (vi a2)), (3, .v true (vi a3)), (5, .p 5 0 b1 0), (8, .v true (vi 0)), (9, .v true (vb false)), (10, .v true (vi s2)), (11, .v true (vi ((k4 : Nat) : Int)))] [.e 5 0 (some (b1, 3)) (.row 68 [.v true (vi a1.kind), .v true (vi a1.subject), .v true (vi a1.object)])] [] (0, false)) ⟨_, rfl, shift_mk ⟨⟨_, rfl, .rfl⟩, ⟨⟨_, rfl, (.flat rfl)⟩, ⟨⟨_, rfl, (.flat rfl)⟩, ⟨⟨_, rfl, .rfl⟩, ⟨⟨_, rfl, (.flat rfl)⟩, ⟨⟨_, rfl, (.flat rfl)⟩, ⟨⟨_, rfl, (.flat rfl)⟩, ⟨⟨_, rfl, .rfl⟩, trivial⟩⟩⟩⟩⟩⟩⟩⟩ ⟨(.w rfl (.cons (.flat rfl) (.cons (.flat rfl) (.cons (.flat rfl) .nil)))), trivial⟩ rfl rfl⟩ ?_
  rintro k4 s2 _ rfl _ H
  refine ev_seq ?_
  refine ev_seq ?_
  refine ev_region ?_
  refine rq rfl rfl (q_move rfl) ?_
  refine rq rfl rfl (q_move rfl) ?_
  refine rq rfl rfl (q_len_t rfl) ?_
  refine rq rfl rfl (q_lss rfl rfl) ?_
  refine run_nil ?_
  refine ev_cond rfl (fun hc => ?_) (fun hc => ?_)
  · obtain ⟨x7, w8, x7_g, H⟩ := forL_in hc H
    have x7_h : idx a0 ((k4 : Nat) : Int) = some x7 := by rw [idx_nat]; exact x7_g
    refine ev_skip ?_
    obtain ⟨j10, j10_e, H⟩ := jn_inv H
    refine ev_join (fun σ' => ∃ (p11 : Int), j10 p11 = some r ∧ σ' = mkS [(0, .v false (V.l 8 (List.map GFact.e a0))), (2, .v true (vi a2)), (3, .v true (vi a3)), (5, .p 5 0 b1 0), (8, .v true (vi 0)), (9, .v true (vb false)), (10, .v true (vi p11)), (11, .v true (vi ((k4 : Nat) : Int)))] [.e 5 0 (some (b1, 3)) (.row 68 [.v true (vi a1.kind), .v true (vi a1.subject), .v true (vi a1.object)])] [] (0, false)) ?_ ?_
    · rintro _ ⟨p11, H, rfl⟩
      subst j10_e
      refine ev_region ?_
      refine rq rfl rfl (q_move rfl) ?_
      refine rq rfl rfl (q_add rfl rfl) ?_
      refine rq rfl rfl (q_assign rfl) ?_
      refine run_nil ?_
      exact ⟨_, _, w8, H, rfl, shift_mk ⟨⟨_, rfl, .rfl⟩, ⟨⟨_, rfl, (.flat rfl)⟩, ⟨⟨_, rfl, (.flat rfl)⟩, ⟨⟨_, rfl, .rfl⟩, ⟨⟨_, rfl, (.flat rfl)⟩, ⟨⟨_, rfl, (.flat rfl)⟩, ⟨⟨_, rfl, (.flat rfl)⟩, ⟨⟨_, rfl, (.eq (congrArg (fun n => D.v true (vi n)) (wrap_succ w8 w9)))⟩, trivial⟩⟩⟩⟩⟩⟩⟩⟩ ⟨(.w rfl (.cons (.flat rfl) (.cons (.flat rfl) (.cons (.flat rfl) .nil)))), trivial⟩ rfl rfl⟩
    · clear j10_e
      refine ev_block ?_
      refine ev_seq ?_
      refine ev_region ?_
      refine rq rfl rfl (q_move rfl) ?_
      refine rq rfl rfl (q_move rfl) ?_
      refine rq rfl rfl (q_idx_l rfl rfl (idx_inv x7_h).1 (map_get (idx_inv x7_h).2.1) rfl) ?_
      refine rq rfl rfl (q_load_e rfl rfl rfl) ?_
      refine re rfl (e_alloc 12 0 rfl rfl) ?_; rintro _ ⟨b12, rfl⟩
      refine re rfl (e_store rfl rfl rfl rfl rfl (Nat.le_of_ble_eq_true rfl) rfl) ?_; rintro _ rfl
      refine run_nil ?_
      refine ev_seq ?_
      obtain ⟨x13, x13_h, _, H⟩ := bdc_inv H
      obtain ⟨x14, x14_h, _, H⟩ := bdc_inv H
      refine ev_draw rfl (by kernel_rfl) ?_
      refine qq rfl rfl (q_fld_p rfl) ?_
      refine qq rfl rfl (q_loadN rfl rfl rfl rfl) ?_
      refine qq rfl rfl (q_loadN rfl rfl rfl rfl) ?_
      refine qq rfl rfl (q_eqs rfl rfl rfl) ?_
      refine qq rfl rfl (q_move rfl) ?_
      refine qc (l := []) ⟨⟨_, _, _, rfl, rfl, rfl, rfl⟩, rfl, fun hc => q_fld_p rfl, trivial⟩ rfl rfl ?_
      refine qc (l := [28]) ⟨⟨_, _, _, rfl, rfl, rfl, rfl⟩, rfl, fun hc => q_fld_p rfl, ⟨fun h => h, trivial⟩⟩ rfl rfl ?_
      refine qc (l := [29]) ⟨⟨_, _, _, rfl, rfl, rfl, rfl⟩, rfl, fun hc => q_load1 rfl rfl rfl, ⟨fun h => h, trivial⟩⟩ rfl rfl ?_
      refine qc (l := []) ⟨⟨_, _, _, rfl, rfl, rfl, rfl⟩, rfl, fun hc => q_move rfl, trivial⟩ rfl rfl ?_
      refine qc (l := [30, 31]) ⟨⟨_, _, _, rfl, rfl, rfl, rfl⟩, rfl, fun hc => q_leq rfl rfl, ⟨fun h => h, ⟨fun h => h, trivial⟩⟩⟩ rfl rfl ?_
      refine qq rfl rfl (q_pickb rfl rfl rfl (PB.c (fun hp => hp)) PB.v) ?_
      refine qq rfl rfl (q_move rfl) ?_
      refine qc (l := []) ⟨⟨_, _, _, rfl, rfl, rfl, rfl⟩, rfl, fun hc => q_move rfl, trivial⟩ rfl rfl ?_
      refine qc (l := []) ⟨⟨_, _, _, rfl, rfl, rfl, rfl⟩, rfl, fun hc => q_fld_p rfl, trivial⟩ rfl rfl ?_
      refine qc (l := [36]) ⟨⟨_, _, _, rfl, rfl, rfl, rfl⟩, rfl, fun hc => q_fld_p rfl, ⟨fun h => h, trivial⟩⟩ rfl rfl ?_
      refine qc (l := [37]) ⟨⟨_, _, _, rfl, rfl, rfl, rfl⟩, rfl, fun hc => q_load1 rfl rfl rfl, ⟨fun h => h, trivial⟩⟩ rfl rfl ?_
      refine qc (l := [35, 38]) ⟨⟨_, _, _, rfl, rfl, rfl, rfl⟩, rfl, fun hc => q_lss rfl rfl, ⟨fun h => h, ⟨fun h => h, trivial⟩⟩⟩ rfl rfl ?_
      refine qq rfl rfl (q_pickb rfl rfl rfl (PB.c (fun hp => hp)) PB.v) ?_
      refine qq rfl rfl (q_move rfl) ?_
      refine qc (l := []) ⟨⟨_, _, _, rfl, rfl, rfl, rfl⟩, rfl, fun hc => q_fld_p rfl, trivial⟩ rfl rfl ?_
      refine qc (l := [42]) ⟨⟨_, _, _, rfl, rfl, rfl, rfl⟩, rfl, fun hc => q_load1 rfl rfl rfl, ⟨fun h => h, trivial⟩⟩ rfl rfl ?_
      refine qc (l := []) ⟨⟨_, _, _, rfl, rfl, rfl, rfl⟩, rfl, fun hc => q_move rfl, trivial⟩ rfl rfl ?_
      refine qc (l := [43, 44]) ⟨⟨_, _, _, rfl, rfl, rfl, rfl⟩, rfl, fun hc => q_leq rfl rfl, ⟨fun h => h, ⟨fun h => h, trivial⟩⟩⟩ rfl rfl ?_
      refine qq rfl rfl (q_pickb rfl rfl rfl (PB.c (fun hp => hp)) PB.v) ?_
      refine qq rfl rfl (q_move rfl) ?_
      refine qc (l := []) ⟨⟨_, _, _, rfl, rfl, rfl, rfl⟩, rfl, fun hc => q_move rfl, trivial⟩ rfl rfl ?_
      refine qc (l := [48]) ⟨⟨_, _, _, rfl, rfl, rfl, rfl⟩, rfl, fun hc => q_lss rfl rfl, ⟨fun h => h, trivial⟩⟩ rfl rfl ?_
      refine qc (l := [49]) ⟨⟨_, _, _, rfl, rfl, rfl, rfl⟩, rfl, fun hc => q_move rfl, ⟨fun h => h, trivial⟩⟩ rfl rfl ?_
      refine qc (l := []) ⟨⟨_, _, _, rfl, rfl, rfl, rfl⟩, rfl, fun hc => q_loadN rfl rfl rfl rfl, trivial⟩ rfl rfl ?_
      refine qc (l := []) ⟨⟨_, _, _, rfl, rfl, rfl, rfl⟩, rfl, fun hc => q_move rfl, trivial⟩ rfl rfl ?_
      refine qc (l := []) ⟨⟨_, _, _, rfl, rfl, rfl, rfl⟩, rfl, fun hc => q_move rfl, trivial⟩ rfl rfl ?_
      refine qc (l := [52, 53]) ⟨⟨_, _, _, rfl, rfl, rfl, rfl⟩, rfl, fun hc => q_idx_l rfl rfl (idx_inv (x13_h hc)).1 (map_get (idx_inv (x13_h hc)).2.1) rfl, ⟨fun h => h, ⟨fun h => h, trivial⟩⟩⟩ rfl rfl ?_
      refine qc (l := [54]) ⟨⟨_, _, _, rfl, rfl, rfl, rfl⟩, rfl, fun hc => q_load_e rfl rfl rfl, ⟨fun h => h, trivial⟩⟩ rfl rfl ?_
      refine qc (l := [51, 55]) ⟨⟨_, _, _, rfl, rfl, rfl, rfl⟩, rfl, fun hc => q_call rfl (.v _ _ (fun e => nomatch e)) (.v rfl (.v rfl ArgsOk.nil)) inferInstance (backflushref04_Before_c  (x14_h hc)), ⟨fun h => h, ⟨fun h => h, trivial⟩⟩⟩ rfl rfl ?_
      refine qc (l := [56]) ⟨⟨_, _, _, rfl, rfl, rfl, rfl⟩, rfl, fun hc => q_not rfl, ⟨fun h => h, trivial⟩⟩ rfl rfl ?_
      refine qc (l := [50]) ⟨⟨_, _, _, rfl, rfl, rfl, rfl⟩, rfl, fun hc => q_pickb rfl rfl rfl PB.v (PB.c (fun hp => by simp_all)), ⟨fun h => h, trivial⟩⟩ rfl rfl ?_
      refine qq rfl rfl (q_pickb rfl rfl rfl (PB.c (fun hp => hp)) PB.v) ?_
      refine qn ?_
      refine ev_cond rfl (fun hc => ?_) (fun hc => ?_)
      · replace H := ct hc H
        refine ev_region ?_
        refine rq rfl rfl (q_move rfl) ?_
        refine rq rfl rfl (q_assign rfl) ?_
        refine run_nil ?_
        exact ⟨_, ⟨((k4 : Nat) : Int), H, rfl⟩, shift_mk ⟨⟨_, rfl, .rfl⟩, ⟨⟨_, rfl, (.flat rfl)⟩, ⟨⟨_, rfl, (.flat rfl)⟩, ⟨⟨_, rfl, .rfl⟩, ⟨⟨_, rfl, (.flat rfl)⟩, ⟨⟨_, rfl, (.flat rfl)⟩, ⟨⟨_, rfl, (.flat rfl)⟩, ⟨⟨_, rfl, (.flat rfl)⟩, trivial⟩⟩⟩⟩⟩⟩⟩⟩ ⟨(.w rfl (.cons (.flat rfl) (.cons (.flat rfl) (.cons (.flat rfl) .nil)))), trivial⟩ rfl rfl⟩
      · replace H := cf hc H
        refine ev_skip ?_
        exact ⟨_, ⟨s2, H, rfl⟩, shift_mk ⟨⟨_, rfl, .rfl⟩, ⟨⟨_, rfl, (.flat rfl)⟩, ⟨⟨_, rfl, (.flat rfl)⟩, ⟨⟨_, rfl, .rfl⟩, ⟨⟨_, rfl, (.flat rfl)⟩, ⟨⟨_, rfl, (.flat rfl)⟩, ⟨⟨_, rfl, (.flat rfl)⟩, ⟨⟨_, rfl, (.flat rfl)⟩, trivial⟩⟩⟩⟩⟩⟩⟩⟩ ⟨(.w rfl (.cons (.flat rfl) (.cons (.flat rfl) (.cons (.flat rfl) .nil)))), trivial⟩ rfl rfl⟩
  · replace H := forL_out hc H
    refine ev_exit ?_
    refine ev_seq ?_
    refine ev_seq ?_
    refine ev_region ?_
    refine rq rfl rfl (q_move rfl) ?_
    refine rq rfl rfl (q_lss rfl rfl) ?_
    refine rq rfl rfl (q_move rfl) ?_
    refine rqc (l := []) ⟨⟨_, _, _, rfl, rfl, rfl, rfl⟩, rfl, fun hc => q_move rfl, trivial⟩ rfl ?_
    refine rqc (l := []) ⟨⟨_, _, _, rfl, rfl, rfl, rfl⟩, rfl, fun hc => q_move rfl, trivial⟩ rfl ?_
    obtain ⟨x15, x15_h, _, H⟩ := bdc_inv H
    refine rqc (l := [64, 65]) ⟨⟨_, _, _, rfl, rfl, rfl, rfl⟩, rfl, fun hc => q_idx_l rfl rfl (idx_inv (x15_h hc)).1 (map_get (idx_inv (x15_h hc)).2.1) rfl, ⟨fun h => h, ⟨fun h => h, trivial⟩⟩⟩ rfl ?_
    refine rqc (l := [66]) ⟨⟨_, _, _, rfl, rfl, rfl, rfl⟩, rfl, fun hc => q_fld_q rfl, ⟨fun h => h, trivial⟩⟩ rfl ?_
    refine rqc (l := [67]) ⟨⟨_, _, _, rfl, rfl, rfl, rfl⟩, rfl, fun hc => q_load1_q rfl, ⟨fun h => h, trivial⟩⟩ rfl ?_
    refine rqc (l := [68]) ⟨⟨_, _, _, rfl, rfl, rfl, rfl⟩, rfl, fun hc => q_lss rfl rfl, ⟨fun h => h, trivial⟩⟩ rfl ?_
    refine rq rfl rfl (q_pickb rfl rfl rfl PB.v (PB.c (fun hp => by rw [hp]; rfl))) ?_
    refine run_nil ?_
    refine ev_cond rfl (fun hc => ?_) (fun hc => ?_)
    · replace H := ct hc H
      refine ev_seq ?_
      refine ev_region ?_
      refine rq rfl rfl (q_assign rfl) ?_
      refine rq rfl rfl (q_assign rfl) ?_
      refine run_nil ?_
      refine ev_ret ?_
      exact ret_ok [vi 0, vb false] (congrArg (fun r : Int × Bool => V.t [vi r.1, vb r.2]) (Option.some.inj H)) rfl (.cons (.tmp rfl (.v _ _ (fun _ => rfl))) (.cons (.tmp rfl (.v _ _ (fun _ => rfl))) .nil))
    · replace H := cf hc H
      refine ev_skip ?_
      refine ev_seq ?_
      refine ev_region ?_
      refine rq rfl rfl (q_move rfl) ?_
      refine rq rfl rfl (q_move rfl) ?_
      obtain ⟨x16, x16_h, H⟩ := bd_inv H
      refine rq rfl rfl (q_idx_l rfl rfl (idx_inv x16_h).1 (map_get (idx_inv x16_h).2.1) rfl) ?_
      refine rq rfl rfl (q_fld_q rfl) ?_
      refine rq rfl rfl (q_load1_q rfl) ?_
      refine rq rfl rfl (q_assign rfl) ?_
      refine rq rfl rfl (q_assign rfl) ?_
      refine run_nil ?_
      refine ev_ret ?_
      exact ret_ok [vi x16.value, vb true] (congrArg (fun r : Int × Bool => V.t [vi r.1, vb r.2]) (Option.some.inj H)) rfl (.cons (.tmp rfl (.v _ _ (fun _ => rfl))) (.cons (.tmp rfl (.v _ _ (fun _ => rfl))) .nil))
def backflushref18_many_m (a0 : GWorld) (a1 : Int) (a2 : Int) : Option Int := bd (backflushref18_Day_m a1) fun x2 => bif !x2 then (some 0) else (bd (backflushref18_head_m) fun x3 => bd (backflushref04_At_m a0.facts x3 a1 a2) fun x4 => some (min (max x4.1 0) 1024))
theorem backflushref18_many_c {a0 : GWorld} {a1 : Int} {a2 : Int} {r : Int} (H : backflushref18_many_m a0 a1 a2 = some r) : PureC Try.prog true 63 [GWorld.e a0, vi a1, vi a2] (vi r) := by
  unfold backflushref18_many_m at H
  refine pure_intro (N := 24) Try.func63 rfl rfl rfl rfl fun C hO => ?_
  refine ev_shift (shift_mk (fs := [(0, .v false (GWorld.e a0)), (1, .v true (vi a1)), (2, .v true (vi a2))]) (es := []) ⟨⟨_, rfl, .rfl⟩, ⟨⟨_, rfl, (.flat rfl)⟩, ⟨⟨_, rfl, (.flat rfl)⟩, trivial⟩⟩⟩ trivial rfl rfl) ?_
  refine ev_seq ?_
  refine ev_region ?_
  refine re rfl (e_box 3 0 rfl rfl rfl) ?_; rintro _ ⟨b1, rfl⟩
  refine rq rfl rfl (q_assign rfl) ?_
  refine run_nil ?_
  refine ev_seq ?_
  refine ev_seq ?_
  refine ev_region ?_
  refine rq rfl rfl (q_move rfl) ?_
  obtain ⟨x2, x2_h, H⟩ := bd_inv H
  refine rq rfl rfl (q_call rfl (.v _ _ (fun e => nomatch e)) (.v rfl ArgsOk.nil) inferInstance (backflushref18_Day_c  x2_h)) ?_
  refine rq rfl rfl (q_not rfl) ?_
  refine run_nil ?_
  refine ev_cond rfl (fun hc => ?_) (fun hc => ?_)
  · replace H := ct hc H
    refine ev_seq ?_
    refine ev_region ?_
    refine rq rfl rfl (q_assign rfl) ?_
    refine run_nil ?_
    refine ev_ret ?_
    exact ret_ok [vi 0] (congrArg (fun r : Int => vi r) (Option.some.inj H)) rfl (.cons (.tmp rfl (.v _ _ (fun _ => rfl))) .nil)
  · replace H := cf hc H
    refine ev_skip ?_
    refine ev_seq ?_
    obtain ⟨x3, x3_h, H⟩ := bd_inv H
    obtain ⟨x4, x4_h, H⟩ := bd_inv H
    refine ev_draw rfl (by kernel_rfl) ?_
    refine qq rfl rfl (q_fld_p rfl) ?_
    refine qq rfl rfl (q_load1 rfl rfl rfl) ?_
    refine qq rfl rfl (q_call rfl (.v _ _ (fun e => nomatch e)) ArgsOk.nil inferInstance (backflushref18_head_c  x3_h)) ?_
    refine qq rfl rfl (q_move rfl) ?_
    refine qq rfl rfl (q_move rfl) ?_
    refine qq rfl rfl (q_call rfl (.v _ _ (fun e => nomatch e)) (.v rfl (.v rfl (.v rfl (.v rfl ArgsOk.nil)))) inferInstance (backflushref04_At_c  x4_h)) ?_
    refine qq rfl rfl (q_move rfl) ?_
    refine qq rfl rfl (q_extract rfl rfl) ?_
    refine qq rfl rfl (q_extract rfl rfl) ?_
    refine qq rfl rfl (q_assign rfl) ?_
    refine qq rfl rfl (q_assign rfl) ?_
    refine qn ?_
    refine ev_seq ?_
    refine ev_region ?_
    refine rq rfl rfl (q_move rfl) ?_
    refine rq rfl rfl (q_max rfl rfl) ?_
    refine rq rfl rfl (q_min rfl rfl) ?_
    refine rq rfl rfl (q_assign rfl) ?_
    refine run_nil ?_
    refine ev_ret ?_
    exact ret_ok [vi (min (max x4.1 0) 1024)] (congrArg (fun r : Int => vi r) (Option.some.inj H)) rfl (.cons (.tmp rfl (.v _ _ (fun _ => rfl))) .nil)
def backflushref18_Right_m (a0 : GLot) : Option Bool := some (bif bif bif bif bif bif bif bif decide (0 ≤ a0.item) then decide (a0.item < 32) else false then decide (0 ≤ a0.plant) else false then decide (a0.plant < 8) else false then decide (1 ≤ a0.amount) else false then decide (0 ≤ a0.expiry) else false then decide (a0.expiry ≤ 1024) else false then decide (0 ≤ a0.state) else false then decide (a0.state ≤ 3) else false)
theorem backflushref18_Right_c {a0 : GLot} {r : Bool} (H : backflushref18_Right_m a0 = some r) : PureC Try.prog true 40 [GLot.e a0] (vb r) := by
  unfold backflushref18_Right_m at H
  refine pure_intro (N := 46) Try.func40 rfl rfl rfl rfl fun C hO => ?_
  refine ev_shift (shift_mk (fs := [(0, .v true (GLot.e a0))]) (es := []) ⟨⟨_, rfl, (.flat rfl)⟩, trivial⟩ trivial rfl rfl) ?_
  refine ev_seq ?_
  refine ev_region ?_
  refine re rfl (e_box 1 0 rfl rfl rfl) ?_; rintro _ ⟨b1, rfl⟩
  refine rq rfl rfl (q_assign rfl) ?_
  refine run_nil ?_
  refine ev_seq ?_
  refine ev_region ?_
  refine rq rfl rfl (q_fld_p rfl) ?_
  refine rq rfl rfl (q_load1 rfl rfl rfl) ?_
  refine rq rfl rfl (q_geq rfl rfl) ?_
  refine rq rfl rfl (q_move rfl) ?_
  refine rqc (l := []) ⟨⟨_, _, _, rfl, rfl, rfl, rfl⟩, rfl, fun hc => q_fld_p rfl, trivial⟩ rfl ?_
  refine rqc (l := [7]) ⟨⟨_, _, _, rfl, rfl, rfl, rfl⟩, rfl, fun hc => q_load1 rfl rfl rfl, ⟨fun h => h, trivial⟩⟩ rfl ?_
  refine rqc (l := [8]) ⟨⟨_, _, _, rfl, rfl, rfl, rfl⟩, rfl, fun hc => q_lss rfl rfl, ⟨fun h => h, trivial⟩⟩ rfl ?_
  refine rq rfl rfl (q_pickb rfl rfl rfl (PB.c (fun hp => hp)) PB.v) ?_
  refine rq rfl rfl (q_move rfl) ?_
  refine rqc (l := []) ⟨⟨_, _, _, rfl, rfl, rfl, rfl⟩, rfl, fun hc => q_fld_p rfl, trivial⟩ rfl ?_
  refine rqc (l := [12]) ⟨⟨_, _, _, rfl, rfl, rfl, rfl⟩, rfl, fun hc => q_load1 rfl rfl rfl, ⟨fun h => h, trivial⟩⟩ rfl ?_
  refine rqc (l := [13]) ⟨⟨_, _, _, rfl, rfl, rfl, rfl⟩, rfl, fun hc => q_geq rfl rfl, ⟨fun h => h, trivial⟩⟩ rfl ?_
  refine rq rfl rfl (q_pickb rfl rfl rfl (PB.c (fun hp => hp)) PB.v) ?_
  refine rq rfl rfl (q_move rfl) ?_
  refine rqc (l := []) ⟨⟨_, _, _, rfl, rfl, rfl, rfl⟩, rfl, fun hc => q_fld_p rfl, trivial⟩ rfl ?_
  refine rqc (l := [17]) ⟨⟨_, _, _, rfl, rfl, rfl, rfl⟩, rfl, fun hc => q_load1 rfl rfl rfl, ⟨fun h => h, trivial⟩⟩ rfl ?_
  refine rqc (l := [18]) ⟨⟨_, _, _, rfl, rfl, rfl, rfl⟩, rfl, fun hc => q_lss rfl rfl, ⟨fun h => h, trivial⟩⟩ rfl ?_
  refine rq rfl rfl (q_pickb rfl rfl rfl (PB.c (fun hp => hp)) PB.v) ?_
  refine rq rfl rfl (q_move rfl) ?_
  refine rqc (l := []) ⟨⟨_, _, _, rfl, rfl, rfl, rfl⟩, rfl, fun hc => q_fld_p rfl, trivial⟩ rfl ?_
  refine rqc (l := [22]) ⟨⟨_, _, _, rfl, rfl, rfl, rfl⟩, rfl, fun hc => q_load1 rfl rfl rfl, ⟨fun h => h, trivial⟩⟩ rfl ?_
  refine rqc (l := [23]) ⟨⟨_, _, _, rfl, rfl, rfl, rfl⟩, rfl, fun hc => q_geq rfl rfl, ⟨fun h => h, trivial⟩⟩ rfl ?_
  refine rq rfl rfl (q_pickb rfl rfl rfl (PB.c (fun hp => hp)) PB.v) ?_
  refine rq rfl rfl (q_move rfl) ?_
  refine rqc (l := []) ⟨⟨_, _, _, rfl, rfl, rfl, rfl⟩, rfl, fun hc => q_fld_p rfl, trivial⟩ rfl ?_
  refine rqc (l := [27]) ⟨⟨_, _, _, rfl, rfl, rfl, rfl⟩, rfl, fun hc => q_load1 rfl rfl rfl, ⟨fun h => h, trivial⟩⟩ rfl ?_
  refine rqc (l := [28]) ⟨⟨_, _, _, rfl, rfl, rfl, rfl⟩, rfl, fun hc => q_geq rfl rfl, ⟨fun h => h, trivial⟩⟩ rfl ?_
  refine rq rfl rfl (q_pickb rfl rfl rfl (PB.c (fun hp => hp)) PB.v) ?_
  refine rq rfl rfl (q_move rfl) ?_
  refine rqc (l := []) ⟨⟨_, _, _, rfl, rfl, rfl, rfl⟩, rfl, fun hc => q_fld_p rfl, trivial⟩ rfl ?_
  refine rqc (l := [32]) ⟨⟨_, _, _, rfl, rfl, rfl, rfl⟩, rfl, fun hc => q_load1 rfl rfl rfl, ⟨fun h => h, trivial⟩⟩ rfl ?_
  refine rqc (l := [33]) ⟨⟨_, _, _, rfl, rfl, rfl, rfl⟩, rfl, fun hc => q_leq rfl rfl, ⟨fun h => h, trivial⟩⟩ rfl ?_
  refine rq rfl rfl (q_pickb rfl rfl rfl (PB.c (fun hp => hp)) PB.v) ?_
  refine rq rfl rfl (q_move rfl) ?_
  refine rqc (l := []) ⟨⟨_, _, _, rfl, rfl, rfl, rfl⟩, rfl, fun hc => q_fld_p rfl, trivial⟩ rfl ?_
  refine rqc (l := [37]) ⟨⟨_, _, _, rfl, rfl, rfl, rfl⟩, rfl, fun hc => q_load1 rfl rfl rfl, ⟨fun h => h, trivial⟩⟩ rfl ?_
  refine rqc (l := [38]) ⟨⟨_, _, _, rfl, rfl, rfl, rfl⟩, rfl, fun hc => q_geq rfl rfl, ⟨fun h => h, trivial⟩⟩ rfl ?_
  refine rq rfl rfl (q_pickb rfl rfl rfl (PB.c (fun hp => hp)) PB.v) ?_
  refine rq rfl rfl (q_move rfl) ?_
  refine rqc (l := []) ⟨⟨_, _, _, rfl, rfl, rfl, rfl⟩, rfl, fun hc => q_fld_p rfl, trivial⟩ rfl ?_
  refine rqc (l := [42]) ⟨⟨_, _, _, rfl, rfl, rfl, rfl⟩, rfl, fun hc => q_load1 rfl rfl rfl, ⟨fun h => h, trivial⟩⟩ rfl ?_
  refine rqc (l := [43]) ⟨⟨_, _, _, rfl, rfl, rfl, rfl⟩, rfl, fun hc => q_leq rfl rfl, ⟨fun h => h, trivial⟩⟩ rfl ?_
  refine rq rfl rfl (q_pickb rfl rfl rfl (PB.c (fun hp => hp)) PB.v) ?_
  refine rq rfl rfl (q_assign rfl) ?_
  refine run_nil ?_
  refine ev_ret ?_
  exact ret_ok [vb (bif bif bif bif bif bif bif bif decide (0 ≤ a0.item) then decide (a0.item < 32) else false then decide (0 ≤ a0.plant) else false then decide (a0.plant < 8) else false then decide (1 ≤ a0.amount) else false then decide (0 ≤ a0.expiry) else false then decide (a0.expiry ≤ 1024) else false then decide (0 ≤ a0.state) else false then decide (a0.state ≤ 3) else false)] (congrArg (fun r : Bool => vb r) (Option.some.inj H)) rfl (.cons (.tmp rfl (.v _ _ (fun _ => rfl))) .nil)
def backflushref18_lot_m (a0 : GWorld) (a1 : Int) (a2 : Int) (a3 : Int) : Option (GLot × (List GRead) × Bool) := forN 0 5 (fun (k7 : Int) (s5 : (List Int) × (List GRead)) loop6 => gd (decide ((s5.2.length + ([(⟨(⟨1, a1, k7⟩ : GKey), a2, wr (a2 + 1)⟩ : GRead)] : List GRead).length) * 41 ≤ 140737488355328)) <| bd (backflushref04_At_m a0.facts (⟨1, a1, k7⟩ : GKey) a2 a3) fun x23 => bif !x23.2 then (some ((⟨0, 0, 0, 0, 0, 0⟩ : GLot), s5.2 ++ ([(⟨(⟨1, a1, k7⟩ : GKey), a2, wr (a2 + 1)⟩ : GRead)] : List GRead), false)) else (gd (decide ((s5.1.length + ([x23.1] : List Int).length) * 9 ≤ 140737488355328)) <| loop6 (s5.1 ++ ([x23.1] : List Int), s5.2 ++ ([(⟨(⟨1, a1, k7⟩ : GKey), a2, wr (a2 + 1)⟩ : GRead)] : List GRead)))) (fun (s5 : (List Int) × (List GRead)) => bd (idx s5.1 0) fun x26 => bd (idx s5.1 1) fun x27 => bd (idx s5.1 2) fun x28 => bd (idx s5.1 3) fun x29 => bd (idx s5.1 4) fun x30 => bd (backflushref18_Right_m (⟨a1, x26, x27, x28, x29, x30⟩ : GLot)) fun x33 => bif !x33 then (some ((⟨0, 0, 0, 0, 0, 0⟩ : GLot), s5.2, false)) else (some ((⟨a1, x26, x27, x28, x29, x30⟩ : GLot), s5.2, true))) (([] : List Int), ([] : List GRead))
theorem backflushref18_lot_c {a0 : GWorld} {a1 : Int} {a2 : Int} {a3 : Int} {r : GLot × (List GRead) × Bool} (H : backflushref18_lot_m a0 a1 a2 a3 = some r) : PureC Try.prog true 64 [GWorld.e a0, vi a1, vi a2, vi a3] (V.t [GLot.e r.1, V.l 5 (List.map GRead.e r.2.1), vb r.2.2]) := by
  unfold backflushref18_lot_m at H
  refine pure_intro (N := 76) Try.func64 rfl rfl rfl rfl fun C hO => ?_
  refine ev_shift (shift_mk (fs := [(0, .v false (GWorld.e a0)), (1, .v true (vi a1)), (2, .v true (vi a2)), (3, .v true (vi a3))]) (es := []) ⟨⟨_, rfl, .rfl⟩, ⟨⟨_, rfl, (.flat rfl)⟩, ⟨⟨_, rfl, (.flat rfl)⟩, ⟨⟨_, rfl, (.flat rfl)⟩, trivial⟩⟩⟩⟩ trivial rfl rfl) ?_
  refine ev_seq ?_
  refine ev_region ?_
  refine re rfl (e_box 4 0 rfl rfl rfl) ?_; rintro _ ⟨b1, rfl⟩
  refine re rfl (e_alloc 8 0 rfl rfl) ?_; rintro _ ⟨b2, rfl⟩
  refine rq rfl rfl (q_assign rfl) ?_
  refine rq rfl rfl (q_assign rfl) ?_
  refine run_nil ?_
  refine ev_seq ?_
  refine ev_region ?_
  refine re rfl (e_buildSlice 18 0 rfl rfl rfl rfl) ?_; rintro _ ⟨b3, rfl⟩
  refine rq rfl rfl (q_assign rfl) ?_
  refine run_nil ?_
  refine ev_seq ?_
  refine ev_region ?_
  refine re rfl (e_buildSlice 19 0 rfl rfl rfl rfl) ?_; rintro _ ⟨b4, rfl⟩
  refine rq rfl rfl (q_assign rfl) ?_
  refine run_nil ?_
  refine ev_seq ?_
  refine ev_seq ?_
  refine ev_region ?_
  refine rq rfl rfl (q_assign rfl) ?_
  refine run_nil ?_
  refine ev_block ?_
  refine ev_forN H (fun k7 s5 σ' => ∃ (q10 : Pl) (q12 : Pl), σ' = mkS [(1, .v true (vi a1)), (2, .v true (vi a2)), (3, .v true (vi a3)), (4, .p 4 0 b1 0), (8, .p 8 0 b2 0), (9, .v true (.raw (.slice none 0 0))), (10, .v true (vb false)), (11, .o 18 0 q10 1 0 s5.1.length), (12, .o 19 0 q12 5 0 s5.2.length), (13, .v true (vi k7))] [.e 4 0 (some (b1, 11)) (.row 38 [.v false (V.l 8 (List.map GUnit.e a0.tables.source.units)), .v false (V.l 6 (List.map GItem.e a0.tables.source.items)), .v false (V.l 1 (List.map V.s a0.tables.source.plants)), .v false (V.l 4 (List.map GMachine.e a0.tables.source.machines)), .v false (V.l 2 (List.map GOption.e a0.tables.source.options)), .v false (V.l 1 (List.map (fun l => V.l 4 (List.map GCond.e l)) a0.tables.source.forbids)), .v false (V.l 17 (List.map GRecipe.e a0.tables.source.recipes)), .v false (V.l 4 (List.map GSwap.e a0.tables.source.swaps)), .v false (V.l 1 (List.map vi a0.tables.levels)), .v false (V.l 1 (List.map (fun l => V.l 6 (List.map GInst.e l)) a0.tables.codes)), .v false (V.l 8 (List.map GFact.e a0.facts))]), .e 8 0 (some (b2, 6)) (.row 60 [.v true (vi 0), .v true (vi 0), .v true (vi 0), .v true (vi 0), .v true (vi 0), .v true (vi 0)]), .e 18 0 q10 (.row 3 (els true (List.map vi s5.1))), .e 19 0 q12 (.row 100 (els true (List.map GRead.e s5.2)))] [] (0, false)) ⟨_, ⟨(some (b3, 0 * 1)), (some (b4, 0 * 5)), rfl⟩, shift_mk ⟨⟨_, rfl, (.flat rfl)⟩, ⟨⟨_, rfl, (.flat rfl)⟩, ⟨⟨_, rfl, (.flat rfl)⟩, ⟨⟨_, rfl, .rfl⟩, ⟨⟨_, rfl, .rfl⟩, ⟨⟨_, rfl, .rfl⟩, ⟨⟨_, rfl, (.flat rfl)⟩, ⟨⟨_, rfl, .rfl⟩, ⟨⟨_, rfl, .rfl⟩, ⟨⟨_, rfl, .rfl⟩, trivial⟩⟩⟩⟩⟩⟩⟩⟩⟩⟩ ⟨(.e rfl), ⟨(.w rfl (.cons (.flat rfl) (.cons (.flat rfl) (.cons (.flat rfl) (.cons (.flat rfl) (.cons (.flat rfl) (.cons (.flat rfl) .nil))))))), ⟨(.e rfl), ⟨(.e rfl), trivial⟩⟩⟩⟩ rfl rfl⟩ ?_
  rintro n13 k7 s5 _ ⟨q10, q12, rfl⟩ w14 w15 w16 w17 H
  refine ev_seq ?_
  refine ev_seq ?_
  refine ev_region ?_
  refine rq rfl rfl (q_move rfl) ?_
  refine rq rfl rfl (q_lss rfl rfl) ?_
  refine run_nil ?_
  refine ev_cond rfl (fun hc => ?_) (fun hc => ?_)
  · obtain ⟨n19, n19_e, w18, H⟩ := forN_in hc w14 H
    refine ev_skip ?_
    refine ev_seq ?_
    refine ev_block ?_
    refine ev_seq ?_
    refine ev_region ?_
    refine rq rfl rfl (q_move rfl) ?_
    refine rq rfl rfl (q_move rfl) ?_
    refine rq rfl rfl (q_build rfl (.v rfl rfl rfl rfl rfl (.v rfl rfl rfl rfl rfl (.v rfl rfl rfl rfl rfl .nil)))) ?_
    refine re rfl (e_alloc 14 0 rfl rfl) ?_; rintro _ ⟨b20, rfl⟩
    refine re rfl (e_store rfl rfl rfl rfl rfl (Nat.le_of_ble_eq_true rfl) rfl) ?_; rintro _ rfl
    refine run_nil ?_
    refine ev_seq ?_
    refine ev_region ?_
    refine rq rfl rfl (q_move rfl) ?_
    refine rq rfl rfl (q_loadN rfl rfl rfl rfl) ?_
    refine rq rfl rfl (q_move rfl) ?_
    refine rq rfl rfl (q_move rfl) ?_
    refine rq rfl rfl (q_add rfl rfl) ?_
    refine rq rfl rfl (q_build rfl (.v rfl rfl rfl rfl rfl (.v rfl rfl rfl rfl rfl (.v rfl rfl rfl rfl rfl .nil)))) ?_
    refine rq rfl rfl (q_buildSlice (z := 5) (xs := List.map GRead.e ([(⟨(⟨1, a1, k7⟩ : GKey), a2, wr (a2 + 1)⟩ : GRead)] : List GRead)) (fl := true) rfl rfl rfl rfl (by simp [V.plain, V.cells, GRead.e, vi, vb]) rfl) ?_
    obtain ⟨w21, H⟩ := gdd_inv H
    refine re rfl (e_appt rfl rfl rfl (fun _ => ⟨rfl, rfl⟩) rfl rfl rfl w21 rfl) ?_; rintro _ ⟨q22, rfl⟩
    refine rq rfl rfl (q_assign rfl) ?_
    refine run_nil ?_
    refine ev_seq ?_
    refine ev_region ?_
    refine rq rfl rfl (q_fld_p rfl) ?_
    refine rq rfl rfl (q_load1 rfl rfl rfl) ?_
    refine rq rfl rfl (q_loadN rfl rfl rfl rfl) ?_
    refine rq rfl rfl (q_move rfl) ?_
    refine rq rfl rfl (q_move rfl) ?_
    obtain ⟨x23, x23_h, H⟩ := bd_inv H
    refine rq rfl rfl (q_call rfl (.v _ _ (fun e => nomatch e)) (.v rfl (.v rfl (.v rfl (.v rfl ArgsOk.nil)))) inferInstance (backflushref04_At_c  x23_h)) ?_
    refine rq rfl rfl (q_move rfl) ?_
    refine rq rfl rfl (q_extract rfl rfl) ?_
    refine rq rfl rfl (q_extract rfl rfl) ?_
    refine rq rfl rfl (q_assign rfl) ?_
    refine rq rfl rfl (q_assign rfl) ?_
    refine run_nil ?_
    refine ev_seq ?_
    refine ev_seq ?_
    refine ev_region ?_
    refine rq rfl rfl (q_move rfl) ?_
    refine rq rfl rfl (q_not rfl) ?_
    refine run_nil ?_
    refine ev_cond rfl (fun hc => ?_) (fun hc => ?_)
    · replace H := ct hc H
      refine ev_seq ?_
      refine ev_region ?_
      refine rq rfl rfl (q_build rfl .nil) ?_
      refine rq rfl rfl (q_move rfl) ?_
      refine re rfl (e_store rfl rfl rfl rfl rfl (Nat.le_of_ble_eq_true rfl) rfl) ?_; rintro _ rfl
      refine rq rfl rfl (q_assign rfl) ?_
      refine rq rfl rfl (q_assign rfl) ?_
      refine run_nil ?_
      refine ev_ret ?_
      exact ret_ok [GLot.e (⟨0, 0, 0, 0, 0, 0⟩ : GLot), V.l 5 (List.map GRead.e (s5.2 ++ ([(⟨(⟨1, a1, k7⟩ : GKey), a2, wr (a2 + 1)⟩ : GRead)] : List GRead))), vb false] (congrArg (fun r : GLot × (List GRead) × Bool => V.t [GLot.e r.1, V.l 5 (List.map GRead.e r.2.1), vb r.2.2]) (Option.some.inj H)) rfl (.cons (.cellN (z := 6) rfl rfl rfl rfl rfl rfl (.v _ _ (fun _ => rfl))) (.cons (.tmp rfl (.all rfl (List.length_map _) (els_plain fun _ => ⟨rfl, rfl⟩) (fun _ => rfl))) (.cons (.tmp rfl (.v _ _ (fun _ => rfl))) .nil)))
    · replace H := cf hc H
      refine ev_skip ?_
      refine ev_region ?_
      refine rq rfl rfl (q_move rfl) ?_
      refine rq rfl rfl (q_move rfl) ?_
      refine rq rfl rfl (q_buildSlice (z := 1) (xs := List.map vi ([x23.1] : List Int)) (fl := true) rfl rfl rfl rfl (by simp [V.plain, V.cells, vi, vb]) rfl) ?_
      obtain ⟨w24, H⟩ := gdd_inv H
      refine re rfl (e_appt rfl rfl rfl (fun _ => ⟨rfl, rfl⟩) rfl rfl rfl w24 rfl) ?_; rintro _ ⟨q25, rfl⟩
      refine rq rfl rfl (q_assign rfl) ?_
      refine run_nil ?_
      refine ev_region ?_
      refine rq rfl rfl (q_move rfl) ?_
      refine rq rfl rfl (q_add rfl rfl) ?_
      refine rq rfl rfl (q_assign rfl) ?_
      refine run_nil ?_
      exact ⟨_, _, _, n19_e, H, ⟨q25, q22, rfl⟩, shift_mk ⟨⟨_, rfl, (.flat rfl)⟩, ⟨⟨_, rfl, (.flat rfl)⟩, ⟨⟨_, rfl, (.flat rfl)⟩, ⟨⟨_, rfl, .rfl⟩, ⟨⟨_, rfl, .rfl⟩, ⟨⟨_, rfl, .rfl⟩, ⟨⟨_, rfl, (.flat rfl)⟩, ⟨⟨_, rfl, .rfl⟩, ⟨⟨_, rfl, .rfl⟩, ⟨⟨_, rfl, (.eq (congrArg (fun n => D.v true (vi n)) (wrap_succ' (by omega) w18 w17)))⟩, trivial⟩⟩⟩⟩⟩⟩⟩⟩⟩⟩ ⟨(.e rfl), ⟨(.w rfl (.cons (.flat rfl) (.cons (.flat rfl) (.cons (.flat rfl) (.cons (.flat rfl) (.cons (.flat rfl) (.cons (.flat rfl) .nil))))))), ⟨(.e rfl), ⟨(.e rfl), trivial⟩⟩⟩⟩ rfl rfl⟩
  · replace H := forN_out hc w14 H
    refine ev_exit ?_
    refine ev_seq ?_
    obtain ⟨x26, x26_h, H⟩ := bd_inv H
    obtain ⟨x27, x27_h, H⟩ := bd_inv H
    obtain ⟨x28, x28_h, H⟩ := bd_inv H
    obtain ⟨x29, x29_h, H⟩ := bd_inv H
    obtain ⟨x30, x30_h, H⟩ := bd_inv H
    refine ev_drawX (fun i => (assocN [(17, [17]), (18, [17])] i).getD []) rfl ?_
    refine xq (r := some _) [17] 0 (.start _) rfl (by kernel_rfl) (by kernel_rfl) ⟨rfl, .inl ⟨rfl, Quiet.norm (q_move rfl)⟩⟩ rfl (fun hcl => ?_)
    refine xq (r := some _) [17] 1 hcl rfl (by kernel_rfl) (by kernel_rfl) ⟨rfl, .inl ⟨rfl, Quiet.norm (q_move rfl)⟩⟩ rfl (fun hcl => ?_)
    refine xq (r := some _) [17] 2 hcl rfl (by kernel_rfl) (by kernel_rfl) ⟨rfl, .inl ⟨rfl, Quiet.norm (q_idx_pl rfl rfl (idx_inv x26_h).1 (idx_inv x26_h).2.2.2)⟩⟩ rfl (fun hcl => ?_)
    refine xq (r := some _) [17] 3 hcl rfl (by kernel_rfl) (by kernel_rfl) ⟨rfl, .inl ⟨rfl, Quiet.norm (q_load_el0p (E := vi) (fun _ => rfl) rfl rfl (idx_inv x26_h).2.1)⟩⟩ rfl (fun hcl => ?_)
    refine xq (r := some _) [17] 4 hcl rfl (by kernel_rfl) (by kernel_rfl) ⟨rfl, .inl ⟨rfl, Quiet.norm (q_move rfl)⟩⟩ rfl (fun hcl => ?_)
    refine xq (r := some _) [17] 5 hcl rfl (by kernel_rfl) (by kernel_rfl) ⟨rfl, .inl ⟨rfl, Quiet.norm (q_idx_pl rfl rfl (idx_inv x27_h).1 (idx_inv x27_h).2.2.2)⟩⟩ rfl (fun hcl => ?_)
    refine xq (r := some _) [17] 6 hcl rfl (by kernel_rfl) (by kernel_rfl) ⟨rfl, .inl ⟨rfl, Quiet.norm (q_load_el0p (E := vi) (fun _ => rfl) rfl rfl (idx_inv x27_h).2.1)⟩⟩ rfl (fun hcl => ?_)
    refine xq (r := some _) [17] 7 hcl rfl (by kernel_rfl) (by kernel_rfl) ⟨rfl, .inl ⟨rfl, Quiet.norm (q_move rfl)⟩⟩ rfl (fun hcl => ?_)
    refine xq (r := some _) [17] 8 hcl rfl (by kernel_rfl) (by kernel_rfl) ⟨rfl, .inl ⟨rfl, Quiet.norm (q_idx_pl rfl rfl (idx_inv x28_h).1 (idx_inv x28_h).2.2.2)⟩⟩ rfl (fun hcl => ?_)
    refine xq (r := some _) [17] 9 hcl rfl (by kernel_rfl) (by kernel_rfl) ⟨rfl, .inl ⟨rfl, Quiet.norm (q_load_el0p (E := vi) (fun _ => rfl) rfl rfl (idx_inv x28_h).2.1)⟩⟩ rfl (fun hcl => ?_)
    refine xq (r := some _) [17] 10 hcl rfl (by kernel_rfl) (by kernel_rfl) ⟨rfl, .inl ⟨rfl, Quiet.norm (q_move rfl)⟩⟩ rfl (fun hcl => ?_)
    refine xq (r := some _) [17] 11 hcl rfl (by kernel_rfl) (by kernel_rfl) ⟨rfl, .inl ⟨rfl, Quiet.norm (q_idx_pl rfl rfl (idx_inv x29_h).1 (idx_inv x29_h).2.2.2)⟩⟩ rfl (fun hcl => ?_)
    refine xq (r := some _) [17] 12 hcl rfl (by kernel_rfl) (by kernel_rfl) ⟨rfl, .inl ⟨rfl, Quiet.norm (q_load_el0p (E := vi) (fun _ => rfl) rfl rfl (idx_inv x29_h).2.1)⟩⟩ rfl (fun hcl => ?_)
    refine xq (r := some _) [17] 13 hcl rfl (by kernel_rfl) (by kernel_rfl) ⟨rfl, .inl ⟨rfl, Quiet.norm (q_move rfl)⟩⟩ rfl (fun hcl => ?_)
    refine xq (r := some _) [17] 14 hcl rfl (by kernel_rfl) (by kernel_rfl) ⟨rfl, .inl ⟨rfl, Quiet.norm (q_idx_pl rfl rfl (idx_inv x30_h).1 (idx_inv x30_h).2.2.2)⟩⟩ rfl (fun hcl => ?_)
    refine xq (r := some _) [17] 15 hcl rfl (by kernel_rfl) (by kernel_rfl) ⟨rfl, .inl ⟨rfl, Quiet.norm (q_load_el0p (E := vi) (fun _ => rfl) rfl rfl (idx_inv x30_h).2.1)⟩⟩ rfl (fun hcl => ?_)
    refine xq (r := some _) [17] 16 hcl rfl (by kernel_rfl) (by kernel_rfl) ⟨rfl, .inl ⟨rfl, Quiet.norm (q_build rfl (.v rfl rfl rfl rfl rfl (.v rfl rfl rfl rfl rfl (.v rfl rfl rfl rfl rfl (.v rfl rfl rfl rfl rfl (.v rfl rfl rfl rfl rfl (.v rfl rfl rfl rfl rfl .nil)))))))⟩⟩ rfl (fun hcl => ?_)
    refine xb hcl (l := [17]) (by kernel_rfl) (by simp) (fun i hi hcl => ?_)
    obtain rfl : i = 17 := by simpa using hi
    refine xe rfl (x_alloc 17 0 rfl rfl rfl) ?_; rintro _ ⟨b32, rfl⟩
    refine xb hcl (l := [18]) (by kernel_rfl) (by simp) (fun i hi hcl => ?_)
    obtain rfl : i = 18 := by simpa using hi
    refine xe rfl (x_store rfl rfl rfl rfl rfl (Nat.le_of_ble_eq_true rfl) rfl rfl) ?_; rintro _ rfl
    refine xn (by kernel_rfl) ?_
    refine ev_seq ?_
    refine ev_seq ?_
    refine ev_region ?_
    refine rq rfl rfl (q_loadN rfl rfl rfl rfl) ?_
    obtain ⟨x33, x33_h, H⟩ := bd_inv H
    refine rq rfl rfl (q_call rfl (.v _ _ (fun e => nomatch e)) (.v rfl ArgsOk.nil) inferInstance (backflushref18_Right_c  x33_h)) ?_
    refine rq rfl rfl (q_not rfl) ?_
    refine run_nil ?_
    refine ev_cond rfl (fun hc => ?_) (fun hc => ?_)
    · replace H := ct hc H
      refine ev_seq ?_
      refine ev_region ?_
      refine rq rfl rfl (q_build rfl .nil) ?_
      refine rq rfl rfl (q_move rfl) ?_
      refine re rfl (e_store rfl rfl rfl rfl rfl (Nat.le_of_ble_eq_true rfl) rfl) ?_; rintro _ rfl
      refine rq rfl rfl (q_assign rfl) ?_
      refine rq rfl rfl (q_assign rfl) ?_
      refine run_nil ?_
      refine ev_ret ?_
      exact ret_ok [GLot.e (⟨0, 0, 0, 0, 0, 0⟩ : GLot), V.l 5 (List.map GRead.e s5.2), vb false] (congrArg (fun r : GLot × (List GRead) × Bool => V.t [GLot.e r.1, V.l 5 (List.map GRead.e r.2.1), vb r.2.2]) (Option.some.inj H)) rfl (.cons (.cellN (z := 6) rfl rfl rfl rfl rfl rfl (.v _ _ (fun _ => rfl))) (.cons (.tmp rfl (.all rfl (List.length_map _) (els_plain fun _ => ⟨rfl, rfl⟩) (fun _ => rfl))) (.cons (.tmp rfl (.v _ _ (fun _ => rfl))) .nil)))
    · replace H := cf hc H
      refine ev_skip ?_
      refine ev_seq ?_
      refine ev_region ?_
      refine rq rfl rfl (q_loadN rfl rfl rfl rfl) ?_
      refine rq rfl rfl (q_move rfl) ?_
      refine re rfl (e_store rfl rfl rfl rfl rfl (Nat.le_of_ble_eq_true rfl) rfl) ?_; rintro _ rfl
      refine rq rfl rfl (q_assign rfl) ?_
      refine rq rfl rfl (q_assign rfl) ?_
      refine run_nil ?_
      refine ev_ret ?_
      exact ret_ok [GLot.e (⟨a1, x26, x27, x28, x29, x30⟩ : GLot), V.l 5 (List.map GRead.e s5.2), vb true] (congrArg (fun r : GLot × (List GRead) × Bool => V.t [GLot.e r.1, V.l 5 (List.map GRead.e r.2.1), vb r.2.2]) (Option.some.inj H)) rfl (.cons (.cellN (z := 6) rfl rfl rfl rfl rfl rfl (.v _ _ (fun _ => rfl))) (.cons (.tmp rfl (.all rfl (List.length_map _) (els_plain fun _ => ⟨rfl, rfl⟩) (fun _ => rfl))) (.cons (.tmp rfl (.v _ _ (fun _ => rfl))) .nil)))
def backflushref18_Lot_m (a0 : GWorld) (a1 : Int) (a2 : Int) (a3 : Int) : Option (GLot × (List GRead) × Bool) := bd (backflushref18_Day_m a2) fun x3 => bif !x3 then (some ((⟨0, 0, 0, 0, 0, 0⟩ : GLot), [], false)) else (bd (backflushref18_head_m) fun x4 => bdc (!(decide (a1 < 0))) (backflushref18_many_m a0 a2 a3) fun x6 => bif bif decide (a1 < 0) then true else decide (x6 ≤ a1) then (some ((⟨0, 0, 0, 0, 0, 0⟩ : GLot), ([(⟨x4, a2, wr (a2 + 1)⟩ : GRead)] : List GRead), false)) else (bd (backflushref18_lot_m a0 a1 a2 a3) fun x7 => gd (decide ((([(⟨x4, a2, wr (a2 + 1)⟩ : GRead)] : List GRead).length + x7.2.1.length) * 41 ≤ 140737488355328)) <| some (x7.1, ([(⟨x4, a2, wr (a2 + 1)⟩ : GRead)] : List GRead) ++ x7.2.1, x7.2.2)))
theorem backflushref18_Lot_c {a0 : GWorld} {a1 : Int} {a2 : Int} {a3 : Int} {r : GLot × (List GRead) × Bool} (H : backflushref18_Lot_m a0 a1 a2 a3 = some r) : PureC Try.prog true 32 [GWorld.e a0, vi a1, vi a2, vi a3] (V.t [GLot.e r.1, V.l 5 (List.map GRead.e r.2.1), vb r.2.2]) := by
  unfold backflushref18_Lot_m at H
  refine pure_intro (N := 51) Try.func32 rfl rfl rfl rfl fun C hO => ?_
  refine ev_shift (shift_mk (fs := [(0, .v false (GWorld.e a0)), (1, .v true (vi a1)), (2, .v true (vi a2)), (3, .v true (vi a3))]) (es := []) ⟨⟨_, rfl, .rfl⟩, ⟨⟨_, rfl, (.flat rfl)⟩, ⟨⟨_, rfl, (.flat rfl)⟩, ⟨⟨_, rfl, (.flat rfl)⟩, trivial⟩⟩⟩⟩ trivial rfl rfl) ?_
  refine ev_seq ?_
  refine ev_region ?_
  refine re rfl (e_box 4 0 rfl rfl rfl) ?_; rintro _ ⟨b1, rfl⟩
  refine re rfl (e_alloc 8 0 rfl rfl) ?_; rintro _ ⟨b2, rfl⟩
  refine rq rfl rfl (q_assign rfl) ?_
  refine rq rfl rfl (q_assign rfl) ?_
  refine run_nil ?_
  refine ev_seq ?_
  refine ev_seq ?_
  refine ev_region ?_
  refine rq rfl rfl (q_move rfl) ?_
  obtain ⟨x3, x3_h, H⟩ := bd_inv H
  refine rq rfl rfl (q_call rfl (.v _ _ (fun e => nomatch e)) (.v rfl ArgsOk.nil) inferInstance (backflushref18_Day_c  x3_h)) ?_
  refine rq rfl rfl (q_not rfl) ?_
  refine run_nil ?_
  refine ev_cond rfl (fun hc => ?_) (fun hc => ?_)
  · replace H := ct hc H
    refine ev_seq ?_
    refine ev_region ?_
    refine rq rfl rfl (q_build rfl .nil) ?_
    refine re rfl (e_store rfl rfl rfl rfl rfl (Nat.le_of_ble_eq_true rfl) rfl) ?_; rintro _ rfl
    refine rq rfl rfl (q_assign rfl) ?_
    refine rq rfl rfl (q_assign rfl) ?_
    refine run_nil ?_
    refine ev_ret ?_
    exact ret_ok [GLot.e (⟨0, 0, 0, 0, 0, 0⟩ : GLot), V.l 5 (List.map GRead.e []), vb false] (congrArg (fun r : GLot × (List GRead) × Bool => V.t [GLot.e r.1, V.l 5 (List.map GRead.e r.2.1), vb r.2.2]) (Option.some.inj H)) rfl (.cons (.cellN (z := 6) rfl rfl rfl rfl rfl rfl (.v _ _ (fun _ => rfl))) (.cons (.tmp rfl (.nil _ _)) (.cons (.tmp rfl (.v _ _ (fun _ => rfl))) .nil)))
  · replace H := cf hc H
    refine ev_skip ?_
    refine ev_seq ?_
    refine ev_region ?_
    obtain ⟨x4, x4_h, H⟩ := bd_inv H
    refine rq rfl rfl (q_call rfl (.v _ _ (fun e => nomatch e)) ArgsOk.nil inferInstance (backflushref18_head_c  x4_h)) ?_
    refine rq rfl rfl (q_move rfl) ?_
    refine rq rfl rfl (q_move rfl) ?_
    refine rq rfl rfl (q_add rfl rfl) ?_
    refine rq rfl rfl (q_build rfl (.v rfl rfl rfl rfl rfl (.v rfl rfl rfl rfl rfl (.v rfl rfl rfl rfl rfl .nil)))) ?_
    refine re rfl (e_buildSlice 24 0 rfl rfl rfl rfl) ?_; rintro _ ⟨b5, rfl⟩
    refine rq rfl rfl (q_assign rfl) ?_
    refine run_nil ?_
    refine ev_seq ?_
    refine ev_seq ?_
    refine ev_region ?_
    refine rq rfl rfl (q_move rfl) ?_
    refine rq rfl rfl (q_lss rfl rfl) ?_
    refine rq rfl rfl (q_move rfl) ?_
    refine rqc (l := []) ⟨⟨_, _, _, rfl, rfl, rfl, rfl⟩, rfl, fun hc => q_move rfl, trivial⟩ rfl ?_
    refine rqc (l := []) ⟨⟨_, _, _, rfl, rfl, rfl, rfl⟩, rfl, fun hc => q_loadN rfl rfl rfl rfl, trivial⟩ rfl ?_
    refine rqc (l := []) ⟨⟨_, _, _, rfl, rfl, rfl, rfl⟩, rfl, fun hc => q_move rfl, trivial⟩ rfl ?_
    refine rqc (l := []) ⟨⟨_, _, _, rfl, rfl, rfl, rfl⟩, rfl, fun hc => q_move rfl, trivial⟩ rfl ?_
    obtain ⟨x6, x6_h, _, H⟩ := bdc_inv H
    refine rqc (l := [29, 30, 31]) ⟨⟨_, _, _, rfl, rfl, rfl, rfl⟩, rfl, fun hc => q_call rfl (.v _ _ (fun e => nomatch e)) (.v rfl (.v rfl (.v rfl ArgsOk.nil))) inferInstance (backflushref18_many_c  (x6_h hc)), ⟨fun h => h, ⟨fun h => h, ⟨fun h => h, trivial⟩⟩⟩⟩ rfl ?_
    refine rqc (l := [28, 32]) ⟨⟨_, _, _, rfl, rfl, rfl, rfl⟩, rfl, fun hc => q_geq rfl rfl, ⟨fun h => h, ⟨fun h => h, trivial⟩⟩⟩ rfl ?_
    refine rq rfl rfl (q_pickb rfl rfl rfl PB.v (PB.c (fun hp => by rw [hp]; rfl))) ?_
    refine run_nil ?_
    refine ev_cond rfl (fun hc => ?_) (fun hc => ?_)
    · replace H := ct hc H
      refine ev_seq ?_
      refine ev_region ?_
      refine rq rfl rfl (q_build rfl .nil) ?_
      refine rq rfl rfl (q_move rfl) ?_
      refine re rfl (e_store rfl rfl rfl rfl rfl (Nat.le_of_ble_eq_true rfl) rfl) ?_; rintro _ rfl
      refine rq rfl rfl (q_assign rfl) ?_
      refine rq rfl rfl (q_assign rfl) ?_
      refine run_nil ?_
      refine ev_ret ?_
      exact ret_ok [GLot.e (⟨0, 0, 0, 0, 0, 0⟩ : GLot), V.l 5 (List.map GRead.e ([(⟨x4, a2, wr (a2 + 1)⟩ : GRead)] : List GRead)), vb false] (congrArg (fun r : GLot × (List GRead) × Bool => V.t [GLot.e r.1, V.l 5 (List.map GRead.e r.2.1), vb r.2.2]) (Option.some.inj H)) rfl (.cons (.cellN (z := 6) rfl rfl rfl rfl rfl rfl (.v _ _ (fun _ => rfl))) (.cons (.tmp rfl (.all rfl (List.length_map _) (els_plain fun _ => ⟨rfl, rfl⟩) (fun _ => rfl))) (.cons (.tmp rfl (.v _ _ (fun _ => rfl))) .nil)))
    · replace H := cf hc H
      refine ev_skip ?_
      refine ev_seq ?_
      refine ev_region ?_
      refine rq rfl rfl (q_loadN rfl rfl rfl rfl) ?_
      refine rq rfl rfl (q_move rfl) ?_
      refine rq rfl rfl (q_move rfl) ?_
      refine rq rfl rfl (q_move rfl) ?_
      obtain ⟨x7, x7_h, H⟩ := bd_inv H
      refine rq rfl rfl (q_call rfl (.v _ _ (fun e => nomatch e)) (.v rfl (.v rfl (.v rfl (.v rfl ArgsOk.nil)))) inferInstance (backflushref18_lot_c  x7_h)) ?_
      refine rq rfl rfl (q_move rfl) ?_
      refine rq rfl rfl (q_extract rfl rfl) ?_
      refine rq rfl rfl (q_extract rfl rfl) ?_
      refine rq rfl rfl (q_extract rfl rfl) ?_
      refine re rfl (e_alloc 12 0 rfl rfl) ?_; rintro _ ⟨b8, rfl⟩
      refine re rfl (e_store rfl rfl rfl rfl rfl (Nat.le_of_ble_eq_true rfl) rfl) ?_; rintro _ rfl
      refine rq rfl rfl (q_assign rfl) ?_
      refine rq rfl rfl (q_assign rfl) ?_
      refine run_nil ?_
      refine ev_seq ?_
      obtain ⟨w9, H⟩ := gdd_inv H
      refine ev_drawX (fun i => (assocN [(3, [24]), (5, [8])] i).getD []) rfl ?_
      refine xq (r := some _) [24] 0 (.start _) rfl (by kernel_rfl) (by kernel_rfl) ⟨rfl, .inl ⟨rfl, Quiet.norm (q_loadN rfl rfl rfl rfl)⟩⟩ rfl (fun hcl => ?_)
      refine xq (r := some _) [] 1 hcl rfl (by kernel_rfl) (by kernel_rfl) ⟨rfl, .inl ⟨rfl, Quiet.norm (q_move rfl)⟩⟩ rfl (fun hcl => ?_)
      refine xq (r := some _) [] 2 hcl rfl (by kernel_rfl) (by kernel_rfl) ⟨rfl, .inl ⟨rfl, Quiet.norm (q_move rfl)⟩⟩ rfl (fun hcl => ?_)
      refine xq (r := some _) [24, 8] 4 hcl rfl (by kernel_rfl) (by kernel_rfl) ⟨rfl, .inl ⟨rfl, Quiet.norm (q_move rfl)⟩⟩ rfl (fun hcl => ?_)
      refine xb hcl (l := [3]) (by kernel_rfl) (by simp) (fun i hi hcl => ?_)
      obtain rfl : i = 3 := by simpa using hi
      refine xe rfl (x_appt rfl rfl rfl (fun _ => ⟨rfl, rfl⟩) rfl rfl rfl w9 rfl rfl) ?_; rintro _ ⟨q11, rfl⟩
      refine xb hcl (l := [5]) (by kernel_rfl) (by simp) (fun i hi hcl => ?_)
      obtain rfl : i = 5 := by simpa using hi
      refine xe rfl (x_store rfl rfl rfl rfl rfl (Nat.le_of_ble_eq_true rfl) rfl rfl) ?_; rintro _ rfl
      refine xq (r := some _) [] 6 hcl rfl (by kernel_rfl) (by kernel_rfl) ⟨rfl, .inl ⟨rfl, Quiet.norm (q_assign rfl)⟩⟩ rfl (fun hcl => ?_)
      refine xq (r := some _) [] 7 hcl rfl (by kernel_rfl) (by kernel_rfl) ⟨rfl, .inl ⟨rfl, Quiet.norm (q_assign rfl)⟩⟩ rfl (fun hcl => ?_)
      refine xn (by kernel_rfl) ?_
      refine ev_ret ?_
      exact ret_ok [GLot.e x7.1, V.l 5 (List.map GRead.e (([(⟨x4, a2, wr (a2 + 1)⟩ : GRead)] : List GRead) ++ x7.2.1)), vb x7.2.2] (congrArg (fun r : GLot × (List GRead) × Bool => V.t [GLot.e r.1, V.l 5 (List.map GRead.e r.2.1), vb r.2.2]) (Option.some.inj H)) rfl (.cons (.cellN (z := 6) rfl rfl rfl rfl rfl rfl (.v _ _ (fun _ => rfl))) (.cons (.tmp rfl (.all rfl (List.length_map _) (els_plain fun _ => ⟨rfl, rfl⟩) (fun _ => rfl))) (.cons (.tmp rfl (.v _ _ (fun _ => rfl))) .nil)))
def backflushref18_Lots_m (a0 : GWorld) (a1 : Int) (a2 : Int) : Option ((List GLot) × (List GRead)) := bd (backflushref18_Day_m a1) fun x3 => bif !x3 then (some (([] : List GLot), [])) else (bd (backflushref18_head_m) fun x4 => bd (backflushref18_many_m a0 a1 a2) fun x6 => forN 0 x6 (fun (k9 : Int) (s7 : (List GLot) × (List GRead)) loop8 => jn (fun (p23 : List GLot) (p25 : List GRead) => loop8 (p23, p25)) fun j22 => bd (backflushref18_lot_m a0 k9 a1 a2) fun x27 => gd (decide ((s7.2.length + x27.2.1.length) * 41 ≤ 140737488355328)) <| bif x27.2.2 then (gd (decide ((s7.1.length + ([x27.1] : List GLot).length) * 49 ≤ 140737488355328)) <| j22 (s7.1 ++ ([x27.1] : List GLot)) (s7.2 ++ x27.2.1)) else (j22 s7.1 (s7.2 ++ x27.2.1))) (fun (s7 : (List GLot) × (List GRead)) => some (s7.1, s7.2)) (([] : List GLot), ([(⟨x4, a1, wr (a1 + 1)⟩ : GRead)] : List GRead)))
theorem backflushref18_Lots_c {a0 : GWorld} {a1 : Int} {a2 : Int} {r : (List GLot) × (List GRead)} (H : backflushref18_Lots_m a0 a1 a2 = some r) : PureC Try.prog true 34 [GWorld.e a0, vi a1, vi a2] (V.t [V.l 6 (List.map GLot.e r.1), V.l 5 (List.map GRead.e r.2)]) := by
  unfold backflushref18_Lots_m at H
  refine pure_intro (N := 54) Try.func34 rfl rfl rfl rfl fun C hO => ?_
  refine ev_shift (shift_mk (fs := [(0, .v false (GWorld.e a0)), (1, .v true (vi a1)), (2, .v true (vi a2))]) (es := []) ⟨⟨_, rfl, .rfl⟩, ⟨⟨_, rfl, (.flat rfl)⟩, ⟨⟨_, rfl, (.flat rfl)⟩, trivial⟩⟩⟩ trivial rfl rfl) ?_
  refine ev_seq ?_
  refine ev_region ?_
  refine re rfl (e_box 3 0 rfl rfl rfl) ?_; rintro _ ⟨b1, rfl⟩
  refine rq rfl rfl (q_assign rfl) ?_
  refine rq rfl rfl (q_assign rfl) ?_
  refine run_nil ?_
  refine ev_seq ?_
  refine ev_region ?_
  refine re rfl (e_buildSlice 15 0 rfl rfl rfl rfl) ?_; rintro _ ⟨b2, rfl⟩
  refine rq rfl rfl (q_assign rfl) ?_
  refine run_nil ?_
  refine ev_seq ?_
  refine ev_seq ?_
  refine ev_region ?_
  refine rq rfl rfl (q_move rfl) ?_
  obtain ⟨x3, x3_h, H⟩ := bd_inv H
  refine rq rfl rfl (q_call rfl (.v _ _ (fun e => nomatch e)) (.v rfl ArgsOk.nil) inferInstance (backflushref18_Day_c  x3_h)) ?_
  refine rq rfl rfl (q_not rfl) ?_
  refine run_nil ?_
  refine ev_cond rfl (fun hc => ?_) (fun hc => ?_)
  · replace H := ct hc H
    refine ev_seq ?_
    refine ev_region ?_
    refine rq rfl rfl (q_move rfl) ?_
    refine rq rfl rfl (q_assign rfl) ?_
    refine rq rfl rfl (q_assign rfl) ?_
    refine run_nil ?_
    refine ev_ret ?_
    exact ret_ok [V.l 6 (List.map GLot.e ([] : List GLot)), V.l 5 (List.map GRead.e [])] (congrArg (fun r : (List GLot) × (List GRead) => V.t [V.l 6 (List.map GLot.e r.1), V.l 5 (List.map GRead.e r.2)]) (Option.some.inj H)) rfl (.cons (.tmp rfl (.all rfl (List.length_map _) (els_plain fun _ => ⟨rfl, rfl⟩) (fun _ => rfl))) (.cons (.tmp rfl (.nil _ _)) .nil))
  · replace H := cf hc H
    refine ev_skip ?_
    refine ev_seq ?_
    refine ev_region ?_
    obtain ⟨x4, x4_h, H⟩ := bd_inv H
    refine rq rfl rfl (q_call rfl (.v _ _ (fun e => nomatch e)) ArgsOk.nil inferInstance (backflushref18_head_c  x4_h)) ?_
    refine rq rfl rfl (q_move rfl) ?_
    refine rq rfl rfl (q_move rfl) ?_
    refine rq rfl rfl (q_add rfl rfl) ?_
    refine rq rfl rfl (q_build rfl (.v rfl rfl rfl rfl rfl (.v rfl rfl rfl rfl rfl (.v rfl rfl rfl rfl rfl .nil)))) ?_
    refine re rfl (e_buildSlice 25 0 rfl rfl rfl rfl) ?_; rintro _ ⟨b5, rfl⟩
    refine rq rfl rfl (q_assign rfl) ?_
    refine run_nil ?_
    refine ev_seq ?_
    refine ev_region ?_
    refine rq rfl rfl (q_loadN rfl rfl rfl rfl) ?_
    refine rq rfl rfl (q_move rfl) ?_
    refine rq rfl rfl (q_move rfl) ?_
    obtain ⟨x6, x6_h, H⟩ := bd_inv H
    refine rq rfl rfl (q_call rfl (.v _ _ (fun e => nomatch e)) (.v rfl (.v rfl (.v rfl ArgsOk.nil))) inferInstance (backflushref18_many_c  x6_h)) ?_
    refine rq rfl rfl (q_assign rfl) ?_
    refine run_nil ?_
    refine ev_seq ?_
    refine ev_seq ?_
    refine ev_region ?_
    refine rq rfl rfl (q_assign rfl) ?_
    refine run_nil ?_
    refine ev_block ?_
    refine ev_forN H (fun k9 s7 σ' => ∃ (q12 : Pl) (q14 : Pl), σ' = mkS [(1, .v true (vi a1)), (2, .v true (vi a2)), (3, .p 3 0 b1 0), (6, .v true (.raw (.slice none 0 0))), (7, .v true (.raw (.slice none 0 0))), (8, .o 15 0 q12 6 0 s7.1.length), (9, .o 25 0 q14 5 0 s7.2.length), (10, .v true (vi x6)), (11, .v true (vi k9))] [.e 3 0 (some (b1, 11)) (.row 38 [.v false (V.l 8 (List.map GUnit.e a0.tables.source.units)), .v false (V.l 6 (List.map GItem.e a0.tables.source.items)), .v false (V.l 1 (List.map V.s a0.tables.source.plants)), .v false (V.l 4 (List.map GMachine.e a0.tables.source.machines)), .v false (V.l 2 (List.map GOption.e a0.tables.source.options)), .v false (V.l 1 (List.map (fun l => V.l 4 (List.map GCond.e l)) a0.tables.source.forbids)), .v false (V.l 17 (List.map GRecipe.e a0.tables.source.recipes)), .v false (V.l 4 (List.map GSwap.e a0.tables.source.swaps)), .v false (V.l 1 (List.map vi a0.tables.levels)), .v false (V.l 1 (List.map (fun l => V.l 6 (List.map GInst.e l)) a0.tables.codes)), .v false (V.l 8 (List.map GFact.e a0.facts))]), .e 15 0 q12 (.row 60 (els true (List.map GLot.e s7.1))), .e 25 0 q14 (.row 100 (els true (List.map GRead.e s7.2)))] [] (0, false)) ⟨_, ⟨(some (b2, 0 * 6)), (some (b5, 1 * 5)), rfl⟩, shift_mk ⟨⟨_, rfl, (.flat rfl)⟩, ⟨⟨_, rfl, (.flat rfl)⟩, ⟨⟨_, rfl, .rfl⟩, ⟨⟨_, rfl, .rfl⟩, ⟨⟨_, rfl, .rfl⟩, ⟨⟨_, rfl, .rfl⟩, ⟨⟨_, rfl, .rfl⟩, ⟨⟨_, rfl, (.flat rfl)⟩, ⟨⟨_, rfl, .rfl⟩, trivial⟩⟩⟩⟩⟩⟩⟩⟩⟩ ⟨(.e rfl), ⟨(.e rfl), ⟨(.e rfl), trivial⟩⟩⟩ rfl rfl⟩ ?_
    rintro n15 k9 s7 _ ⟨q12, q14, rfl⟩ w16 w17 w18 w19 H
    refine ev_seq ?_
    refine ev_seq ?_
    refine ev_region ?_
    refine rq rfl rfl (q_move rfl) ?_
    refine rq rfl rfl (q_move rfl) ?_
    refine rq rfl rfl (q_lss rfl rfl) ?_
    refine run_nil ?_
    refine ev_cond rfl (fun hc => ?_) (fun hc => ?_)
    · obtain ⟨n21, n21_e, w20, H⟩ := forN_in hc w16 H
      refine ev_skip ?_
      obtain ⟨j22, j22_e, H⟩ := jn_inv H
      refine ev_join (fun σ' => ∃ (p23 : List GLot) (p25 : List GRead) (q24 : Pl) (q26 : Pl), j22 p23 p25 = some r ∧ σ' = mkS [(1, .v true (vi a1)), (2, .v true (vi a2)), (3, .p 3 0 b1 0), (6, .v true (.raw (.slice none 0 0))), (7, .v true (.raw (.slice none 0 0))), (8, .o 15 0 q24 6 0 p23.length), (9, .o 25 0 q26 5 0 p25.length), (10, .v true (vi x6)), (11, .v true (vi k9))] [.e 3 0 (some (b1, 11)) (.row 38 [.v false (V.l 8 (List.map GUnit.e a0.tables.source.units)), .v false (V.l 6 (List.map GItem.e a0.tables.source.items)), .v false (V.l 1 (List.map V.s a0.tables.source.plants)), .v false (V.l 4 (List.map GMachine.e a0.tables.source.machines)), .v false (V.l 2 (List.map GOption.e a0.tables.source.options)), .v false (V.l 1 (List.map (fun l => V.l 4 (List.map GCond.e l)) a0.tables.source.forbids)), .v false (V.l 17 (List.map GRecipe.e a0.tables.source.recipes)), .v false (V.l 4 (List.map GSwap.e a0.tables.source.swaps)), .v false (V.l 1 (List.map vi a0.tables.levels)), .v false (V.l 1 (List.map (fun l => V.l 6 (List.map GInst.e l)) a0.tables.codes)), .v false (V.l 8 (List.map GFact.e a0.facts))]), .e 15 0 q24 (.row 60 (els true (List.map GLot.e p23))), .e 25 0 q26 (.row 100 (els true (List.map GRead.e p25)))] [] (0, false)) ?_ ?_
      · rintro _ ⟨p23, p25, q24, q26, H, rfl⟩
        subst j22_e
        refine ev_region ?_
        refine rq rfl rfl (q_move rfl) ?_
        refine rq rfl rfl (q_add rfl rfl) ?_
        refine rq rfl rfl (q_assign rfl) ?_
        refine run_nil ?_
        exact ⟨_, _, _, n21_e, H, ⟨q24, q26, rfl⟩, shift_mk ⟨⟨_, rfl, (.flat rfl)⟩, ⟨⟨_, rfl, (.flat rfl)⟩, ⟨⟨_, rfl, .rfl⟩, ⟨⟨_, rfl, .rfl⟩, ⟨⟨_, rfl, .rfl⟩, ⟨⟨_, rfl, .rfl⟩, ⟨⟨_, rfl, .rfl⟩, ⟨⟨_, rfl, (.flat rfl)⟩, ⟨⟨_, rfl, (.eq (congrArg (fun n => D.v true (vi n)) (wrap_succ' (by omega) w20 w19)))⟩, trivial⟩⟩⟩⟩⟩⟩⟩⟩⟩ ⟨(.e rfl), ⟨(.e rfl), ⟨(.e rfl), trivial⟩⟩⟩ rfl rfl⟩
      · clear j22_e
        refine ev_block ?_
        refine ev_seq ?_
        refine ev_region ?_
        refine rq rfl rfl (q_loadN rfl rfl rfl rfl) ?_
        refine rq rfl rfl (q_move rfl) ?_
        refine rq rfl rfl (q_move rfl) ?_
        refine rq rfl rfl (q_move rfl) ?_
        obtain ⟨x27, x27_h, H⟩ := bd_inv H
        refine rq rfl rfl (q_call rfl (.v _ _ (fun e => nomatch e)) (.v rfl (.v rfl (.v rfl (.v rfl ArgsOk.nil)))) inferInstance (backflushref18_lot_c  x27_h)) ?_
        refine rq rfl rfl (q_move rfl) ?_
        refine rq rfl rfl (q_extract rfl rfl) ?_
        refine rq rfl rfl (q_extract rfl rfl) ?_
        refine rq rfl rfl (q_extract rfl rfl) ?_
        refine re rfl (e_alloc 12 0 rfl rfl) ?_; rintro _ ⟨b28, rfl⟩
        refine re rfl (e_store rfl rfl rfl rfl rfl (Nat.le_of_ble_eq_true rfl) rfl) ?_; rintro _ rfl
        refine rq rfl rfl (q_assign rfl) ?_
        refine rq rfl rfl (q_assign rfl) ?_
        refine run_nil ?_
        refine ev_seq ?_
        refine ev_region ?_
        refine rq rfl rfl (q_move rfl) ?_
        refine rq rfl rfl (q_move rfl) ?_
        obtain ⟨w29, H⟩ := gdd_inv H
        refine re rfl (e_appt rfl rfl rfl (fun _ => ⟨rfl, rfl⟩) rfl rfl rfl w29 rfl) ?_; rintro _ ⟨q30, rfl⟩
        refine rq rfl rfl (q_assign rfl) ?_
        refine run_nil ?_
        refine ev_seq ?_
        refine ev_region ?_
        refine rq rfl rfl (q_move rfl) ?_
        refine run_nil ?_
        refine ev_cond rfl (fun hc => ?_) (fun hc => ?_)
        · replace H := ct hc H
          refine ev_region ?_
          refine rq rfl rfl (q_move rfl) ?_
          refine rq rfl rfl (q_loadN rfl rfl rfl rfl) ?_
          refine rq rfl rfl (q_buildSlice (z := 6) (xs := List.map GLot.e ([x27.1] : List GLot)) (fl := true) rfl rfl rfl rfl (by simp [V.plain, V.cells, GLot.e, vi, vb]) rfl) ?_
          obtain ⟨w31, H⟩ := gdd_inv H
          refine re rfl (e_appt rfl rfl rfl (fun _ => ⟨rfl, rfl⟩) rfl rfl rfl w31 rfl) ?_; rintro _ ⟨q32, rfl⟩
          refine rq rfl rfl (q_assign rfl) ?_
          refine run_nil ?_
          exact ⟨_, ⟨s7.1 ++ ([x27.1] : List GLot), s7.2 ++ x27.2.1, q32, q30, H, rfl⟩, shift_mk ⟨⟨_, rfl, (.flat rfl)⟩, ⟨⟨_, rfl, (.flat rfl)⟩, ⟨⟨_, rfl, .rfl⟩, ⟨⟨_, rfl, .rfl⟩, ⟨⟨_, rfl, .rfl⟩, ⟨⟨_, rfl, .rfl⟩, ⟨⟨_, rfl, .rfl⟩, ⟨⟨_, rfl, (.flat rfl)⟩, ⟨⟨_, rfl, (.flat rfl)⟩, trivial⟩⟩⟩⟩⟩⟩⟩⟩⟩ ⟨(.e rfl), ⟨(.e rfl), ⟨(.e rfl), trivial⟩⟩⟩ rfl rfl⟩
        · replace H := cf hc H
          refine ev_skip ?_
          exact ⟨_, ⟨s7.1, s7.2 ++ x27.2.1, q12, q30, H, rfl⟩, shift_mk ⟨⟨_, rfl, (.flat rfl)⟩, ⟨⟨_, rfl, (.flat rfl)⟩, ⟨⟨_, rfl, .rfl⟩, ⟨⟨_, rfl, .rfl⟩, ⟨⟨_, rfl, .rfl⟩, ⟨⟨_, rfl, .rfl⟩, ⟨⟨_, rfl, .rfl⟩, ⟨⟨_, rfl, (.flat rfl)⟩, ⟨⟨_, rfl, (.flat rfl)⟩, trivial⟩⟩⟩⟩⟩⟩⟩⟩⟩ ⟨(.e rfl), ⟨(.e rfl), ⟨(.e rfl), trivial⟩⟩⟩ rfl rfl⟩
    · replace H := forN_out hc w16 H
      refine ev_exit ?_
      refine ev_seq ?_
      refine ev_region ?_
      refine rq rfl rfl (q_move rfl) ?_
      refine rq rfl rfl (q_move rfl) ?_
      refine rq rfl rfl (q_assign rfl) ?_
      refine rq rfl rfl (q_assign rfl) ?_
      refine run_nil ?_
      refine ev_ret ?_
      exact ret_ok [V.l 6 (List.map GLot.e s7.1), V.l 5 (List.map GRead.e s7.2)] (congrArg (fun r : (List GLot) × (List GRead) => V.t [V.l 6 (List.map GLot.e r.1), V.l 5 (List.map GRead.e r.2)]) (Option.some.inj H)) rfl (.cons (.tmp rfl (.all rfl (List.length_map _) (els_plain fun _ => ⟨rfl, rfl⟩) (fun _ => rfl))) (.cons (.tmp rfl (.all rfl (List.length_map _) (els_plain fun _ => ⟨rfl, rfl⟩) (fun _ => rfl))) .nil))
def backflushref18_Usable_m (a0 : GWorld) (a1 : GLine) (a2 : Int) (a3 : Int) : Option ((List GLot) × (List GRead)) := bif a1.config != 0 then (some (([] : List GLot), [])) else (bd (backflushref18_Lots_m a0 a2 a3) fun x4 => forL x4.1 (fun (k7 : Nat) (x10 : GLot) (s5 : (List GLot)) loop6 => jn (fun (p14 : List GLot) => loop6 p14) fun j13 => bif bif bif bif x10.item != a1.item then true else x10.plant != a1.plant then true else x10.state != 0 then true else decide (x10.expiry ≤ a2) then (j13 s5) else (iter (fun (s16 : Int) loop17 => bdc (decide (0 < s16)) (idx s5 (wr (s16 - 1))) fun x19 => bif bif decide (0 < s16) then decide (x10.expiry < x19.expiry) else false then (loop17 (wr (s16 - 1))) else (gd (decide (0 ≤ s16)) <| gd (decide (s16.toNat ≤ s5.length)) <| gd (decide ((([x10] : List GLot).length + (s5.drop (s16.toNat)).length) * 49 ≤ 140737488355328)) <| gd (decide (0 ≤ s16)) <| gd (decide (0 ≤ s16.toNat ∧ s16.toNat ≤ s5.length)) <| gd (decide ((([] : List GLot).length + ((s5.take (s16.toNat)).drop (0)).length) * 49 ≤ 140737488355328)) <| gd (decide (((([] : List GLot) ++ ((s5.take (s16.toNat)).drop (0))).length + (([x10] : List GLot) ++ (s5.drop (s16.toNat))).length) * 49 ≤ 140737488355328)) <| j13 ((([] : List GLot) ++ ((s5.take (s16.toNat)).drop (0))) ++ (([x10] : List GLot) ++ (s5.drop (s16.toNat)))))) 1048576 ((s5.length : Nat) : Int))) (fun (s5 : (List GLot)) => some (s5, x4.2)) ([] : List GLot))
theorem backflushref18_Usable_c {a0 : GWorld} {a1 : GLine} {a2 : Int} {a3 : Int} {r : (List GLot) × (List GRead)} (H : backflushref18_Usable_m a0 a1 a2 a3 = some r) : PureC Try.prog true 36 [GWorld.e a0, GLine.e a1, vi a2, vi a3] (V.t [V.l 6 (List.map GLot.e r.1), V.l 5 (List.map GRead.e r.2)]) := by
  unfold backflushref18_Usable_m at H
  refine pure_intro (N := 94) Try.func36 rfl rfl rfl rfl fun C hO => ?_
  refine ev_shift (shift_mk (fs := [(0, .v false (GWorld.e a0)), (1, .v true (GLine.e a1)), (2, .v true (vi a2)), (3, .v true (vi a3))]) (es := []) ⟨⟨_, rfl, .rfl⟩, ⟨⟨_, rfl, (.flat rfl)⟩, ⟨⟨_, rfl, (.flat rfl)⟩, ⟨⟨_, rfl, (.flat rfl)⟩, trivial⟩⟩⟩⟩ trivial rfl rfl) ?_
  refine ev_seq ?_
  refine ev_region ?_
  refine re rfl (e_box 4 0 rfl rfl rfl) ?_; rintro _ ⟨b1, rfl⟩
  refine re rfl (e_box 5 0 rfl rfl rfl) ?_; rintro _ ⟨b2, rfl⟩
  refine rq rfl rfl (q_assign rfl) ?_
  refine rq rfl rfl (q_assign rfl) ?_
  refine run_nil ?_
  refine ev_seq ?_
  refine ev_region ?_
  refine re rfl (e_buildSlice 17 0 rfl rfl rfl rfl) ?_; rintro _ ⟨b3, rfl⟩
  refine rq rfl rfl (q_assign rfl) ?_
  refine run_nil ?_
  refine ev_seq ?_
  refine ev_seq ?_
  refine ev_region ?_
  refine rq rfl rfl (q_fld_p rfl) ?_
  refine rq rfl rfl (q_load1 rfl rfl rfl) ?_
  refine rq rfl rfl (q_nei rfl rfl) ?_
  refine run_nil ?_
  refine ev_cond rfl (fun hc => ?_) (fun hc => ?_)
  · replace H := ct hc H
    refine ev_seq ?_
    refine ev_region ?_
    refine rq rfl rfl (q_move rfl) ?_
    refine rq rfl rfl (q_assign rfl) ?_
    refine rq rfl rfl (q_assign rfl) ?_
    refine run_nil ?_
    refine ev_ret ?_
    exact ret_ok [V.l 6 (List.map GLot.e ([] : List GLot)), V.l 5 (List.map GRead.e [])] (congrArg (fun r : (List GLot) × (List GRead) => V.t [V.l 6 (List.map GLot.e r.1), V.l 5 (List.map GRead.e r.2)]) (Option.some.inj H)) rfl (.cons (.tmp rfl (.all rfl (List.length_map _) (els_plain fun _ => ⟨rfl, rfl⟩) (fun _ => rfl))) (.cons (.tmp rfl (.nil _ _)) .nil))
  · replace H := cf hc H
    refine ev_skip ?_
    refine ev_seq ?_
    refine ev_region ?_
    refine rq rfl rfl (q_loadN rfl rfl rfl rfl) ?_
    refine rq rfl rfl (q_move rfl) ?_
    refine rq rfl rfl (q_move rfl) ?_
    obtain ⟨x4, x4_h, H⟩ := bd_inv H
    refine rq rfl rfl (q_call rfl (.v _ _ (fun e => nomatch e)) (.v rfl (.v rfl (.v rfl ArgsOk.nil))) inferInstance (backflushref18_Lots_c  x4_h)) ?_
    refine rq rfl rfl (q_move rfl) ?_
    refine rq rfl rfl (q_extract rfl rfl) ?_
    refine rq rfl rfl (q_extract rfl rfl) ?_
    refine rq rfl rfl (q_assign rfl) ?_
    refine rq rfl rfl (q_assign rfl) ?_
    refine run_nil ?_
    refine ev_seq ?_
    refine ev_seq ?_
    refine ev_region ?_
    refine rq rfl rfl (q_assign rfl) ?_
    refine run_nil ?_
    refine ev_block ?_
    refine ev_len_l (s := 11) rfl fun w12 => ?_
    rw [List.length_map] at w12
    refine ev_forL H (fun k7 s5 σ' => σ' = mkS [(2, .v true (vi a2)), (5, .p 5 0 b2 0), (8, .v true (.raw (.slice none 0 0))), (9, .v true (.raw (.slice none 0 0))), (10, .v true (V.l 6 (List.map GLot.e s5))), (11, .v true (V.l 6 (List.map GLot.e x4.1))), (12, .v true (V.l 5 (List.map GRead.e x4.2))), (13, .v true (vi ((k7 : Nat) : Int)))] [.e 5 0 (some (b2, 3)) (.row 77 [.v true (vi a1.item), .v true (vi a1.plant), .v true (vi a1.config)])] [] (0, false)) ⟨_, rfl, Shift.trans (shift_frz (E := GLot.e) (f := true) (k := 17) (i := 0) (z := 6) (ty := 60) (pl := some (b3, 0 * 6)) (xs := ([] : List GLot)) 10 rfl rfl (fun _ => ⟨rfl, rfl⟩)) (shift_mk ⟨⟨_, rfl, (.flat rfl)⟩, ⟨⟨_, rfl, .rfl⟩, ⟨⟨_, rfl, .rfl⟩, ⟨⟨_, rfl, .rfl⟩, ⟨⟨_, rfl, .rfl⟩, ⟨⟨_, rfl, .rfl⟩, ⟨⟨_, rfl, .rfl⟩, ⟨⟨_, rfl, .rfl⟩, trivial⟩⟩⟩⟩⟩⟩⟩⟩ ⟨(.w rfl (.cons (.flat rfl) (.cons (.flat rfl) (.cons (.flat rfl) .nil)))), trivial⟩ rfl rfl)⟩ ?_
    rintro k7 s5 _ rfl _ H
    refine ev_seq ?_
    refine ev_seq ?_
    refine ev_region ?_
    refine rq rfl rfl (q_move rfl) ?_
    refine rq rfl rfl (q_move rfl) ?_
    refine rq rfl rfl (q_len_t rfl) ?_
    refine rq rfl rfl (q_lss rfl rfl) ?_
    refine run_nil ?_
    refine ev_cond rfl (fun hc => ?_) (fun hc => ?_)
    · obtain ⟨x10, w11, x10_g, H⟩ := forL_in hc H
      have x10_h : idx x4.1 ((k7 : Nat) : Int) = some x10 := by rw [idx_nat]; exact x10_g
      refine ev_skip ?_
      obtain ⟨j13, j13_e, H⟩ := jn_inv H
      refine ev_join (fun σ' => ∃ (p14 : List GLot), j13 p14 = some r ∧ σ' = mkS [(2, .v true (vi a2)), (5, .p 5 0 b2 0), (8, .v true (.raw (.slice none 0 0))), (9, .v true (.raw (.slice none 0 0))), (10, .v true (V.l 6 (List.map GLot.e p14))), (11, .v true (V.l 6 (List.map GLot.e x4.1))), (12, .v true (V.l 5 (List.map GRead.e x4.2))), (13, .v true (vi ((k7 : Nat) : Int)))] [.e 5 0 (some (b2, 3)) (.row 77 [.v true (vi a1.item), .v true (vi a1.plant), .v true (vi a1.config)])] [] (0, false)) ?_ ?_
      · rintro _ ⟨p14, H, rfl⟩
        subst j13_e
        refine ev_region ?_
        refine rq rfl rfl (q_move rfl) ?_
        refine rq rfl rfl (q_add rfl rfl) ?_
        refine rq rfl rfl (q_assign rfl) ?_
        refine run_nil ?_
        exact ⟨_, _, w11, H, rfl, shift_mk ⟨⟨_, rfl, (.flat rfl)⟩, ⟨⟨_, rfl, .rfl⟩, ⟨⟨_, rfl, .rfl⟩, ⟨⟨_, rfl, .rfl⟩, ⟨⟨_, rfl, .rfl⟩, ⟨⟨_, rfl, .rfl⟩, ⟨⟨_, rfl, .rfl⟩, ⟨⟨_, rfl, (.eq (congrArg (fun n => D.v true (vi n)) (wrap_succ w11 w12)))⟩, trivial⟩⟩⟩⟩⟩⟩⟩⟩ ⟨(.w rfl (.cons (.flat rfl) (.cons (.flat rfl) (.cons (.flat rfl) .nil)))), trivial⟩ rfl rfl⟩
      · clear j13_e
        refine ev_block ?_
        refine ev_seq ?_
        refine ev_region ?_
        refine rq rfl rfl (q_move rfl) ?_
        refine rq rfl rfl (q_move rfl) ?_
        refine rq rfl rfl (q_idx_l rfl rfl (idx_inv x10_h).1 (map_get (idx_inv x10_h).2.1) rfl) ?_
        refine rq rfl rfl (q_load_e rfl rfl rfl) ?_
        refine re rfl (e_alloc 14 0 rfl rfl) ?_; rintro _ ⟨b15, rfl⟩
        refine re rfl (e_store rfl rfl rfl rfl rfl (Nat.le_of_ble_eq_true rfl) rfl) ?_; rintro _ rfl
        refine run_nil ?_
        refine ev_seq ?_
        refine ev_seq ?_
        refine ev_region ?_
        refine rq rfl rfl (q_fld_p rfl) ?_
        refine rq rfl rfl (q_load1 rfl rfl rfl) ?_
        refine rq rfl rfl (q_fld_p rfl) ?_
        refine rq rfl rfl (q_load1 rfl rfl rfl) ?_
        refine rq rfl rfl (q_nei rfl rfl) ?_
        refine rq rfl rfl (q_move rfl) ?_
        refine rqc (l := []) ⟨⟨_, _, _, rfl, rfl, rfl, rfl⟩, rfl, fun hc => q_fld_p rfl, trivial⟩ rfl ?_
        refine rqc (l := [45]) ⟨⟨_, _, _, rfl, rfl, rfl, rfl⟩, rfl, fun hc => q_load1 rfl rfl rfl, ⟨fun h => h, trivial⟩⟩ rfl ?_
        refine rqc (l := []) ⟨⟨_, _, _, rfl, rfl, rfl, rfl⟩, rfl, fun hc => q_fld_p rfl, trivial⟩ rfl ?_
        refine rqc (l := [47]) ⟨⟨_, _, _, rfl, rfl, rfl, rfl⟩, rfl, fun hc => q_load1 rfl rfl rfl, ⟨fun h => h, trivial⟩⟩ rfl ?_
        refine rqc (l := [46, 48]) ⟨⟨_, _, _, rfl, rfl, rfl, rfl⟩, rfl, fun hc => q_nei rfl rfl, ⟨fun h => h, ⟨fun h => h, trivial⟩⟩⟩ rfl ?_
        refine rq rfl rfl (q_pickb rfl rfl rfl PB.v (PB.c (fun hp => by rw [hp]; rfl))) ?_
        refine rq rfl rfl (q_move rfl) ?_
        refine rqc (l := []) ⟨⟨_, _, _, rfl, rfl, rfl, rfl⟩, rfl, fun hc => q_fld_p rfl, trivial⟩ rfl ?_
        refine rqc (l := [52]) ⟨⟨_, _, _, rfl, rfl, rfl, rfl⟩, rfl, fun hc => q_load1 rfl rfl rfl, ⟨fun h => h, trivial⟩⟩ rfl ?_
        refine rqc (l := [53]) ⟨⟨_, _, _, rfl, rfl, rfl, rfl⟩, rfl, fun hc => q_nei rfl rfl, ⟨fun h => h, trivial⟩⟩ rfl ?_
        refine rq rfl rfl (q_pickb rfl rfl rfl PB.v (PB.c (fun hp => by rw [hp]; rfl))) ?_
        refine rq rfl rfl (q_move rfl) ?_
        refine rqc (l := []) ⟨⟨_, _, _, rfl, rfl, rfl, rfl⟩, rfl, fun hc => q_fld_p rfl, trivial⟩ rfl ?_
        refine rqc (l := [57]) ⟨⟨_, _, _, rfl, rfl, rfl, rfl⟩, rfl, fun hc => q_load1 rfl rfl rfl, ⟨fun h => h, trivial⟩⟩ rfl ?_
        refine rqc (l := []) ⟨⟨_, _, _, rfl, rfl, rfl, rfl⟩, rfl, fun hc => q_move rfl, trivial⟩ rfl ?_
        refine rqc (l := [58, 59]) ⟨⟨_, _, _, rfl, rfl, rfl, rfl⟩, rfl, fun hc => q_leq rfl rfl, ⟨fun h => h, ⟨fun h => h, trivial⟩⟩⟩ rfl ?_
        refine rq rfl rfl (q_pickb rfl rfl rfl PB.v (PB.c (fun hp => by rw [hp]; rfl))) ?_
        refine run_nil ?_
        refine ev_cond rfl (fun hc => ?_) (fun hc => ?_)
        · replace H := ct hc H
          refine ev_exit ?_
          exact ⟨_, ⟨s5, H, rfl⟩, shift_mk ⟨⟨_, rfl, (.flat rfl)⟩, ⟨⟨_, rfl, .rfl⟩, ⟨⟨_, rfl, .rfl⟩, ⟨⟨_, rfl, .rfl⟩, ⟨⟨_, rfl, .rfl⟩, ⟨⟨_, rfl, .rfl⟩, ⟨⟨_, rfl, .rfl⟩, ⟨⟨_, rfl, (.flat rfl)⟩, trivial⟩⟩⟩⟩⟩⟩⟩⟩ ⟨(.w rfl (.cons (.flat rfl) (.cons (.flat rfl) (.cons (.flat rfl) .nil)))), trivial⟩ rfl rfl⟩
        · replace H := cf hc H
          refine ev_skip ?_
          refine ev_seq ?_
          refine ev_region ?_
          refine rq rfl rfl (q_move rfl) ?_
          refine rq rfl rfl (q_len_t rfl) ?_
          refine rq rfl rfl (q_assign rfl) ?_
          refine run_nil ?_
          refine ev_seq ?_
          refine ev_block ?_
          refine ev_iter H (fun s16 σ' => σ' = mkS [(2, .v true (vi a2)), (5, .p 5 0 b2 0), (8, .v true (.raw (.slice none 0 0))), (9, .v true (.raw (.slice none 0 0))), (10, .v true (V.l 6 (List.map GLot.e s5))), (11, .v true (V.l 6 (List.map GLot.e x4.1))), (12, .v true (V.l 5 (List.map GRead.e x4.2))), (13, .v true (vi ((k7 : Nat) : Int))), (14, .p 14 0 b15 0), (15, .v true (vi s16))] [.e 5 0 (some (b2, 3)) (.row 77 [.v true (vi a1.item), .v true (vi a1.plant), .v true (vi a1.config)]), .e 14 0 (some (b15, 6)) (.row 60 [.v true (vi x10.no_), .v true (vi x10.item), .v true (vi x10.plant), .v true (vi x10.amount), .v true (vi x10.expiry), .v true (vi x10.state)])] [] (0, false)) ⟨_, rfl, shift_mk ⟨⟨_, rfl, (.flat rfl)⟩, ⟨⟨_, rfl, .rfl⟩, ⟨⟨_, rfl, .rfl⟩, ⟨⟨_, rfl, .rfl⟩, ⟨⟨_, rfl, .rfl⟩, ⟨⟨_, rfl, .rfl⟩, ⟨⟨_, rfl, .rfl⟩, ⟨⟨_, rfl, (.flat rfl)⟩, ⟨⟨_, rfl, .rfl⟩, ⟨⟨_, rfl, (.flat rfl)⟩, trivial⟩⟩⟩⟩⟩⟩⟩⟩⟩⟩ ⟨(.w rfl (.cons (.flat rfl) (.cons (.flat rfl) (.cons (.flat rfl) .nil)))), ⟨(.w rfl (.cons (.flat rfl) (.cons (.flat rfl) (.cons (.flat rfl) (.cons (.flat rfl) (.cons (.flat rfl) (.cons (.flat rfl) .nil))))))), trivial⟩⟩ rfl rfl⟩ ?_
          rintro n34 s16 _ rfl H
          refine ev_seq ?_
          refine ev_seq ?_
          obtain ⟨x19, x19_h, _, H⟩ := bdc_inv H
          refine ev_draw rfl (by kernel_rfl) ?_
          refine qq rfl rfl (q_move rfl) ?_
          refine qq rfl rfl (q_gtr rfl rfl) ?_
          refine qq rfl rfl (q_move rfl) ?_
          refine qc (l := []) ⟨⟨_, _, _, rfl, rfl, rfl, rfl⟩, rfl, fun hc => q_move rfl, trivial⟩ rfl rfl ?_
          refine qc (l := []) ⟨⟨_, _, _, rfl, rfl, rfl, rfl⟩, rfl, fun hc => q_move rfl, trivial⟩ rfl rfl ?_
          refine qc (l := [68]) ⟨⟨_, _, _, rfl, rfl, rfl, rfl⟩, rfl, fun hc => q_sub rfl rfl, ⟨fun h => h, trivial⟩⟩ rfl rfl ?_
          refine qc (l := [67, 69]) ⟨⟨_, _, _, rfl, rfl, rfl, rfl⟩, rfl, fun hc => q_idx_l rfl rfl (idx_inv (x19_h hc)).1 (map_get (idx_inv (x19_h hc)).2.1) rfl, ⟨fun h => h, ⟨fun h => h, trivial⟩⟩⟩ rfl rfl ?_
          refine qc (l := [70]) ⟨⟨_, _, _, rfl, rfl, rfl, rfl⟩, rfl, fun hc => q_fld_q rfl, ⟨fun h => h, trivial⟩⟩ rfl rfl ?_
          refine qc (l := [71]) ⟨⟨_, _, _, rfl, rfl, rfl, rfl⟩, rfl, fun hc => q_load1_q rfl, ⟨fun h => h, trivial⟩⟩ rfl rfl ?_
          refine qc (l := []) ⟨⟨_, _, _, rfl, rfl, rfl, rfl⟩, rfl, fun hc => q_fld_p rfl, trivial⟩ rfl rfl ?_
          refine qc (l := [73]) ⟨⟨_, _, _, rfl, rfl, rfl, rfl⟩, rfl, fun hc => q_load1 rfl rfl rfl, ⟨fun h => h, trivial⟩⟩ rfl rfl ?_
          refine qc (l := [72, 74]) ⟨⟨_, _, _, rfl, rfl, rfl, rfl⟩, rfl, fun hc => q_gtr rfl rfl, ⟨fun h => h, ⟨fun h => h, trivial⟩⟩⟩ rfl rfl ?_
          refine qq rfl rfl (q_pickb rfl rfl rfl (PB.c (fun hp => hp)) PB.v) ?_
          refine qn ?_
          refine ev_cond rfl (fun hc => ?_) (fun hc => ?_)
          · replace H := ct hc H
            refine ev_skip ?_
            refine ev_block ?_
            refine ev_region ?_
            refine rq rfl rfl (q_move rfl) ?_
            refine rq rfl rfl (q_sub rfl rfl) ?_
            refine rq rfl rfl (q_assign rfl) ?_
            refine run_nil ?_
            exact ⟨_, _, H, rfl, shift_mk ⟨⟨_, rfl, (.flat rfl)⟩, ⟨⟨_, rfl, .rfl⟩, ⟨⟨_, rfl, .rfl⟩, ⟨⟨_, rfl, .rfl⟩, ⟨⟨_, rfl, .rfl⟩, ⟨⟨_, rfl, .rfl⟩, ⟨⟨_, rfl, .rfl⟩, ⟨⟨_, rfl, (.flat rfl)⟩, ⟨⟨_, rfl, .rfl⟩, ⟨⟨_, rfl, (.flat rfl)⟩, trivial⟩⟩⟩⟩⟩⟩⟩⟩⟩⟩ ⟨(.w rfl (.cons (.flat rfl) (.cons (.flat rfl) (.cons (.flat rfl) .nil)))), ⟨(.w rfl (.cons (.flat rfl) (.cons (.flat rfl) (.cons (.flat rfl) (.cons (.flat rfl) (.cons (.flat rfl) (.cons (.flat rfl) .nil))))))), trivial⟩⟩ rfl rfl⟩
          · replace H := cf hc H
            refine ev_exit ?_
            refine ev_seq ?_
            obtain ⟨w21, H⟩ := gdd_inv H
            obtain ⟨w22, H⟩ := gdd_inv H
            obtain ⟨w23, H⟩ := gdd_inv H
            refine ev_drawX (fun i => (assocN [(1, [80]), (5, [80])] i).getD []) rfl ?_
            refine xq (r := some _) [] 0 (.start _) rfl (by kernel_rfl) (by kernel_rfl) ⟨rfl, .inl ⟨rfl, Quiet.norm (q_loadN rfl rfl rfl rfl)⟩⟩ rfl (fun hcl => ?_)
            refine xq (r := some _) [80] 2 hcl rfl (by kernel_rfl) (by kernel_rfl) ⟨rfl, .inl ⟨rfl, Quiet.norm (q_move rfl)⟩⟩ rfl (fun hcl => ?_)
            refine xq (r := some _) [80] 3 hcl rfl (by kernel_rfl) (by kernel_rfl) ⟨rfl, .inl ⟨rfl, Quiet.norm (q_move rfl)⟩⟩ rfl (fun hcl => ?_)
            refine xq (r := some _) [80] 4 hcl rfl (by kernel_rfl) (by kernel_rfl) ⟨rfl, .inl ⟨rfl, Quiet.norm (q_slice_t0 rfl (.some rfl w21) w22)⟩⟩ rfl (fun hcl => ?_)
            refine xb hcl (l := [1]) (by kernel_rfl) (by simp) (fun i hi hcl => ?_)
            obtain rfl : i = 1 := by simpa using hi
            refine xe rfl (x_buildSlice 80 0 rfl rfl rfl rfl rfl) ?_; rintro _ ⟨b25, rfl⟩
            refine xb hcl (l := [5]) (by kernel_rfl) (by simp) (fun i hi hcl => ?_)
            obtain rfl : i = 5 := by simpa using hi
            refine xe rfl (x_appt rfl rfl rfl (fun _ => ⟨rfl, rfl⟩) rfl rfl rfl w23 rfl rfl) ?_; rintro _ ⟨q26, rfl⟩
            refine xq (r := some _) [] 6 hcl rfl (by kernel_rfl) (by kernel_rfl) ⟨rfl, .inl ⟨rfl, Quiet.norm (q_assign rfl)⟩⟩ rfl (fun hcl => ?_)
            refine xn (by kernel_rfl) ?_
            refine ev_shift (shift_frz (E := GLot.e) (f := true) (k := 80) (i := 0) (z := 6) (ty := 60) (pl := q26) (xs := ([x10] : List GLot) ++ (s5.drop (s16.toNat))) 16 rfl rfl (fun _ => ⟨rfl, rfl⟩)) ?_
            refine ev_region ?_
            refine re rfl (e_buildSlice 85 0 rfl rfl rfl rfl) ?_; rintro _ ⟨b27, rfl⟩
            refine rq rfl rfl (q_move rfl) ?_
            refine rq rfl rfl (q_move rfl) ?_
            obtain ⟨w28, H⟩ := gdd_inv H
            obtain ⟨w29, H⟩ := gdd_inv H
            refine rq rfl rfl (q_slice_t rfl .none (.some rfl w28) w29) ?_
            obtain ⟨w30, H⟩ := gdd_inv H
            refine re rfl (e_appt rfl rfl rfl (fun _ => ⟨rfl, rfl⟩) rfl rfl rfl w30 rfl) ?_; rintro _ ⟨q31, rfl⟩
            refine rq rfl rfl (q_move rfl) ?_
            obtain ⟨w32, H⟩ := gdd_inv H
            refine re rfl (e_appt rfl rfl rfl (fun _ => ⟨rfl, rfl⟩) rfl rfl rfl w32 rfl) ?_; rintro _ ⟨q33, rfl⟩
            refine rq rfl rfl (q_assign rfl) ?_
            refine run_nil ?_
            exact ⟨_, ⟨(([] : List GLot) ++ ((s5.take (s16.toNat)).drop (0))) ++ (([x10] : List GLot) ++ (s5.drop (s16.toNat))), H, rfl⟩, Shift.trans (shift_frz (E := GLot.e) (f := true) (k := 85) (i := 0) (z := 6) (ty := 60) (pl := q33) (xs := (([] : List GLot) ++ ((s5.take (s16.toNat)).drop (0))) ++ (([x10] : List GLot) ++ (s5.drop (s16.toNat)))) 10 rfl rfl (fun _ => ⟨rfl, rfl⟩)) (shift_mk ⟨⟨_, rfl, (.flat rfl)⟩, ⟨⟨_, rfl, .rfl⟩, ⟨⟨_, rfl, .rfl⟩, ⟨⟨_, rfl, .rfl⟩, ⟨⟨_, rfl, .rfl⟩, ⟨⟨_, rfl, .rfl⟩, ⟨⟨_, rfl, .rfl⟩, ⟨⟨_, rfl, (.flat rfl)⟩, trivial⟩⟩⟩⟩⟩⟩⟩⟩ ⟨(.w rfl (.cons (.flat rfl) (.cons (.flat rfl) (.cons (.flat rfl) .nil)))), trivial⟩ rfl rfl)⟩
    · replace H := forL_out hc H
      refine ev_exit ?_
      refine ev_seq ?_
      refine ev_region ?_
      refine rq rfl rfl (q_move rfl) ?_
      refine rq rfl rfl (q_move rfl) ?_
      refine rq rfl rfl (q_assign rfl) ?_
      refine rq rfl rfl (q_assign rfl) ?_
      refine run_nil ?_
      refine ev_ret ?_
      exact ret_ok [V.l 6 (List.map GLot.e s5), V.l 5 (List.map GRead.e x4.2)] (congrArg (fun r : (List GLot) × (List GRead) => V.t [V.l 6 (List.map GLot.e r.1), V.l 5 (List.map GRead.e r.2)]) (Option.some.inj H)) rfl (.cons (.tmp rfl (.v _ _ (fun _ => rfl))) (.cons (.tmp rfl (.v _ _ (fun _ => rfl))) .nil))
def backflushlaw18_StockLotSpec_m (a0 : GWorld) (a1 : GLine) (a2 : Int) (a3 : Int) (a4 : Int) : Option Bool := bd (backflushlaw18_sane_m) fun x3 => bif !x3 then (some false) else (bd (backflushref18_Few_m a0) fun x4 => bif !x4 then (some true) else (forN 0 ((([a2, 0, 1] : List Int).length : Nat) : Int) (fun (k7 : Int) (s5 : Unit) loop6 => bd (idx ([a2, 0, 1] : List Int) k7) fun x16 => bd (stock_Lot_m a0 x16 a3 a4) fun x17 => bd (backflushref18_Lot_m a0 x16 a3 a4) fun x19 => bdc (!(!(GLot.eqb x17.1 x19.1))) (backflushref04_SameReads_m x17.2.1 x19.2.1) fun x21 => bif bif bif !(GLot.eqb x17.1 x19.1) then true else !x21 then true else x17.2.2 != x19.2.2 then (some false) else (loop6 ())) (fun (s5 : Unit) => bd (stock_Lots_m a0 a3 a4) fun x22 => bd (backflushref18_Lots_m a0 a3 a4) fun x23 => bd (stock_Usable_m a0 a1 a3 a4) fun x24 => bd (backflushref18_Usable_m a0 a1 a3 a4) fun x25 => bd (backflushref18_Same_m x22.1 x23.1) fun x26 => bdc x26 (backflushref04_SameReads_m x22.2 x23.2) fun x27 => bdc (bif x26 then x27 else false) (backflushref18_Same_m x24.1 x25.1) fun x28 => bdc (bif bif x26 then x27 else false then x28 else false) (backflushref04_SameReads_m x24.2 x25.2) fun x29 => some (bif bif bif x26 then x27 else false then x28 else false then x29 else false)) ()))
theorem backflushlaw18_StockLotSpec_c {a0 : GWorld} {a1 : GLine} {a2 : Int} {a3 : Int} {a4 : Int} {r : Bool} (H : backflushlaw18_StockLotSpec_m a0 a1 a2 a3 a4 = some r) : PureC Try.prog true 9 [GWorld.e a0, GLine.e a1, vi a2, vi a3, vi a4] (vb r) := by
  unfold backflushlaw18_StockLotSpec_m at H
  refine pure_intro (N := 120) Try.func9 rfl rfl rfl rfl fun C hO => ?_
  refine ev_shift (shift_mk (fs := [(0, .v false (GWorld.e a0)), (1, .v true (GLine.e a1)), (2, .v true (vi a2)), (3, .v true (vi a3)), (4, .v true (vi a4))]) (es := []) ⟨⟨_, rfl, .rfl⟩, ⟨⟨_, rfl, (.flat rfl)⟩, ⟨⟨_, rfl, (.flat rfl)⟩, ⟨⟨_, rfl, (.flat rfl)⟩, ⟨⟨_, rfl, (.flat rfl)⟩, trivial⟩⟩⟩⟩⟩ trivial rfl rfl) ?_
  refine ev_seq ?_
  refine ev_region ?_
  refine re rfl (e_box 5 0 rfl rfl rfl) ?_; rintro _ ⟨b1, rfl⟩
  refine re rfl (e_box 6 0 rfl rfl rfl) ?_; rintro _ ⟨b2, rfl⟩
  refine rq rfl rfl (q_assign rfl) ?_
  refine run_nil ?_
  refine ev_seq ?_
  refine ev_seq ?_
  refine ev_region ?_
  obtain ⟨x3, x3_h, H⟩ := bd_inv H
  refine rq rfl rfl (q_call rfl (.v _ _ (fun e => nomatch e)) ArgsOk.nil inferInstance (backflushlaw18_sane_c  x3_h)) ?_
  refine rq rfl rfl (q_not rfl) ?_
  refine run_nil ?_
  refine ev_cond rfl (fun hc => ?_) (fun hc => ?_)
  · replace H := ct hc H
    refine ev_seq ?_
    refine ev_region ?_
    refine rq rfl rfl (q_assign rfl) ?_
    refine run_nil ?_
    refine ev_ret ?_
    exact ret_ok [vb false] (congrArg (fun r : Bool => vb r) (Option.some.inj H)) rfl (.cons (.tmp rfl (.v _ _ (fun _ => rfl))) .nil)
  · replace H := cf hc H
    refine ev_skip ?_
    refine ev_seq ?_
    refine ev_seq ?_
    refine ev_region ?_
    refine rq rfl rfl (q_loadN rfl rfl rfl rfl) ?_
    obtain ⟨x4, x4_h, H⟩ := bd_inv H
    refine rq rfl rfl (q_call rfl (.v _ _ (fun e => nomatch e)) (.v rfl ArgsOk.nil) inferInstance (backflushref18_Few_c  x4_h)) ?_
    refine rq rfl rfl (q_not rfl) ?_
    refine run_nil ?_
    refine ev_cond rfl (fun hc => ?_) (fun hc => ?_)
    · replace H := ct hc H
      refine ev_seq ?_
      refine ev_region ?_
      refine rq rfl rfl (q_assign rfl) ?_
      refine run_nil ?_
      refine ev_ret ?_
      exact ret_ok [vb true] (congrArg (fun r : Bool => vb r) (Option.some.inj H)) rfl (.cons (.tmp rfl (.v _ _ (fun _ => rfl))) .nil)
    · replace H := cf hc H
      refine ev_skip ?_
      refine ev_seq ?_
      refine ev_seq ?_
      refine ev_region ?_
      refine rq rfl rfl (q_move rfl) ?_
      refine rq rfl rfl (q_buildSlice (z := 1) (xs := List.map vi ([a2, 0, 1] : List Int)) (fl := true) rfl rfl rfl rfl (by simp [V.plain, V.cells, vi, vb]) rfl) ?_
      refine rq rfl rfl (q_len_t rfl) ?_
      refine rq rfl rfl (q_move rfl) ?_
      refine run_nil ?_
      refine ev_block ?_
      refine ev_forN H (fun k7 s5 σ' => σ' = mkS [(3, .v true (vi a3)), (4, .v true (vi a4)), (5, .p 5 0 b1 0), (6, .p 6 0 b2 0), (10, .v true (vb false)), (33, .v true (V.l 1 (List.map vi ([a2, 0, 1] : List Int)))), (34, .v true (vi ((([a2, 0, 1] : List Int).length : Nat) : Int))), (35, .v true (vi k7))] [.e 5 0 (some (b1, 11)) (.row 38 [.v false (V.l 8 (List.map GUnit.e a0.tables.source.units)), .v false (V.l 6 (List.map GItem.e a0.tables.source.items)), .v false (V.l 1 (List.map V.s a0.tables.source.plants)), .v false (V.l 4 (List.map GMachine.e a0.tables.source.machines)), .v false (V.l 2 (List.map GOption.e a0.tables.source.options)), .v false (V.l 1 (List.map (fun l => V.l 4 (List.map GCond.e l)) a0.tables.source.forbids)), .v false (V.l 17 (List.map GRecipe.e a0.tables.source.recipes)), .v false (V.l 4 (List.map GSwap.e a0.tables.source.swaps)), .v false (V.l 1 (List.map vi a0.tables.levels)), .v false (V.l 1 (List.map (fun l => V.l 6 (List.map GInst.e l)) a0.tables.codes)), .v false (V.l 8 (List.map GFact.e a0.facts))]), .e 6 0 (some (b2, 3)) (.row 77 [.v true (vi a1.item), .v true (vi a1.plant), .v true (vi a1.config)])] [] (0, false)) ⟨_, rfl, shift_mk ⟨⟨_, rfl, (.flat rfl)⟩, ⟨⟨_, rfl, (.flat rfl)⟩, ⟨⟨_, rfl, .rfl⟩, ⟨⟨_, rfl, .rfl⟩, ⟨⟨_, rfl, (.flat rfl)⟩, ⟨⟨_, rfl, .rfl⟩, ⟨⟨_, rfl, (.flat rfl)⟩, ⟨⟨_, rfl, .rfl⟩, trivial⟩⟩⟩⟩⟩⟩⟩⟩ ⟨(.e rfl), ⟨(.w rfl (.cons (.flat rfl) (.cons (.flat rfl) (.cons (.flat rfl) .nil)))), trivial⟩⟩ rfl rfl⟩ ?_
      rintro n9 k7 s5 _ rfl w10 w11 w12 w13 H
      refine ev_seq ?_
      refine ev_region ?_
      refine rq rfl rfl (q_lss rfl rfl) ?_
      refine run_nil ?_
      refine ev_seq ?_
      refine ev_cond rfl (fun hc => ?_) (fun hc => ?_)
      · obtain ⟨n15, n15_e, w14, H⟩ := forN_in hc w10 H
        refine ev_skip ?_
        refine ev_seq ?_
        refine ev_block ?_
        refine ev_seq ?_
        refine ev_region ?_
        obtain ⟨x16, x16_h, H⟩ := bd_inv H
        refine rq rfl rfl (q_idx_l rfl rfl (idx_inv x16_h).1 (map_get (idx_inv x16_h).2.1) rfl) ?_
        refine rq rfl rfl (q_load1_q rfl) ?_
        refine rq rfl rfl (q_assign rfl) ?_
        refine run_nil ?_
        refine ev_seq ?_
        refine ev_region ?_
        refine rq rfl rfl (q_loadN rfl rfl rfl rfl) ?_
        refine rq rfl rfl (q_move rfl) ?_
        refine rq rfl rfl (q_move rfl) ?_
        refine rq rfl rfl (q_move rfl) ?_
        obtain ⟨x17, x17_h, H⟩ := bd_inv H
        refine rq rfl rfl (q_call rfl (.v _ _ (fun e => nomatch e)) (.v rfl (.v rfl (.v rfl (.v rfl ArgsOk.nil)))) inferInstance (stock_Lot_c  x17_h)) ?_
        refine rq rfl rfl (q_move rfl) ?_
        refine rq rfl rfl (q_extract rfl rfl) ?_
        refine rq rfl rfl (q_extract rfl rfl) ?_
        refine rq rfl rfl (q_extract rfl rfl) ?_
        refine re rfl (e_alloc 13 0 rfl rfl) ?_; rintro _ ⟨b18, rfl⟩
        refine re rfl (e_store rfl rfl rfl rfl rfl (Nat.le_of_ble_eq_true rfl) rfl) ?_; rintro _ rfl
        refine rq rfl rfl (q_assign rfl) ?_
        refine rq rfl rfl (q_assign rfl) ?_
        refine run_nil ?_
        refine ev_seq ?_
        refine ev_region ?_
        refine rq rfl rfl (q_loadN rfl rfl rfl rfl) ?_
        refine rq rfl rfl (q_move rfl) ?_
        refine rq rfl rfl (q_move rfl) ?_
        refine rq rfl rfl (q_move rfl) ?_
        obtain ⟨x19, x19_h, H⟩ := bd_inv H
        refine rq rfl rfl (q_call rfl (.v _ _ (fun e => nomatch e)) (.v rfl (.v rfl (.v rfl (.v rfl ArgsOk.nil)))) inferInstance (backflushref18_Lot_c  x19_h)) ?_
        refine rq rfl rfl (q_move rfl) ?_
        refine rq rfl rfl (q_extract rfl rfl) ?_
        refine rq rfl rfl (q_extract rfl rfl) ?_
        refine rq rfl rfl (q_extract rfl rfl) ?_
        refine re rfl (e_alloc 16 0 rfl rfl) ?_; rintro _ ⟨b20, rfl⟩
        refine re rfl (e_store rfl rfl rfl rfl rfl (Nat.le_of_ble_eq_true rfl) rfl) ?_; rintro _ rfl
        refine rq rfl rfl (q_assign rfl) ?_
        refine rq rfl rfl (q_assign rfl) ?_
        refine run_nil ?_
        refine ev_seq ?_
        refine ev_region ?_
        refine rq rfl rfl (q_loadN rfl rfl rfl rfl) ?_
        refine rq rfl rfl (q_loadN rfl rfl rfl rfl) ?_
        refine rq rfl rfl (q_nes rfl rfl (r := GLot.eqb x17.1 x19.1) rfl) ?_
        refine rq rfl rfl (q_move rfl) ?_
        refine rqc (l := []) ⟨⟨_, _, _, rfl, rfl, rfl, rfl⟩, rfl, fun hc => q_move rfl, trivial⟩ rfl ?_
        refine rqc (l := []) ⟨⟨_, _, _, rfl, rfl, rfl, rfl⟩, rfl, fun hc => q_move rfl, trivial⟩ rfl ?_
        obtain ⟨x21, x21_h, _, H⟩ := bdc_inv H
        refine rqc (l := [61, 62]) ⟨⟨_, _, _, rfl, rfl, rfl, rfl⟩, rfl, fun hc => q_call rfl (.v _ _ (fun e => nomatch e)) (.v rfl (.v rfl ArgsOk.nil)) inferInstance (backflushref04_SameReads_c  (x21_h hc)), ⟨fun h => h, ⟨fun h => h, trivial⟩⟩⟩ rfl ?_
        refine rqc (l := [63]) ⟨⟨_, _, _, rfl, rfl, rfl, rfl⟩, rfl, fun hc => q_not rfl, ⟨fun h => h, trivial⟩⟩ rfl ?_
        refine rq rfl rfl (q_pickb rfl rfl rfl PB.v (PB.c (fun hp => by rw [hp]; rfl))) ?_
        refine rq rfl rfl (q_move rfl) ?_
        refine rqc (l := []) ⟨⟨_, _, _, rfl, rfl, rfl, rfl⟩, rfl, fun hc => q_move rfl, trivial⟩ rfl ?_
        refine rqc (l := []) ⟨⟨_, _, _, rfl, rfl, rfl, rfl⟩, rfl, fun hc => q_move rfl, trivial⟩ rfl ?_
        refine rqc (l := [67, 68]) ⟨⟨_, _, _, rfl, rfl, rfl, rfl⟩, rfl, fun hc => q_neb rfl rfl, ⟨fun h => h, ⟨fun h => h, trivial⟩⟩⟩ rfl ?_
        refine rq rfl rfl (q_pickb rfl rfl rfl PB.v (PB.c (fun hp => by rw [hp]; rfl))) ?_
        refine run_nil ?_
        refine ev_cond rfl (fun hc => ?_) (fun hc => ?_)
        · replace H := ct hc H
          refine ev_seq ?_
          refine ev_region ?_
          refine rq rfl rfl (q_assign rfl) ?_
          refine run_nil ?_
          refine ev_ret ?_
          exact ret_ok [vb false] (congrArg (fun r : Bool => vb r) (Option.some.inj H)) rfl (.cons (.tmp rfl (.v _ _ (fun _ => rfl))) .nil)
        · replace H := cf hc H
          refine ev_skip ?_
          refine ev_region ?_
          refine rq rfl rfl (q_add rfl rfl) ?_
          refine rq rfl rfl (q_move rfl) ?_
          refine run_nil ?_
          exact ⟨_, _, _, n15_e, H, rfl, shift_mk ⟨⟨_, rfl, (.flat rfl)⟩, ⟨⟨_, rfl, (.flat rfl)⟩, ⟨⟨_, rfl, .rfl⟩, ⟨⟨_, rfl, .rfl⟩, ⟨⟨_, rfl, (.flat rfl)⟩, ⟨⟨_, rfl, .rfl⟩, ⟨⟨_, rfl, (.flat rfl)⟩, ⟨⟨_, rfl, (.eq (congrArg (fun n => D.v true (vi n)) (wrap_succ' (by omega) w14 w13)))⟩, trivial⟩⟩⟩⟩⟩⟩⟩⟩ ⟨(.e rfl), ⟨(.w rfl (.cons (.flat rfl) (.cons (.flat rfl) (.cons (.flat rfl) .nil)))), trivial⟩⟩ rfl rfl⟩
      · replace H := forN_out hc w10 H
        refine ev_exit ?_
        refine ev_seq ?_
        refine ev_region ?_
        refine rq rfl rfl (q_loadN rfl rfl rfl rfl) ?_
        refine rq rfl rfl (q_move rfl) ?_
        refine rq rfl rfl (q_move rfl) ?_
        obtain ⟨x22, x22_h, H⟩ := bd_inv H
        refine rq rfl rfl (q_call rfl (.v _ _ (fun e => nomatch e)) (.v rfl (.v rfl (.v rfl ArgsOk.nil))) inferInstance (stock_Lots_c  x22_h)) ?_
        refine rq rfl rfl (q_move rfl) ?_
        refine rq rfl rfl (q_extract rfl rfl) ?_
        refine rq rfl rfl (q_extract rfl rfl) ?_
        refine rq rfl rfl (q_assign rfl) ?_
        refine rq rfl rfl (q_assign rfl) ?_
        refine run_nil ?_
        refine ev_seq ?_
        refine ev_region ?_
        refine rq rfl rfl (q_loadN rfl rfl rfl rfl) ?_
        refine rq rfl rfl (q_move rfl) ?_
        refine rq rfl rfl (q_move rfl) ?_
        obtain ⟨x23, x23_h, H⟩ := bd_inv H
        refine rq rfl rfl (q_call rfl (.v _ _ (fun e => nomatch e)) (.v rfl (.v rfl (.v rfl ArgsOk.nil))) inferInstance (backflushref18_Lots_c  x23_h)) ?_
        refine rq rfl rfl (q_move rfl) ?_
        refine rq rfl rfl (q_extract rfl rfl) ?_
        refine rq rfl rfl (q_extract rfl rfl) ?_
        refine rq rfl rfl (q_assign rfl) ?_
        refine rq rfl rfl (q_assign rfl) ?_
        refine run_nil ?_
        refine ev_seq ?_
        refine ev_region ?_
        refine rq rfl rfl (q_loadN rfl rfl rfl rfl) ?_
        refine rq rfl rfl (q_loadN rfl rfl rfl rfl) ?_
        refine rq rfl rfl (q_move rfl) ?_
        refine rq rfl rfl (q_move rfl) ?_
        obtain ⟨x24, x24_h, H⟩ := bd_inv H
        refine rq rfl rfl (q_call rfl (.v _ _ (fun e => nomatch e)) (.v rfl (.v rfl (.v rfl (.v rfl ArgsOk.nil)))) inferInstance (stock_Usable_c  x24_h)) ?_
        refine rq rfl rfl (q_move rfl) ?_
        refine rq rfl rfl (q_extract rfl rfl) ?_
        refine rq rfl rfl (q_extract rfl rfl) ?_
        refine rq rfl rfl (q_assign rfl) ?_
        refine rq rfl rfl (q_assign rfl) ?_
        refine run_nil ?_
        refine ev_seq ?_
        refine ev_region ?_
        refine rq rfl rfl (q_loadN rfl rfl rfl rfl) ?_
        refine rq rfl rfl (q_loadN rfl rfl rfl rfl) ?_
        refine rq rfl rfl (q_move rfl) ?_
        refine rq rfl rfl (q_move rfl) ?_
        obtain ⟨x25, x25_h, H⟩ := bd_inv H
        refine rq rfl rfl (q_call rfl (.v _ _ (fun e => nomatch e)) (.v rfl (.v rfl (.v rfl (.v rfl ArgsOk.nil)))) inferInstance (backflushref18_Usable_c  x25_h)) ?_
        refine rq rfl rfl (q_move rfl) ?_
        refine rq rfl rfl (q_extract rfl rfl) ?_
        refine rq rfl rfl (q_extract rfl rfl) ?_
        refine rq rfl rfl (q_assign rfl) ?_
        refine rq rfl rfl (q_assign rfl) ?_
        refine run_nil ?_
        refine ev_seq ?_
        refine ev_region ?_
        refine rq rfl rfl (q_move rfl) ?_
        refine rq rfl rfl (q_move rfl) ?_
        obtain ⟨x26, x26_h, H⟩ := bd_inv H
        refine rq rfl rfl (q_call rfl (.v _ _ (fun e => nomatch e)) (.v rfl (.v rfl ArgsOk.nil)) inferInstance (backflushref18_Same_c  x26_h)) ?_
        refine rq rfl rfl (q_move rfl) ?_
        refine rqc (l := []) ⟨⟨_, _, _, rfl, rfl, rfl, rfl⟩, rfl, fun hc => q_move rfl, trivial⟩ rfl ?_
        refine rqc (l := []) ⟨⟨_, _, _, rfl, rfl, rfl, rfl⟩, rfl, fun hc => q_move rfl, trivial⟩ rfl ?_
        obtain ⟨x27, x27_h, _, H⟩ := bdc_inv H
        refine rqc (l := [106, 107]) ⟨⟨_, _, _, rfl, rfl, rfl, rfl⟩, rfl, fun hc => q_call rfl (.v _ _ (fun e => nomatch e)) (.v rfl (.v rfl ArgsOk.nil)) inferInstance (backflushref04_SameReads_c  (x27_h hc)), ⟨fun h => h, ⟨fun h => h, trivial⟩⟩⟩ rfl ?_
        refine rq rfl rfl (q_pickb rfl rfl rfl (PB.c (fun hp => hp)) PB.v) ?_
        refine rq rfl rfl (q_move rfl) ?_
        refine rqc (l := []) ⟨⟨_, _, _, rfl, rfl, rfl, rfl⟩, rfl, fun hc => q_move rfl, trivial⟩ rfl ?_
        refine rqc (l := []) ⟨⟨_, _, _, rfl, rfl, rfl, rfl⟩, rfl, fun hc => q_move rfl, trivial⟩ rfl ?_
        obtain ⟨x28, x28_h, _, H⟩ := bdc_inv H
        refine rqc (l := [111, 112]) ⟨⟨_, _, _, rfl, rfl, rfl, rfl⟩, rfl, fun hc => q_call rfl (.v _ _ (fun e => nomatch e)) (.v rfl (.v rfl ArgsOk.nil)) inferInstance (backflushref18_Same_c  (x28_h hc)), ⟨fun h => h, ⟨fun h => h, trivial⟩⟩⟩ rfl ?_
        refine rq rfl rfl (q_pickb rfl rfl rfl (PB.c (fun hp => hp)) PB.v) ?_
        refine rq rfl rfl (q_move rfl) ?_
        refine rqc (l := []) ⟨⟨_, _, _, rfl, rfl, rfl, rfl⟩, rfl, fun hc => q_move rfl, trivial⟩ rfl ?_
        refine rqc (l := []) ⟨⟨_, _, _, rfl, rfl, rfl, rfl⟩, rfl, fun hc => q_move rfl, trivial⟩ rfl ?_
        obtain ⟨x29, x29_h, _, H⟩ := bdc_inv H
        refine rqc (l := [116, 117]) ⟨⟨_, _, _, rfl, rfl, rfl, rfl⟩, rfl, fun hc => q_call rfl (.v _ _ (fun e => nomatch e)) (.v rfl (.v rfl ArgsOk.nil)) inferInstance (backflushref04_SameReads_c  (x29_h hc)), ⟨fun h => h, ⟨fun h => h, trivial⟩⟩⟩ rfl ?_
        refine rq rfl rfl (q_pickb rfl rfl rfl (PB.c (fun hp => hp)) PB.v) ?_
        refine rq rfl rfl (q_assign rfl) ?_
        refine run_nil ?_
        refine ev_ret ?_
        exact ret_ok [vb (bif bif bif x26 then x27 else false then x28 else false then x29 else false)] (congrArg (fun r : Bool => vb r) (Option.some.inj H)) rfl (.cons (.tmp rfl (.v _ _ (fun _ => rfl))) .nil)
def backflushlaw18_StockUsable_m (a0 : GWorld) (a1 : GLine) (a2 : GLine) (a3 : Int) (a4 : Int) : Option Bool := bd (backflushlaw18_sane_m) fun x4 => bif !x4 then (some false) else (bd (backflushref18_Few_m a0) fun x5 => bif !x5 then (some true) else (bd (stock_Usable_m a0 a1 a3 a4) fun x6 => bd (stock_Usable_m a0 a2 a3 a4) fun x7 => bd (stock_Lots_m a0 a3 a4) fun x8 => forL x6.1 (fun (k12 : Nat) (x15 : GLot) (s10 : (List (Int × Bool))) loop11 => bif bif bif bif bif bif a1.config != 0 then true else x15.item != a1.item then true else x15.plant != a1.plant then true else x15.state != 0 then true else decide (x15.expiry ≤ a3) then true else mget eqI s10 false x15.no_ then (some false) else (bdc (decide (0 < ((k12 : Nat) : Int))) (idx x6.1 (wr (((k12 : Nat) : Int) - 1))) fun x19 => bdc ((decide (0 < ((k12 : Nat) : Int))) && (!(decide (x15.expiry < x19.expiry)))) (idx x6.1 (wr (((k12 : Nat) : Int) - 1))) fun x20 => bdc (((decide (0 < ((k12 : Nat) : Int))) && (!(decide (x15.expiry < x19.expiry)))) && (x20.expiry == x15.expiry)) (idx x6.1 (wr (((k12 : Nat) : Int) - 1))) fun x21 => bif bif decide (0 < ((k12 : Nat) : Int)) then bif decide (x15.expiry < x19.expiry) then true else bif x20.expiry == x15.expiry then decide (x15.no_ < x21.no_) else false else false then (some false) else (loop11 (mput eqI s10 x15.no_ true)))) (fun (s10 : (List (Int × Bool))) => forL x7.1 (fun (k24 : Nat) (x26 : GLot) (s22 : Unit) loop23 => bif bif mget eqI s10 false x26.no_ then !(GLine.eqb a1 a2) else false then (some false) else (loop23 ())) (fun (s22 : Unit) => forL x8.1 (fun (k32 : Nat) (x34 : GLot) (s30 : Unit) loop31 => bif (bif bif bif bif a1.config == 0 then x34.item == a1.item else false then x34.plant == a1.plant else false then x34.state == 0 else false then decide (a3 < x34.expiry) else false) != (mget eqI s10 false x34.no_) then (some false) else (loop31 ())) (fun (s30 : Unit) => some (((s10.length : Nat) : Int) == ((x6.1.length : Nat) : Int))) ()) ()) ([] : List (Int × Bool))))
set_option maxHeartbeats 4000000 in
theorem backflushlaw18_StockUsable_c {a0 : GWorld} {a1 : GLine} {a2 : GLine} {a3 : Int} {a4 : Int} {r : Bool} (H : backflushlaw18_StockUsable_m a0 a1 a2 a3 a4 = some r) : PureC Try.prog true 12 [GWorld.e a0, GLine.e a1, GLine.e a2, vi a3, vi a4] (vb r) := by
  unfold backflushlaw18_StockUsable_m at H
  refine pure_intro (N := 196) Try.func12 rfl rfl rfl rfl fun C hO => ?_
  refine ev_shift (shift_mk (fs := [(0, .v false (GWorld.e a0)), (1, .v true (GLine.e a1)), (2, .v true (GLine.e a2)), (3, .v true (vi a3)), (4, .v true (vi a4))]) (es := []) ⟨⟨_, rfl, .rfl⟩, ⟨⟨_, rfl, (.flat rfl)⟩, ⟨⟨_, rfl, (.flat rfl)⟩, ⟨⟨_, rfl, (.flat rfl)⟩, ⟨⟨_, rfl, (.flat rfl)⟩, trivial⟩⟩⟩⟩⟩ trivial rfl rfl) ?_
  refine ev_seq ?_
  refine ev_region ?_
  refine re rfl (e_box 5 0 rfl rfl rfl) ?_; rintro _ ⟨b1, rfl⟩
  refine re rfl (e_box 6 0 rfl rfl rfl) ?_; rintro _ ⟨b2, rfl⟩
  refine re rfl (e_box 7 0 rfl rfl rfl) ?_; rintro _ ⟨b3, rfl⟩
  refine rq rfl rfl (q_assign rfl) ?_
  refine run_nil ?_
  refine ev_seq ?_
  refine ev_seq ?_
  refine ev_region ?_
  obtain ⟨x4, x4_h, H⟩ := bd_inv H
  refine rq rfl rfl (q_call rfl (.v _ _ (fun e => nomatch e)) ArgsOk.nil inferInstance (backflushlaw18_sane_c  x4_h)) ?_
  refine rq rfl rfl (q_not rfl) ?_
  refine run_nil ?_
  refine ev_cond rfl (fun hc => ?_) (fun hc => ?_)
  · replace H := ct hc H
    refine ev_seq ?_
    refine ev_region ?_
    refine rq rfl rfl (q_assign rfl) ?_
    refine run_nil ?_
    refine ev_ret ?_
    exact ret_ok [vb false] (congrArg (fun r : Bool => vb r) (Option.some.inj H)) rfl (.cons (.tmp rfl (.v _ _ (fun _ => rfl))) .nil)
  · replace H := cf hc H
    refine ev_skip ?_
    refine ev_seq ?_
    refine ev_seq ?_
    refine ev_region ?_
    refine rq rfl rfl (q_loadN rfl rfl rfl rfl) ?_
    obtain ⟨x5, x5_h, H⟩ := bd_inv H
    refine rq rfl rfl (q_call rfl (.v _ _ (fun e => nomatch e)) (.v rfl ArgsOk.nil) inferInstance (backflushref18_Few_c  x5_h)) ?_
    refine rq rfl rfl (q_not rfl) ?_
    refine run_nil ?_
    refine ev_cond rfl (fun hc => ?_) (fun hc => ?_)
    · replace H := ct hc H
      refine ev_seq ?_
      refine ev_region ?_
      refine rq rfl rfl (q_assign rfl) ?_
      refine run_nil ?_
      refine ev_ret ?_
      exact ret_ok [vb true] (congrArg (fun r : Bool => vb r) (Option.some.inj H)) rfl (.cons (.tmp rfl (.v _ _ (fun _ => rfl))) .nil)
    · replace H := cf hc H
      refine ev_skip ?_
      refine ev_seq ?_
      refine ev_region ?_
      refine rq rfl rfl (q_loadN rfl rfl rfl rfl) ?_
      refine rq rfl rfl (q_loadN rfl rfl rfl rfl) ?_
      refine rq rfl rfl (q_move rfl) ?_
      refine rq rfl rfl (q_move rfl) ?_
      obtain ⟨x6, x6_h, H⟩ := bd_inv H
      refine rq rfl rfl (q_call rfl (.v _ _ (fun e => nomatch e)) (.v rfl (.v rfl (.v rfl (.v rfl ArgsOk.nil)))) inferInstance (stock_Usable_c  x6_h)) ?_
      refine rq rfl rfl (q_move rfl) ?_
      refine rq rfl rfl (q_extract rfl rfl) ?_
      refine rq rfl rfl (q_extract rfl rfl) ?_
      refine rq rfl rfl (q_assign rfl) ?_
      refine rq rfl rfl (q_assign rfl) ?_
      refine run_nil ?_
      refine ev_seq ?_
      refine ev_region ?_
      refine rq rfl rfl (q_loadN rfl rfl rfl rfl) ?_
      refine rq rfl rfl (q_loadN rfl rfl rfl rfl) ?_
      refine rq rfl rfl (q_move rfl) ?_
      refine rq rfl rfl (q_move rfl) ?_
      obtain ⟨x7, x7_h, H⟩ := bd_inv H
      refine rq rfl rfl (q_call rfl (.v _ _ (fun e => nomatch e)) (.v rfl (.v rfl (.v rfl (.v rfl ArgsOk.nil)))) inferInstance (stock_Usable_c  x7_h)) ?_
      refine rq rfl rfl (q_move rfl) ?_
      refine rq rfl rfl (q_extract rfl rfl) ?_
      refine rq rfl rfl (q_extract rfl rfl) ?_
      refine rq rfl rfl (q_assign rfl) ?_
      refine rq rfl rfl (q_assign rfl) ?_
      refine run_nil ?_
      refine ev_seq ?_
      refine ev_region ?_
      refine rq rfl rfl (q_loadN rfl rfl rfl rfl) ?_
      refine rq rfl rfl (q_move rfl) ?_
      refine rq rfl rfl (q_move rfl) ?_
      obtain ⟨x8, x8_h, H⟩ := bd_inv H
      refine rq rfl rfl (q_call rfl (.v _ _ (fun e => nomatch e)) (.v rfl (.v rfl (.v rfl ArgsOk.nil))) inferInstance (stock_Lots_c  x8_h)) ?_
      refine rq rfl rfl (q_move rfl) ?_
      refine rq rfl rfl (q_extract rfl rfl) ?_
      refine rq rfl rfl (q_extract rfl rfl) ?_
      refine rq rfl rfl (q_assign rfl) ?_
      refine rq rfl rfl (q_assign rfl) ?_
      refine run_nil ?_
      refine ev_seq ?_
      refine ev_region ?_
      refine re rfl (e_makeMap 53 0 rfl) ?_; rintro _ ⟨b9, rfl⟩
      refine rq rfl rfl (q_assign rfl) ?_
      refine run_nil ?_
      refine ev_seq ?_
      refine ev_seq ?_
      refine ev_region ?_
      refine rq rfl rfl (q_move rfl) ?_
      refine rq rfl rfl (q_len_t rfl) ?_
      refine rq rfl rfl (q_move rfl) ?_
      refine run_nil ?_
      refine ev_block ?_
      refine ev_len_l (s := 11) rfl fun w17 => ?_
      rw [List.length_map] at w17
      refine ev_forL H (fun k12 s10 σ' => σ' = mkS [(3, .v true (vi a3)), (6, .p 6 0 b2 0), (7, .p 7 0 b3 0), (10, .v true (vb false)), (11, .v true (V.l 6 (List.map GLot.e x6.1))), (13, .v true (V.l 6 (List.map GLot.e x7.1))), (15, .v true (V.l 6 (List.map GLot.e x8.1))), (17, .m 53 0 b9), (54, .v true (V.l 6 (List.map GLot.e x6.1))), (55, .v true (vi ((x6.1.length : Nat) : Int))), (56, .v true (vi ((k12 : Nat) : Int)))] [.e 6 0 (some (b2, 3)) (.row 77 [.v true (vi a1.item), .v true (vi a1.plant), .v true (vi a1.config)]), .e 7 0 (some (b3, 3)) (.row 77 [.v true (vi a2.item), .v true (vi a2.plant), .v true (vi a2.config)]), .e 53 0 (some (b9, 0)) (.mp true false (encM vi vb s10))] [] (0, false)) ⟨_, rfl, shift_mk ⟨⟨_, rfl, (.flat rfl)⟩, ⟨⟨_, rfl, .rfl⟩, ⟨⟨_, rfl, .rfl⟩, ⟨⟨_, rfl, (.flat rfl)⟩, ⟨⟨_, rfl, .rfl⟩, ⟨⟨_, rfl, .rfl⟩, ⟨⟨_, rfl, .rfl⟩, ⟨⟨_, rfl, .rfl⟩, ⟨⟨_, rfl, .rfl⟩, ⟨⟨_, rfl, (.flat rfl)⟩, ⟨⟨_, rfl, .rfl⟩, trivial⟩⟩⟩⟩⟩⟩⟩⟩⟩⟩⟩ ⟨(.w rfl (.cons (.flat rfl) (.cons (.flat rfl) (.cons (.flat rfl) .nil)))), ⟨(.w rfl (.cons (.flat rfl) (.cons (.flat rfl) (.cons (.flat rfl) .nil)))), ⟨(.e rfl), trivial⟩⟩⟩ rfl rfl⟩ ?_
      rintro k12 s10 _ rfl _ H
      refine ev_seq ?_
      refine ev_region ?_
      refine rq rfl rfl (q_lss rfl rfl) ?_
      refine run_nil ?_
      refine ev_seq ?_
      refine ev_cond rfl (fun hc => ?_) (fun hc => ?_)
      · obtain ⟨x15, w16, x15_g, H⟩ := forL_in hc H
        have x15_h : idx x6.1 ((k12 : Nat) : Int) = some x15 := by rw [idx_nat]; exact x15_g
        refine ev_skip ?_
        refine ev_seq ?_
        refine ev_block ?_
        refine ev_seq ?_
        refine ev_region ?_
        refine rq rfl rfl (q_move rfl) ?_
        refine rq rfl rfl (q_idx_l rfl rfl (idx_inv x15_h).1 (map_get (idx_inv x15_h).2.1) rfl) ?_
        refine rq rfl rfl (q_load_e rfl rfl rfl) ?_
        refine re rfl (e_alloc 19 0 rfl rfl) ?_; rintro _ ⟨b18, rfl⟩
        refine rq rfl rfl (q_assign rfl) ?_
        refine re rfl (e_store rfl rfl rfl rfl rfl (Nat.le_of_ble_eq_true rfl) rfl) ?_; rintro _ rfl
        refine run_nil ?_
        refine ev_seq ?_
        refine ev_seq ?_
        refine ev_region ?_
        refine rq rfl rfl (q_fld_p rfl) ?_
        refine rq rfl rfl (q_load1 rfl rfl rfl) ?_
        refine rq rfl rfl (q_nei rfl rfl) ?_
        refine rq rfl rfl (q_move rfl) ?_
        refine rqc (l := []) ⟨⟨_, _, _, rfl, rfl, rfl, rfl⟩, rfl, fun hc => q_fld_p rfl, trivial⟩ rfl ?_
        refine rqc (l := [65]) ⟨⟨_, _, _, rfl, rfl, rfl, rfl⟩, rfl, fun hc => q_load1 rfl rfl rfl, ⟨fun h => h, trivial⟩⟩ rfl ?_
        refine rqc (l := []) ⟨⟨_, _, _, rfl, rfl, rfl, rfl⟩, rfl, fun hc => q_fld_p rfl, trivial⟩ rfl ?_
        refine rqc (l := [67]) ⟨⟨_, _, _, rfl, rfl, rfl, rfl⟩, rfl, fun hc => q_load1 rfl rfl rfl, ⟨fun h => h, trivial⟩⟩ rfl ?_
        refine rqc (l := [66, 68]) ⟨⟨_, _, _, rfl, rfl, rfl, rfl⟩, rfl, fun hc => q_nei rfl rfl, ⟨fun h => h, ⟨fun h => h, trivial⟩⟩⟩ rfl ?_
        refine rq rfl rfl (q_pickb rfl rfl rfl PB.v (PB.c (fun hp => by rw [hp]; rfl))) ?_
        refine rq rfl rfl (q_move rfl) ?_
        refine rqc (l := []) ⟨⟨_, _, _, rfl, rfl, rfl, rfl⟩, rfl, fun hc => q_fld_p rfl, trivial⟩ rfl ?_
        refine rqc (l := [72]) ⟨⟨_, _, _, rfl, rfl, rfl, rfl⟩, rfl, fun hc => q_load1 rfl rfl rfl, ⟨fun h => h, trivial⟩⟩ rfl ?_
        refine rqc (l := []) ⟨⟨_, _, _, rfl, rfl, rfl, rfl⟩, rfl, fun hc => q_fld_p rfl, trivial⟩ rfl ?_
        refine rqc (l := [74]) ⟨⟨_, _, _, rfl, rfl, rfl, rfl⟩, rfl, fun hc => q_load1 rfl rfl rfl, ⟨fun h => h, trivial⟩⟩ rfl ?_
        refine rqc (l := [73, 75]) ⟨⟨_, _, _, rfl, rfl, rfl, rfl⟩, rfl, fun hc => q_nei rfl rfl, ⟨fun h => h, ⟨fun h => h, trivial⟩⟩⟩ rfl ?_
        refine rq rfl rfl (q_pickb rfl rfl rfl PB.v (PB.c (fun hp => by rw [hp]; rfl))) ?_
        refine rq rfl rfl (q_move rfl) ?_
        refine rqc (l := []) ⟨⟨_, _, _, rfl, rfl, rfl, rfl⟩, rfl, fun hc => q_fld_p rfl, trivial⟩ rfl ?_
        refine rqc (l := [79]) ⟨⟨_, _, _, rfl, rfl, rfl, rfl⟩, rfl, fun hc => q_load1 rfl rfl rfl, ⟨fun h => h, trivial⟩⟩ rfl ?_
        refine rqc (l := [80]) ⟨⟨_, _, _, rfl, rfl, rfl, rfl⟩, rfl, fun hc => q_nei rfl rfl, ⟨fun h => h, trivial⟩⟩ rfl ?_
        refine rq rfl rfl (q_pickb rfl rfl rfl PB.v (PB.c (fun hp => by rw [hp]; rfl))) ?_
        refine rq rfl rfl (q_move rfl) ?_
        refine rqc (l := []) ⟨⟨_, _, _, rfl, rfl, rfl, rfl⟩, rfl, fun hc => q_fld_p rfl, trivial⟩ rfl ?_
        refine rqc (l := [84]) ⟨⟨_, _, _, rfl, rfl, rfl, rfl⟩, rfl, fun hc => q_load1 rfl rfl rfl, ⟨fun h => h, trivial⟩⟩ rfl ?_
        refine rqc (l := []) ⟨⟨_, _, _, rfl, rfl, rfl, rfl⟩, rfl, fun hc => q_move rfl, trivial⟩ rfl ?_
        refine rqc (l := [85, 86]) ⟨⟨_, _, _, rfl, rfl, rfl, rfl⟩, rfl, fun hc => q_leq rfl rfl, ⟨fun h => h, ⟨fun h => h, trivial⟩⟩⟩ rfl ?_
        refine rq rfl rfl (q_pickb rfl rfl rfl PB.v (PB.c (fun hp => by rw [hp]; rfl))) ?_
        refine rq rfl rfl (q_move rfl) ?_
        refine rqc (l := []) ⟨⟨_, _, _, rfl, rfl, rfl, rfl⟩, rfl, fun hc => q_move rfl, trivial⟩ rfl ?_
        refine rqc (l := []) ⟨⟨_, _, _, rfl, rfl, rfl, rfl⟩, rfl, fun hc => q_fld_p rfl, trivial⟩ rfl ?_
        refine rqc (l := [91]) ⟨⟨_, _, _, rfl, rfl, rfl, rfl⟩, rfl, fun hc => q_load1 rfl rfl rfl, ⟨fun h => h, trivial⟩⟩ rfl ?_
        refine rqc (l := [90, 92]) ⟨⟨_, _, _, rfl, rfl, rfl, rfl⟩, rfl, fun hc => q_mget (EK := vi) (EV := vb) (eq := eqI) (xs := s10) (z := false) rfl rfl rfl eqv_int (fun _ => ⟨rfl, rfl, rfl⟩) rfl rfl, ⟨fun h => h, ⟨fun h => h, trivial⟩⟩⟩ rfl ?_
        refine rq rfl rfl (q_pickb rfl rfl rfl PB.v (PB.c (fun hp => by rw [hp]; rfl))) ?_
        refine run_nil ?_
        refine ev_cond rfl (fun hc => ?_) (fun hc => ?_)
        · replace H := ct hc H
          refine ev_seq ?_
          refine ev_region ?_
          refine rq rfl rfl (q_assign rfl) ?_
          refine run_nil ?_
          refine ev_ret ?_
          exact ret_ok [vb false] (congrArg (fun r : Bool => vb r) (Option.some.inj H)) rfl (.cons (.tmp rfl (.v _ _ (fun _ => rfl))) .nil)
        · replace H := cf hc H
          refine ev_skip ?_
          refine ev_seq ?_
          refine ev_region ?_
          refine rq rfl rfl (q_move rfl) ?_
          refine rq rfl rfl (q_fld_p rfl) ?_
          refine rq rfl rfl (q_load1 rfl rfl rfl) ?_
          refine re rfl (e_mput (EK := vi) (EV := vb) (eq := eqI) (xs := s10) (e := true) rfl rfl rfl rfl eqv_int (fun _ => ⟨rfl, rfl, rfl⟩) (fun _ => rfl) rfl) ?_; rintro _ rfl
          refine run_nil ?_
          refine ev_seq ?_
          obtain ⟨x19, x19_h, _, H⟩ := bdc_inv H
          obtain ⟨x20, x20_h, _, H⟩ := bdc_inv H
          obtain ⟨x21, x21_h, _, H⟩ := bdc_inv H
          refine ev_draw rfl (by kernel_rfl) ?_
          refine qq rfl rfl (q_move rfl) ?_
          refine qq rfl rfl (q_gtr rfl rfl) ?_
          refine qq rfl rfl (q_move rfl) ?_
          refine qc (l := []) ⟨⟨_, _, _, rfl, rfl, rfl, rfl⟩, rfl, fun hc => q_move rfl, trivial⟩ rfl rfl ?_
          refine qc (l := []) ⟨⟨_, _, _, rfl, rfl, rfl, rfl⟩, rfl, fun hc => q_move rfl, trivial⟩ rfl rfl ?_
          refine qc (l := [102]) ⟨⟨_, _, _, rfl, rfl, rfl, rfl⟩, rfl, fun hc => q_sub rfl rfl, ⟨fun h => h, trivial⟩⟩ rfl rfl ?_
          refine qc (l := [101, 103]) ⟨⟨_, _, _, rfl, rfl, rfl, rfl⟩, rfl, fun hc => q_idx_l rfl rfl (idx_inv (x19_h hc)).1 (map_get (idx_inv (x19_h hc)).2.1) rfl, ⟨fun h => h, ⟨fun h => h, trivial⟩⟩⟩ rfl rfl ?_
          refine qc (l := [104]) ⟨⟨_, _, _, rfl, rfl, rfl, rfl⟩, rfl, fun hc => q_fld_q rfl, ⟨fun h => h, trivial⟩⟩ rfl rfl ?_
          refine qc (l := [105]) ⟨⟨_, _, _, rfl, rfl, rfl, rfl⟩, rfl, fun hc => q_load1_q rfl, ⟨fun h => h, trivial⟩⟩ rfl rfl ?_
          refine qc (l := []) ⟨⟨_, _, _, rfl, rfl, rfl, rfl⟩, rfl, fun hc => q_fld_p rfl, trivial⟩ rfl rfl ?_
          refine qc (l := [107]) ⟨⟨_, _, _, rfl, rfl, rfl, rfl⟩, rfl, fun hc => q_load1 rfl rfl rfl, ⟨fun h => h, trivial⟩⟩ rfl rfl ?_
          refine qc (l := [106, 108]) ⟨⟨_, _, _, rfl, rfl, rfl, rfl⟩, rfl, fun hc => q_gtr rfl rfl, ⟨fun h => h, ⟨fun h => h, trivial⟩⟩⟩ rfl rfl ?_
          refine qc (l := [109]) ⟨⟨_, _, _, rfl, rfl, rfl, rfl⟩, rfl, fun hc => q_move rfl, ⟨fun h => h, trivial⟩⟩ rfl rfl ?_
          refine qc (l := []) ⟨⟨_, _, _, rfl, rfl, rfl, rfl⟩, rfl, fun hc => q_move rfl, trivial⟩ rfl rfl ?_
          refine qc (l := []) ⟨⟨_, _, _, rfl, rfl, rfl, rfl⟩, rfl, fun hc => q_move rfl, trivial⟩ rfl rfl ?_
          refine qc (l := [112]) ⟨⟨_, _, _, rfl, rfl, rfl, rfl⟩, rfl, fun hc => q_sub rfl rfl, ⟨fun h => h, trivial⟩⟩ rfl rfl ?_
          refine qc (l := [111, 113]) ⟨⟨_, _, _, rfl, rfl, rfl, rfl⟩, rfl, fun hc => q_idx_l rfl rfl (idx_inv (x20_h hc)).1 (map_get (idx_inv (x20_h hc)).2.1) rfl, ⟨fun h => h, ⟨fun h => h, trivial⟩⟩⟩ rfl rfl ?_
          refine qc (l := [114]) ⟨⟨_, _, _, rfl, rfl, rfl, rfl⟩, rfl, fun hc => q_fld_q rfl, ⟨fun h => h, trivial⟩⟩ rfl rfl ?_
          refine qc (l := [115]) ⟨⟨_, _, _, rfl, rfl, rfl, rfl⟩, rfl, fun hc => q_load1_q rfl, ⟨fun h => h, trivial⟩⟩ rfl rfl ?_
          refine qc (l := []) ⟨⟨_, _, _, rfl, rfl, rfl, rfl⟩, rfl, fun hc => q_fld_p rfl, trivial⟩ rfl rfl ?_
          refine qc (l := [117]) ⟨⟨_, _, _, rfl, rfl, rfl, rfl⟩, rfl, fun hc => q_load1 rfl rfl rfl, ⟨fun h => h, trivial⟩⟩ rfl rfl ?_
          refine qc (l := [116, 118]) ⟨⟨_, _, _, rfl, rfl, rfl, rfl⟩, rfl, fun hc => q_eqi rfl rfl, ⟨fun h => h, ⟨fun h => h, trivial⟩⟩⟩ rfl rfl ?_
          refine qc (l := [119]) ⟨⟨_, _, _, rfl, rfl, rfl, rfl⟩, rfl, fun hc => q_move rfl, ⟨fun h => h, trivial⟩⟩ rfl rfl ?_
          refine qc (l := []) ⟨⟨_, _, _, rfl, rfl, rfl, rfl⟩, rfl, fun hc => q_move rfl, trivial⟩ rfl rfl ?_
          refine qc (l := []) ⟨⟨_, _, _, rfl, rfl, rfl, rfl⟩, rfl, fun hc => q_move rfl, trivial⟩ rfl rfl ?_
          refine qc (l := [122]) ⟨⟨_, _, _, rfl, rfl, rfl, rfl⟩, rfl, fun hc => q_sub rfl rfl, ⟨fun h => h, trivial⟩⟩ rfl rfl ?_
          refine qc (l := [121, 123]) ⟨⟨_, _, _, rfl, rfl, rfl, rfl⟩, rfl, fun hc => q_idx_l rfl rfl (idx_inv (x21_h hc)).1 (map_get (idx_inv (x21_h hc)).2.1) rfl, ⟨fun h => h, ⟨fun h => h, trivial⟩⟩⟩ rfl rfl ?_
          refine qc (l := [124]) ⟨⟨_, _, _, rfl, rfl, rfl, rfl⟩, rfl, fun hc => q_fld_q rfl, ⟨fun h => h, trivial⟩⟩ rfl rfl ?_
          refine qc (l := [125]) ⟨⟨_, _, _, rfl, rfl, rfl, rfl⟩, rfl, fun hc => q_load1_q rfl, ⟨fun h => h, trivial⟩⟩ rfl rfl ?_
          refine qc (l := []) ⟨⟨_, _, _, rfl, rfl, rfl, rfl⟩, rfl, fun hc => q_fld_p rfl, trivial⟩ rfl rfl ?_
          refine qc (l := [127]) ⟨⟨_, _, _, rfl, rfl, rfl, rfl⟩, rfl, fun hc => q_load1 rfl rfl rfl, ⟨fun h => h, trivial⟩⟩ rfl rfl ?_
          refine qc (l := [126, 128]) ⟨⟨_, _, _, rfl, rfl, rfl, rfl⟩, rfl, fun hc => q_gtr rfl rfl, ⟨fun h => h, ⟨fun h => h, trivial⟩⟩⟩ rfl rfl ?_
          refine qc (l := [120]) ⟨⟨_, _, _, rfl, rfl, rfl, rfl⟩, rfl, fun hc => q_pickb rfl rfl rfl (PB.c (fun hp => by simp_all)) PB.v, ⟨fun h => h, trivial⟩⟩ rfl rfl ?_
          refine qc (l := [110]) ⟨⟨_, _, _, rfl, rfl, rfl, rfl⟩, rfl, fun hc => q_pickb rfl rfl rfl PB.v (PB.c (fun hp => by simp_all)), ⟨fun h => h, trivial⟩⟩ rfl rfl ?_
          refine qq rfl rfl (q_pickb rfl rfl rfl (PB.c (fun hp => hp)) PB.v) ?_
          refine qn ?_
          refine ev_cond rfl (fun hc => ?_) (fun hc => ?_)
          · replace H := ct hc H
            refine ev_seq ?_
            refine ev_region ?_
            refine rq rfl rfl (q_assign rfl) ?_
            refine run_nil ?_
            refine ev_ret ?_
            exact ret_ok [vb false] (congrArg (fun r : Bool => vb r) (Option.some.inj H)) rfl (.cons (.tmp rfl (.v _ _ (fun _ => rfl))) .nil)
          · replace H := cf hc H
            refine ev_skip ?_
            refine ev_region ?_
            refine rq rfl rfl (q_add rfl rfl) ?_
            refine rq rfl rfl (q_move rfl) ?_
            refine run_nil ?_
            exact ⟨_, _, w16, H, rfl, shift_mk ⟨⟨_, rfl, (.flat rfl)⟩, ⟨⟨_, rfl, .rfl⟩, ⟨⟨_, rfl, .rfl⟩, ⟨⟨_, rfl, (.flat rfl)⟩, ⟨⟨_, rfl, .rfl⟩, ⟨⟨_, rfl, .rfl⟩, ⟨⟨_, rfl, .rfl⟩, ⟨⟨_, rfl, .rfl⟩, ⟨⟨_, rfl, .rfl⟩, ⟨⟨_, rfl, (.flat rfl)⟩, ⟨⟨_, rfl, (.eq (congrArg (fun n => D.v true (vi n)) (wrap_succ w16 w17)))⟩, trivial⟩⟩⟩⟩⟩⟩⟩⟩⟩⟩⟩ ⟨(.w rfl (.cons (.flat rfl) (.cons (.flat rfl) (.cons (.flat rfl) .nil)))), ⟨(.w rfl (.cons (.flat rfl) (.cons (.flat rfl) (.cons (.flat rfl) .nil)))), ⟨(.e rfl), trivial⟩⟩⟩ rfl rfl⟩
      · replace H := forL_out hc H
        refine ev_exit ?_
        refine ev_seq ?_
        refine ev_seq ?_
        refine ev_region ?_
        refine rq rfl rfl (q_move rfl) ?_
        refine rq rfl rfl (q_len_t rfl) ?_
        refine rq rfl rfl (q_move rfl) ?_
        refine run_nil ?_
        refine ev_block ?_
        refine ev_len_l (s := 134) rfl fun w28 => ?_
        rw [List.length_map] at w28
        refine ev_forL H (fun k24 s22 σ' => σ' = mkS [(3, .v true (vi a3)), (6, .p 6 0 b2 0), (7, .p 7 0 b3 0), (10, .v true (vb false)), (11, .v true (V.l 6 (List.map GLot.e x6.1))), (15, .v true (V.l 6 (List.map GLot.e x8.1))), (17, .m 53 0 b9), (134, .v true (V.l 6 (List.map GLot.e x7.1))), (135, .v true (vi ((x7.1.length : Nat) : Int))), (136, .v true (vi ((k24 : Nat) : Int)))] [.e 6 0 (some (b2, 3)) (.row 77 [.v true (vi a1.item), .v true (vi a1.plant), .v true (vi a1.config)]), .e 7 0 (some (b3, 3)) (.row 77 [.v true (vi a2.item), .v true (vi a2.plant), .v true (vi a2.config)]), .e 53 0 (some (b9, 0)) (.mp true false (encM vi vb s10))] [] (0, false)) ⟨_, rfl, shift_mk ⟨⟨_, rfl, (.flat rfl)⟩, ⟨⟨_, rfl, .rfl⟩, ⟨⟨_, rfl, .rfl⟩, ⟨⟨_, rfl, (.flat rfl)⟩, ⟨⟨_, rfl, .rfl⟩, ⟨⟨_, rfl, .rfl⟩, ⟨⟨_, rfl, .rfl⟩, ⟨⟨_, rfl, .rfl⟩, ⟨⟨_, rfl, (.flat rfl)⟩, ⟨⟨_, rfl, .rfl⟩, trivial⟩⟩⟩⟩⟩⟩⟩⟩⟩⟩ ⟨(.w rfl (.cons (.flat rfl) (.cons (.flat rfl) (.cons (.flat rfl) .nil)))), ⟨(.w rfl (.cons (.flat rfl) (.cons (.flat rfl) (.cons (.flat rfl) .nil)))), ⟨(.e rfl), trivial⟩⟩⟩ rfl rfl⟩ ?_
        rintro k24 s22 _ rfl _ H
        refine ev_seq ?_
        refine ev_region ?_
        refine rq rfl rfl (q_lss rfl rfl) ?_
        refine run_nil ?_
        refine ev_seq ?_
        refine ev_cond rfl (fun hc => ?_) (fun hc => ?_)
        · obtain ⟨x26, w27, x26_g, H⟩ := forL_in hc H
          have x26_h : idx x7.1 ((k24 : Nat) : Int) = some x26 := by rw [idx_nat]; exact x26_g
          refine ev_skip ?_
          refine ev_seq ?_
          refine ev_block ?_
          refine ev_seq ?_
          refine ev_region ?_
          refine rq rfl rfl (q_idx_l rfl rfl (idx_inv x26_h).1 (map_get (idx_inv x26_h).2.1) rfl) ?_
          refine rq rfl rfl (q_load_e rfl rfl rfl) ?_
          refine re rfl (e_alloc 21 0 rfl rfl) ?_; rintro _ ⟨b29, rfl⟩
          refine re rfl (e_store rfl rfl rfl rfl rfl (Nat.le_of_ble_eq_true rfl) rfl) ?_; rintro _ rfl
          refine run_nil ?_
          refine ev_seq ?_
          refine ev_region ?_
          refine rq rfl rfl (q_move rfl) ?_
          refine rq rfl rfl (q_fld_p rfl) ?_
          refine rq rfl rfl (q_load1 rfl rfl rfl) ?_
          refine rq rfl rfl (q_mget (EK := vi) (EV := vb) (eq := eqI) (xs := s10) (z := false) rfl rfl rfl eqv_int (fun _ => ⟨rfl, rfl, rfl⟩) rfl rfl) ?_
          refine rq rfl rfl (q_move rfl) ?_
          refine rqc (l := []) ⟨⟨_, _, _, rfl, rfl, rfl, rfl⟩, rfl, fun hc => q_loadN rfl rfl rfl rfl, trivial⟩ rfl ?_
          refine rqc (l := []) ⟨⟨_, _, _, rfl, rfl, rfl, rfl⟩, rfl, fun hc => q_loadN rfl rfl rfl rfl, trivial⟩ rfl ?_
          refine rqc (l := [145, 146]) ⟨⟨_, _, _, rfl, rfl, rfl, rfl⟩, rfl, fun hc => q_nes rfl rfl (r := GLine.eqb a1 a2) rfl, ⟨fun h => h, ⟨fun h => h, trivial⟩⟩⟩ rfl ?_
          refine rq rfl rfl (q_pickb rfl rfl rfl (PB.c (fun hp => hp)) PB.v) ?_
          refine run_nil ?_
          refine ev_cond rfl (fun hc => ?_) (fun hc => ?_)
          · replace H := ct hc H
            refine ev_seq ?_
            refine ev_region ?_
            refine rq rfl rfl (q_assign rfl) ?_
            refine run_nil ?_
            refine ev_ret ?_
            exact ret_ok [vb false] (congrArg (fun r : Bool => vb r) (Option.some.inj H)) rfl (.cons (.tmp rfl (.v _ _ (fun _ => rfl))) .nil)
          · replace H := cf hc H
            refine ev_skip ?_
            refine ev_region ?_
            refine rq rfl rfl (q_add rfl rfl) ?_
            refine rq rfl rfl (q_move rfl) ?_
            refine run_nil ?_
            exact ⟨_, _, w27, H, rfl, shift_mk ⟨⟨_, rfl, (.flat rfl)⟩, ⟨⟨_, rfl, .rfl⟩, ⟨⟨_, rfl, .rfl⟩, ⟨⟨_, rfl, (.flat rfl)⟩, ⟨⟨_, rfl, .rfl⟩, ⟨⟨_, rfl, .rfl⟩, ⟨⟨_, rfl, .rfl⟩, ⟨⟨_, rfl, .rfl⟩, ⟨⟨_, rfl, (.flat rfl)⟩, ⟨⟨_, rfl, (.eq (congrArg (fun n => D.v true (vi n)) (wrap_succ w27 w28)))⟩, trivial⟩⟩⟩⟩⟩⟩⟩⟩⟩⟩ ⟨(.w rfl (.cons (.flat rfl) (.cons (.flat rfl) (.cons (.flat rfl) .nil)))), ⟨(.w rfl (.cons (.flat rfl) (.cons (.flat rfl) (.cons (.flat rfl) .nil)))), ⟨(.e rfl), trivial⟩⟩⟩ rfl rfl⟩
        · replace H := forL_out hc H
          refine ev_exit ?_
          refine ev_seq ?_
          refine ev_seq ?_
          refine ev_region ?_
          refine rq rfl rfl (q_move rfl) ?_
          refine rq rfl rfl (q_len_t rfl) ?_
          refine rq rfl rfl (q_move rfl) ?_
          refine run_nil ?_
          refine ev_block ?_
          refine ev_len_l (s := 150) rfl fun w36 => ?_
          rw [List.length_map] at w36
          refine ev_forL H (fun k32 s30 σ' => σ' = mkS [(3, .v true (vi a3)), (6, .p 6 0 b2 0), (10, .v true (vb false)), (11, .v true (V.l 6 (List.map GLot.e x6.1))), (17, .m 53 0 b9), (150, .v true (V.l 6 (List.map GLot.e x8.1))), (151, .v true (vi ((x8.1.length : Nat) : Int))), (152, .v true (vi ((k32 : Nat) : Int)))] [.e 6 0 (some (b2, 3)) (.row 77 [.v true (vi a1.item), .v true (vi a1.plant), .v true (vi a1.config)]), .e 53 0 (some (b9, 0)) (.mp true false (encM vi vb s10))] [] (0, false)) ⟨_, rfl, shift_mk ⟨⟨_, rfl, (.flat rfl)⟩, ⟨⟨_, rfl, .rfl⟩, ⟨⟨_, rfl, (.flat rfl)⟩, ⟨⟨_, rfl, .rfl⟩, ⟨⟨_, rfl, .rfl⟩, ⟨⟨_, rfl, .rfl⟩, ⟨⟨_, rfl, (.flat rfl)⟩, ⟨⟨_, rfl, .rfl⟩, trivial⟩⟩⟩⟩⟩⟩⟩⟩ ⟨(.w rfl (.cons (.flat rfl) (.cons (.flat rfl) (.cons (.flat rfl) .nil)))), ⟨(.e rfl), trivial⟩⟩ rfl rfl⟩ ?_
          rintro k32 s30 _ rfl _ H
          refine ev_seq ?_
          refine ev_region ?_
          refine rq rfl rfl (q_lss rfl rfl) ?_
          refine run_nil ?_
          refine ev_seq ?_
          refine ev_cond rfl (fun hc => ?_) (fun hc => ?_)
          · obtain ⟨x34, w35, x34_g, H⟩ := forL_in hc H
            have x34_h : idx x8.1 ((k32 : Nat) : Int) = some x34 := by rw [idx_nat]; exact x34_g
            refine ev_skip ?_
            refine ev_seq ?_
            refine ev_block ?_
            refine ev_seq ?_
            refine ev_region ?_
            refine rq rfl rfl (q_idx_l rfl rfl (idx_inv x34_h).1 (map_get (idx_inv x34_h).2.1) rfl) ?_
            refine rq rfl rfl (q_load_e rfl rfl rfl) ?_
            refine re rfl (e_alloc 23 0 rfl rfl) ?_; rintro _ ⟨b37, rfl⟩
            refine re rfl (e_store rfl rfl rfl rfl rfl (Nat.le_of_ble_eq_true rfl) rfl) ?_; rintro _ rfl
            refine run_nil ?_
            refine ev_seq ?_
            refine ev_region ?_
            refine rq rfl rfl (q_fld_p rfl) ?_
            refine rq rfl rfl (q_load1 rfl rfl rfl) ?_
            refine rq rfl rfl (q_eqi rfl rfl) ?_
            refine rq rfl rfl (q_move rfl) ?_
            refine rqc (l := []) ⟨⟨_, _, _, rfl, rfl, rfl, rfl⟩, rfl, fun hc => q_fld_p rfl, trivial⟩ rfl ?_
            refine rqc (l := [160]) ⟨⟨_, _, _, rfl, rfl, rfl, rfl⟩, rfl, fun hc => q_load1 rfl rfl rfl, ⟨fun h => h, trivial⟩⟩ rfl ?_
            refine rqc (l := []) ⟨⟨_, _, _, rfl, rfl, rfl, rfl⟩, rfl, fun hc => q_fld_p rfl, trivial⟩ rfl ?_
            refine rqc (l := [162]) ⟨⟨_, _, _, rfl, rfl, rfl, rfl⟩, rfl, fun hc => q_load1 rfl rfl rfl, ⟨fun h => h, trivial⟩⟩ rfl ?_
            refine rqc (l := [161, 163]) ⟨⟨_, _, _, rfl, rfl, rfl, rfl⟩, rfl, fun hc => q_eqi rfl rfl, ⟨fun h => h, ⟨fun h => h, trivial⟩⟩⟩ rfl ?_
            refine rq rfl rfl (q_pickb rfl rfl rfl (PB.c (fun hp => hp)) PB.v) ?_
            refine rq rfl rfl (q_move rfl) ?_
            refine rqc (l := []) ⟨⟨_, _, _, rfl, rfl, rfl, rfl⟩, rfl, fun hc => q_fld_p rfl, trivial⟩ rfl ?_
            refine rqc (l := [167]) ⟨⟨_, _, _, rfl, rfl, rfl, rfl⟩, rfl, fun hc => q_load1 rfl rfl rfl, ⟨fun h => h, trivial⟩⟩ rfl ?_
            refine rqc (l := []) ⟨⟨_, _, _, rfl, rfl, rfl, rfl⟩, rfl, fun hc => q_fld_p rfl, trivial⟩ rfl ?_
            refine rqc (l := [169]) ⟨⟨_, _, _, rfl, rfl, rfl, rfl⟩, rfl, fun hc => q_load1 rfl rfl rfl, ⟨fun h => h, trivial⟩⟩ rfl ?_
            refine rqc (l := [168, 170]) ⟨⟨_, _, _, rfl, rfl, rfl, rfl⟩, rfl, fun hc => q_eqi rfl rfl, ⟨fun h => h, ⟨fun h => h, trivial⟩⟩⟩ rfl ?_
            refine rq rfl rfl (q_pickb rfl rfl rfl (PB.c (fun hp => hp)) PB.v) ?_
            refine rq rfl rfl (q_move rfl) ?_
            refine rqc (l := []) ⟨⟨_, _, _, rfl, rfl, rfl, rfl⟩, rfl, fun hc => q_fld_p rfl, trivial⟩ rfl ?_
            refine rqc (l := [174]) ⟨⟨_, _, _, rfl, rfl, rfl, rfl⟩, rfl, fun hc => q_load1 rfl rfl rfl, ⟨fun h => h, trivial⟩⟩ rfl ?_
            refine rqc (l := [175]) ⟨⟨_, _, _, rfl, rfl, rfl, rfl⟩, rfl, fun hc => q_eqi rfl rfl, ⟨fun h => h, trivial⟩⟩ rfl ?_
            refine rq rfl rfl (q_pickb rfl rfl rfl (PB.c (fun hp => hp)) PB.v) ?_
            refine rq rfl rfl (q_move rfl) ?_
            refine rqc (l := []) ⟨⟨_, _, _, rfl, rfl, rfl, rfl⟩, rfl, fun hc => q_fld_p rfl, trivial⟩ rfl ?_
            refine rqc (l := [179]) ⟨⟨_, _, _, rfl, rfl, rfl, rfl⟩, rfl, fun hc => q_load1 rfl rfl rfl, ⟨fun h => h, trivial⟩⟩ rfl ?_
            refine rqc (l := []) ⟨⟨_, _, _, rfl, rfl, rfl, rfl⟩, rfl, fun hc => q_move rfl, trivial⟩ rfl ?_
            refine rqc (l := [180, 181]) ⟨⟨_, _, _, rfl, rfl, rfl, rfl⟩, rfl, fun hc => q_gtr rfl rfl, ⟨fun h => h, ⟨fun h => h, trivial⟩⟩⟩ rfl ?_
            refine rq rfl rfl (q_pickb rfl rfl rfl (PB.c (fun hp => hp)) PB.v) ?_
            refine rq rfl rfl (q_assign rfl) ?_
            refine run_nil ?_
            refine ev_seq ?_
            refine ev_region ?_
            refine rq rfl rfl (q_move rfl) ?_
            refine rq rfl rfl (q_move rfl) ?_
            refine rq rfl rfl (q_fld_p rfl) ?_
            refine rq rfl rfl (q_load1 rfl rfl rfl) ?_
            refine rq rfl rfl (q_mget (EK := vi) (EV := vb) (eq := eqI) (xs := s10) (z := false) rfl rfl rfl eqv_int (fun _ => ⟨rfl, rfl, rfl⟩) rfl rfl) ?_
            refine rq rfl rfl (q_neb rfl rfl) ?_
            refine run_nil ?_
            refine ev_cond rfl (fun hc => ?_) (fun hc => ?_)
            · replace H := ct hc H
              refine ev_seq ?_
              refine ev_region ?_
              refine rq rfl rfl (q_assign rfl) ?_
              refine run_nil ?_
              refine ev_ret ?_
              exact ret_ok [vb false] (congrArg (fun r : Bool => vb r) (Option.some.inj H)) rfl (.cons (.tmp rfl (.v _ _ (fun _ => rfl))) .nil)
            · replace H := cf hc H
              refine ev_skip ?_
              refine ev_region ?_
              refine rq rfl rfl (q_add rfl rfl) ?_
              refine rq rfl rfl (q_move rfl) ?_
              refine run_nil ?_
              exact ⟨_, _, w35, H, rfl, shift_mk ⟨⟨_, rfl, (.flat rfl)⟩, ⟨⟨_, rfl, .rfl⟩, ⟨⟨_, rfl, (.flat rfl)⟩, ⟨⟨_, rfl, .rfl⟩, ⟨⟨_, rfl, .rfl⟩, ⟨⟨_, rfl, .rfl⟩, ⟨⟨_, rfl, (.flat rfl)⟩, ⟨⟨_, rfl, (.eq (congrArg (fun n => D.v true (vi n)) (wrap_succ w35 w36)))⟩, trivial⟩⟩⟩⟩⟩⟩⟩⟩ ⟨(.w rfl (.cons (.flat rfl) (.cons (.flat rfl) (.cons (.flat rfl) .nil)))), ⟨(.e rfl), trivial⟩⟩ rfl rfl⟩
          · replace H := forL_out hc H
            refine ev_exit ?_
            refine ev_seq ?_
            refine ev_region ?_
            refine rq rfl rfl (q_move rfl) ?_
            refine rq rfl rfl (q_len_mt (EK := vi) (EV := vb) (xs := s10) rfl rfl) ?_
            refine rq rfl rfl (q_move rfl) ?_
            refine rq rfl rfl (q_len_t rfl) ?_
            refine rq rfl rfl (q_eqi rfl rfl) ?_
            refine rq rfl rfl (q_assign rfl) ?_
            refine run_nil ?_
            refine ev_ret ?_
            exact ret_ok [vb (((s10.length : Nat) : Int) == ((x6.1.length : Nat) : Int))] (congrArg (fun r : Bool => vb r) (Option.some.inj H)) rfl (.cons (.tmp rfl (.v _ _ (fun _ => rfl))) .nil)
end Bf
