import Derived.Test.YtedblpbpoekdlaaU1
import Derived.Test.YtedblpbpoekdlaaF29
namespace Bf
open Go Go.RowKit Go.Proofs
attribute [local irreducible] Quiet Eff RunS Ev PureC Shift RunQ RetQ RetR SeqQ
set_option linter.unusedVariables false
set_option maxRecDepth 4000
def GKey.eqb (x y : GKey) : Bool := (x.kind == y.kind && (x.subject == y.subject && (x.object == y.object && true)))
structure GPoint where
  day : Int
  value : Int
  deriving Inhabited, DecidableEq
def GPoint.e (x : GPoint) : V := .st [vi x.day, vi x.value]
structure GRead where
  key : GKey
  from_ : Int
  to_ : Int
  deriving Inhabited, DecidableEq
def GRead.e (x : GRead) : V := .st [vi x.key.kind, vi x.key.subject, vi x.key.object, vi x.from_, vi x.to_]
structure GstockLooker where
  w : GWorld
  day : Int
  known : Int
  reads : List GRead
  deriving Inhabited
def GstockLooker.e (x : GstockLooker) : V := .st [V.l 8 (List.map GUnit.e x.w.tables.source.units), V.l 6 (List.map GItem.e x.w.tables.source.items), V.l 1 (List.map V.s x.w.tables.source.plants), V.l 4 (List.map GMachine.e x.w.tables.source.machines), V.l 2 (List.map GOption.e x.w.tables.source.options), V.l 1 (List.map (fun l => V.l 4 (List.map GCond.e l)) x.w.tables.source.forbids), V.l 17 (List.map GRecipe.e x.w.tables.source.recipes), V.l 4 (List.map GSwap.e x.w.tables.source.swaps), V.l 1 (List.map vi x.w.tables.levels), V.l 1 (List.map (fun l => V.l 6 (List.map GInst.e l)) x.w.tables.codes), V.l 8 (List.map GFact.e x.w.facts), vi x.day, vi x.known, V.l 5 (List.map GRead.e x.reads)]

set_option maxHeartbeats 4000000 in
theorem stock_fields_1_c {b o : Nat} : PureC Try.prog true 103 [rawp b o] (rawp b (o + 1)) := by
  refine pure_intro (N := 6) Try.func103 rfl rfl rfl rfl fun C hO => ?_
  refine ev_seq ?_
  refine ev_region ?_
  refine rq rfl rfl (q_assign rfl) ?_
  refine run_nil ?_
  refine ev_seq ?_
  refine ev_region ?_
  refine rq rfl rfl (q_move rfl) ?_
  refine rq rfl rfl (q_nil_raw rfl) ?_
  refine rq rfl rfl (q_fld_raw rfl) ?_
  refine rq rfl rfl (q_assign rfl) ?_
  refine run_nil ?_
  refine ev_ret ?_
  exact ret_ok [rawp b (o + 1)] rfl rfl (.cons (.tmp rfl (.v _ _ (fun _ => rfl))) .nil)
theorem stock_fields_2_c {b o : Nat} : PureC Try.prog true 104 [rawp b o] (rawp b (o + 2)) := by
  refine pure_intro (N := 6) Try.func104 rfl rfl rfl rfl fun C hO => ?_
  refine ev_seq ?_
  refine ev_region ?_
  refine rq rfl rfl (q_assign rfl) ?_
  refine run_nil ?_
  refine ev_seq ?_
  refine ev_region ?_
  refine rq rfl rfl (q_move rfl) ?_
  refine rq rfl rfl (q_nil_raw rfl) ?_
  refine rq rfl rfl (q_fld_raw rfl) ?_
  refine rq rfl rfl (q_assign rfl) ?_
  refine run_nil ?_
  refine ev_ret ?_
  exact ret_ok [rawp b (o + 2)] rfl rfl (.cons (.tmp rfl (.v _ _ (fun _ => rfl))) .nil)
theorem stock_fields_3_c {b o : Nat} : PureC Try.prog true 105 [rawp b o] (rawp b (o + 3)) := by
  refine pure_intro (N := 6) Try.func105 rfl rfl rfl rfl fun C hO => ?_
  refine ev_seq ?_
  refine ev_region ?_
  refine rq rfl rfl (q_assign rfl) ?_
  refine run_nil ?_
  refine ev_seq ?_
  refine ev_region ?_
  refine rq rfl rfl (q_move rfl) ?_
  refine rq rfl rfl (q_nil_raw rfl) ?_
  refine rq rfl rfl (q_fld_raw rfl) ?_
  refine rq rfl rfl (q_assign rfl) ?_
  refine run_nil ?_
  refine ev_ret ?_
  exact ret_ok [rawp b (o + 3)] rfl rfl (.cons (.tmp rfl (.v _ _ (fun _ => rfl))) .nil)
theorem stock_fields_4_c {b o : Nat} : PureC Try.prog true 106 [rawp b o] (rawp b (o + 4)) := by
  refine pure_intro (N := 6) Try.func106 rfl rfl rfl rfl fun C hO => ?_
  refine ev_seq ?_
  refine ev_region ?_
  refine rq rfl rfl (q_assign rfl) ?_
  refine run_nil ?_
  refine ev_seq ?_
  refine ev_region ?_
  refine rq rfl rfl (q_move rfl) ?_
  refine rq rfl rfl (q_nil_raw rfl) ?_
  refine rq rfl rfl (q_fld_raw rfl) ?_
  refine rq rfl rfl (q_assign rfl) ?_
  refine run_nil ?_
  refine ev_ret ?_
  exact ret_ok [rawp b (o + 4)] rfl rfl (.cons (.tmp rfl (.v _ _ (fun _ => rfl))) .nil)
theorem stock_fields_5_c {b o : Nat} : PureC Try.prog true 107 [rawp b o] (rawp b (o + 5)) := by
  refine pure_intro (N := 6) Try.func107 rfl rfl rfl rfl fun C hO => ?_
  refine ev_seq ?_
  refine ev_region ?_
  refine rq rfl rfl (q_assign rfl) ?_
  refine run_nil ?_
  refine ev_seq ?_
  refine ev_region ?_
  refine rq rfl rfl (q_move rfl) ?_
  refine rq rfl rfl (q_nil_raw rfl) ?_
  refine rq rfl rfl (q_fld_raw rfl) ?_
  refine rq rfl rfl (q_assign rfl) ?_
  refine run_nil ?_
  refine ev_ret ?_
  exact ret_ok [rawp b (o + 5)] rfl rfl (.cons (.tmp rfl (.v _ _ (fun _ => rfl))) .nil)
theorem stock_fields_c : PureC Try.prog true 97 [] (V.l 1 [V.c 103 [], V.c 104 [], V.c 105 [], V.c 106 [], V.c 107 []]) := by
  refine pure_intro (N := 2) Try.func97 rfl rfl rfl rfl fun C hO => ?_
  refine ev_seq ?_
  refine ev_region ?_
  refine rq rfl rfl (q_assign rfl) ?_
  refine run_nil ?_
  refine ev_seq ?_
  refine ev_region ?_
  refine rq rfl rfl (q_buildSlice (z := 1) (xs := [V.c 103 [], V.c 104 [], V.c 105 [], V.c 106 [], V.c 107 []]) (fl := true) rfl rfl rfl rfl (by simp [V.plain, V.cells]) rfl) ?_
  refine rq rfl rfl (q_assign rfl) ?_
  refine run_nil ?_
  refine ev_ret ?_
  exact ret_ok [V.l 1 [V.c 103 [], V.c 104 [], V.c 105 [], V.c 106 [], V.c 107 []]] rfl rfl (.cons (.tmp rfl (.v _ _ (fun _ => rfl))) .nil)
theorem stock_keys_c {b o : Nat} : PureC Try.prog true 71 [rawp b o] (V.c 96 [.q [rawp b o]]) := by
  refine pure_intro (N := 4) Try.func71 rfl rfl rfl rfl fun C hO => ?_
  refine ev_shift (shift_mk (fs := [(0, .v true (rawp b o))]) (es := []) ⟨⟨_, rfl, (.trans (.of_rawp (k := 0) (i := 0)) .rawp)⟩, trivial⟩ trivial rfl rfl) ?_
  refine ev_seq ?_
  refine ev_region ?_
  refine re rfl (e_box 1 0 rfl rfl rfl) ?_; rintro _ ⟨b1, rfl⟩
  refine rq rfl rfl (q_assign rfl) ?_
  refine run_nil ?_
  refine ev_seq ?_
  refine ev_shift (shift_frzb (f := true) 1 [rawp b o] rfl rfl (.cons .rfl .nil)) ?_
  refine ev_region ?_
  refine rq rfl rfl (q_func (.v rfl .nil)) ?_
  refine rq rfl rfl (q_assign rfl) ?_
  refine run_nil ?_
  refine ev_ret ?_
  exact ret_ok [V.c 96 [.q [rawp b o]]] rfl rfl (.cons (.tmp rfl (.v _ _ (fun _ => rfl))) .nil)
def stock_keys_els (b o : Nat) (no : Int) : List (List V) := [[GKey.e ⟨1, no, 0⟩, rawp b (o + 1)], [GKey.e ⟨1, no, 1⟩, rawp b (o + 2)], [GKey.e ⟨1, no, 2⟩, rawp b (o + 3)], [GKey.e ⟨1, no, 3⟩, rawp b (o + 4)], [GKey.e ⟨1, no, 4⟩, rawp b (o + 5)]]
theorem stock_keys_1_c {b o : Nat} {no : Int} : SeqCR Try.prog (RdI b (o + 0) .i64 no) 96 [.q [rawp b o]] (stock_keys_els b o no) := by
  refine seq_introR (N := 25) Try.func96 rfl rfl rfl rfl fun l is hNN hO hY hRd => ?_
  refine ev_shift (shift_rd (ki := 1) (ii := 0) hRd rfl rfl) ?_
  refine ev_seq ?_
  refine ev_region ?_
  refine rq rfl rfl (q_call rfl (.v _ _ (fun e => nomatch e)) .nil inferInstance stock_fields_c) ?_
  refine rq rfl rfl (q_len_l rfl) ?_
  refine rq rfl rfl (q_move rfl) ?_
  refine run_nil ?_
  refine ev_block ?_
  refine ev_loop (fun n σ' => ∃ i : Nat, i < 6 ∧ n = 6 - i ∧ σ' = mkS [(0, .v false (.raw (.func (.yield l) #[] #[]))), (1, .v false (.q [rawp b (o + 0)])), (5, .v true (.l 1 [V.c 103 [], V.c 104 [], V.c 105 [], V.c 106 [], V.c 107 []])), (6, .v true (vi 5)), (7, .v true (vi (i : Int)))] [.e 1 0 none (.rd b (o + 0) .i64 no)] [] (i, false)) 6 ⟨_, ⟨0, by decide, rfl, rfl⟩, shift_mk ⟨⟨_, rfl, .rfl⟩, ⟨_, rfl, .rfl⟩, ⟨_, rfl, .rfl⟩, ⟨_, rfl, .rfl⟩, ⟨_, rfl, .rfl⟩, trivial⟩ ⟨(.e rfl), trivial⟩ rfl rfl⟩ ?_
  rintro n _ ⟨i, hi, hn, rfl⟩
  match i, hi with
  | 0, _ =>
    refine ev_seq ?_
    refine ev_region ?_
    refine rq rfl rfl (q_lss rfl rfl) ?_
    refine run_nil ?_
    refine ev_seq ?_
    refine ev_condt rfl ?_
    refine ev_skip ?_
    refine ev_seq ?_
    refine ev_block ?_
    refine ev_seq ?_
    refine ev_region ?_
    refine rq rfl rfl (q_move rfl) ?_
    refine rq rfl rfl (q_idx_l rfl rfl (by decide) rfl rfl) ?_
    refine rq rfl rfl (q_load1_q rfl) ?_
    refine rq rfl rfl (q_assign rfl) ?_
    refine rq rfl rfl (q_assign rfl) ?_
    refine run_nil ?_
    refine ev_seq ?_
    refine ev_drawt 10 rfl (by kernel_rfl) ?_
    refine qq rfl rfl (q_move rfl) ?_
    refine qq rfl rfl (q_load1_q rfl) ?_
    refine qq rfl rfl (q_nil_raw rfl) ?_
    refine qq rfl rfl (q_fld_raw rfl) ?_
    refine qq rfl rfl (q_load_rd rfl (ki := 1) (ii := 0) rfl) ?_
    refine qq rfl rfl (q_move rfl) ?_
    refine qq rfl rfl (q_build rfl (.v rfl rfl rfl rfl rfl (.v rfl rfl rfl rfl rfl (.v rfl rfl rfl rfl rfl .nil)))) ?_
    refine qq rfl rfl (q_move rfl) ?_
    refine qq rfl rfl (q_load1_q rfl) ?_
    refine qq rfl rfl (q_call rfl (.v _ _ (fun e => nomatch e)) (.v rfl .nil) inferInstance stock_fields_1_c) ?_
    refine qn ?_
    refine run_yields hY rfl rfl rfl (.v rfl (.v rfl .nil)) rfl rfl ?_ ?_
    · refine run_shift (shift_rd (ki := 1) (ii := 0) hRd rfl rfl) ?_
      refine rq rfl rfl (q_not rfl) ?_
      refine run_nil ?_
      refine ev_condf rfl ?_
      refine ev_skip ?_
      refine ev_region ?_
      refine rq rfl rfl (q_add rfl rfl) ?_
      refine rq rfl rfl (q_move rfl) ?_
      refine run_nil ?_
      exact ⟨6 - 1, _, by omega, ⟨1, by decide, rfl, rfl⟩, shift_mk ⟨⟨_, rfl, .rfl⟩, ⟨_, rfl, .rfl⟩, ⟨_, rfl, .rfl⟩, ⟨_, rfl, .rfl⟩, ⟨_, rfl, .rfl⟩, trivial⟩ ⟨(.e rfl), trivial⟩ rfl rfl⟩
    · refine rq rfl rfl (q_not rfl) ?_
      refine run_nil ?_
      refine ev_condt rfl ?_
      refine ev_ret ?_
      exact seq_stop (.inl rfl) rfl rfl
  | 1, _ =>
    refine ev_seq ?_
    refine ev_region ?_
    refine rq rfl rfl (q_lss rfl rfl) ?_
    refine run_nil ?_
    refine ev_seq ?_
    refine ev_condt rfl ?_
    refine ev_skip ?_
    refine ev_seq ?_
    refine ev_block ?_
    refine ev_seq ?_
    refine ev_region ?_
    refine rq rfl rfl (q_move rfl) ?_
    refine rq rfl rfl (q_idx_l rfl rfl (by decide) rfl rfl) ?_
    refine rq rfl rfl (q_load1_q rfl) ?_
    refine rq rfl rfl (q_assign rfl) ?_
    refine rq rfl rfl (q_assign rfl) ?_
    refine run_nil ?_
    refine ev_seq ?_
    refine ev_drawt 10 rfl (by kernel_rfl) ?_
    refine qq rfl rfl (q_move rfl) ?_
    refine qq rfl rfl (q_load1_q rfl) ?_
    refine qq rfl rfl (q_nil_raw rfl) ?_
    refine qq rfl rfl (q_fld_raw rfl) ?_
    refine qq rfl rfl (q_load_rd rfl (ki := 1) (ii := 0) rfl) ?_
    refine qq rfl rfl (q_move rfl) ?_
    refine qq rfl rfl (q_build rfl (.v rfl rfl rfl rfl rfl (.v rfl rfl rfl rfl rfl (.v rfl rfl rfl rfl rfl .nil)))) ?_
    refine qq rfl rfl (q_move rfl) ?_
    refine qq rfl rfl (q_load1_q rfl) ?_
    refine qq rfl rfl (q_call rfl (.v _ _ (fun e => nomatch e)) (.v rfl .nil) inferInstance stock_fields_2_c) ?_
    refine qn ?_
    refine run_yields hY rfl rfl rfl (.v rfl (.v rfl .nil)) rfl rfl ?_ ?_
    · refine run_shift (shift_rd (ki := 1) (ii := 0) hRd rfl rfl) ?_
      refine rq rfl rfl (q_not rfl) ?_
      refine run_nil ?_
      refine ev_condf rfl ?_
      refine ev_skip ?_
      refine ev_region ?_
      refine rq rfl rfl (q_add rfl rfl) ?_
      refine rq rfl rfl (q_move rfl) ?_
      refine run_nil ?_
      exact ⟨6 - 2, _, by omega, ⟨2, by decide, rfl, rfl⟩, shift_mk ⟨⟨_, rfl, .rfl⟩, ⟨_, rfl, .rfl⟩, ⟨_, rfl, .rfl⟩, ⟨_, rfl, .rfl⟩, ⟨_, rfl, .rfl⟩, trivial⟩ ⟨(.e rfl), trivial⟩ rfl rfl⟩
    · refine rq rfl rfl (q_not rfl) ?_
      refine run_nil ?_
      refine ev_condt rfl ?_
      refine ev_ret ?_
      exact seq_stop (.inl rfl) rfl rfl
  | 2, _ =>
    refine ev_seq ?_
    refine ev_region ?_
    refine rq rfl rfl (q_lss rfl rfl) ?_
    refine run_nil ?_
    refine ev_seq ?_
    refine ev_condt rfl ?_
    refine ev_skip ?_
    refine ev_seq ?_
    refine ev_block ?_
    refine ev_seq ?_
    refine ev_region ?_
    refine rq rfl rfl (q_move rfl) ?_
    refine rq rfl rfl (q_idx_l rfl rfl (by decide) rfl rfl) ?_
    refine rq rfl rfl (q_load1_q rfl) ?_
    refine rq rfl rfl (q_assign rfl) ?_
    refine rq rfl rfl (q_assign rfl) ?_
    refine run_nil ?_
    refine ev_seq ?_
    refine ev_drawt 10 rfl (by kernel_rfl) ?_
    refine qq rfl rfl (q_move rfl) ?_
    refine qq rfl rfl (q_load1_q rfl) ?_
    refine qq rfl rfl (q_nil_raw rfl) ?_
    refine qq rfl rfl (q_fld_raw rfl) ?_
    refine qq rfl rfl (q_load_rd rfl (ki := 1) (ii := 0) rfl) ?_
    refine qq rfl rfl (q_move rfl) ?_
    refine qq rfl rfl (q_build rfl (.v rfl rfl rfl rfl rfl (.v rfl rfl rfl rfl rfl (.v rfl rfl rfl rfl rfl .nil)))) ?_
    refine qq rfl rfl (q_move rfl) ?_
    refine qq rfl rfl (q_load1_q rfl) ?_
    refine qq rfl rfl (q_call rfl (.v _ _ (fun e => nomatch e)) (.v rfl .nil) inferInstance stock_fields_3_c) ?_
    refine qn ?_
    refine run_yields hY rfl rfl rfl (.v rfl (.v rfl .nil)) rfl rfl ?_ ?_
    · refine run_shift (shift_rd (ki := 1) (ii := 0) hRd rfl rfl) ?_
      refine rq rfl rfl (q_not rfl) ?_
      refine run_nil ?_
      refine ev_condf rfl ?_
      refine ev_skip ?_
      refine ev_region ?_
      refine rq rfl rfl (q_add rfl rfl) ?_
      refine rq rfl rfl (q_move rfl) ?_
      refine run_nil ?_
      exact ⟨6 - 3, _, by omega, ⟨3, by decide, rfl, rfl⟩, shift_mk ⟨⟨_, rfl, .rfl⟩, ⟨_, rfl, .rfl⟩, ⟨_, rfl, .rfl⟩, ⟨_, rfl, .rfl⟩, ⟨_, rfl, .rfl⟩, trivial⟩ ⟨(.e rfl), trivial⟩ rfl rfl⟩
    · refine rq rfl rfl (q_not rfl) ?_
      refine run_nil ?_
      refine ev_condt rfl ?_
      refine ev_ret ?_
      exact seq_stop (.inl rfl) rfl rfl
  | 3, _ =>
    refine ev_seq ?_
    refine ev_region ?_
    refine rq rfl rfl (q_lss rfl rfl) ?_
    refine run_nil ?_
    refine ev_seq ?_
    refine ev_condt rfl ?_
    refine ev_skip ?_
    refine ev_seq ?_
    refine ev_block ?_
    refine ev_seq ?_
    refine ev_region ?_
    refine rq rfl rfl (q_move rfl) ?_
    refine rq rfl rfl (q_idx_l rfl rfl (by decide) rfl rfl) ?_
    refine rq rfl rfl (q_load1_q rfl) ?_
    refine rq rfl rfl (q_assign rfl) ?_
    refine rq rfl rfl (q_assign rfl) ?_
    refine run_nil ?_
    refine ev_seq ?_
    refine ev_drawt 10 rfl (by kernel_rfl) ?_
    refine qq rfl rfl (q_move rfl) ?_
    refine qq rfl rfl (q_load1_q rfl) ?_
    refine qq rfl rfl (q_nil_raw rfl) ?_
    refine qq rfl rfl (q_fld_raw rfl) ?_
    refine qq rfl rfl (q_load_rd rfl (ki := 1) (ii := 0) rfl) ?_
    refine qq rfl rfl (q_move rfl) ?_
    refine qq rfl rfl (q_build rfl (.v rfl rfl rfl rfl rfl (.v rfl rfl rfl rfl rfl (.v rfl rfl rfl rfl rfl .nil)))) ?_
    refine qq rfl rfl (q_move rfl) ?_
    refine qq rfl rfl (q_load1_q rfl) ?_
    refine qq rfl rfl (q_call rfl (.v _ _ (fun e => nomatch e)) (.v rfl .nil) inferInstance stock_fields_4_c) ?_
    refine qn ?_
    refine run_yields hY rfl rfl rfl (.v rfl (.v rfl .nil)) rfl rfl ?_ ?_
    · refine run_shift (shift_rd (ki := 1) (ii := 0) hRd rfl rfl) ?_
      refine rq rfl rfl (q_not rfl) ?_
      refine run_nil ?_
      refine ev_condf rfl ?_
      refine ev_skip ?_
      refine ev_region ?_
      refine rq rfl rfl (q_add rfl rfl) ?_
      refine rq rfl rfl (q_move rfl) ?_
      refine run_nil ?_
      exact ⟨6 - 4, _, by omega, ⟨4, by decide, rfl, rfl⟩, shift_mk ⟨⟨_, rfl, .rfl⟩, ⟨_, rfl, .rfl⟩, ⟨_, rfl, .rfl⟩, ⟨_, rfl, .rfl⟩, ⟨_, rfl, .rfl⟩, trivial⟩ ⟨(.e rfl), trivial⟩ rfl rfl⟩
    · refine rq rfl rfl (q_not rfl) ?_
      refine run_nil ?_
      refine ev_condt rfl ?_
      refine ev_ret ?_
      exact seq_stop (.inl rfl) rfl rfl
  | 4, _ =>
    refine ev_seq ?_
    refine ev_region ?_
    refine rq rfl rfl (q_lss rfl rfl) ?_
    refine run_nil ?_
    refine ev_seq ?_
    refine ev_condt rfl ?_
    refine ev_skip ?_
    refine ev_seq ?_
    refine ev_block ?_
    refine ev_seq ?_
    refine ev_region ?_
    refine rq rfl rfl (q_move rfl) ?_
    refine rq rfl rfl (q_idx_l rfl rfl (by decide) rfl rfl) ?_
    refine rq rfl rfl (q_load1_q rfl) ?_
    refine rq rfl rfl (q_assign rfl) ?_
    refine rq rfl rfl (q_assign rfl) ?_
    refine run_nil ?_
    refine ev_seq ?_
    refine ev_drawt 10 rfl (by kernel_rfl) ?_
    refine qq rfl rfl (q_move rfl) ?_
    refine qq rfl rfl (q_load1_q rfl) ?_
    refine qq rfl rfl (q_nil_raw rfl) ?_
    refine qq rfl rfl (q_fld_raw rfl) ?_
    refine qq rfl rfl (q_load_rd rfl (ki := 1) (ii := 0) rfl) ?_
    refine qq rfl rfl (q_move rfl) ?_
    refine qq rfl rfl (q_build rfl (.v rfl rfl rfl rfl rfl (.v rfl rfl rfl rfl rfl (.v rfl rfl rfl rfl rfl .nil)))) ?_
    refine qq rfl rfl (q_move rfl) ?_
    refine qq rfl rfl (q_load1_q rfl) ?_
    refine qq rfl rfl (q_call rfl (.v _ _ (fun e => nomatch e)) (.v rfl .nil) inferInstance stock_fields_5_c) ?_
    refine qn ?_
    refine run_yields hY rfl rfl rfl (.v rfl (.v rfl .nil)) rfl rfl ?_ ?_
    · refine run_shift (shift_rd (ki := 1) (ii := 0) hRd rfl rfl) ?_
      refine rq rfl rfl (q_not rfl) ?_
      refine run_nil ?_
      refine ev_condf rfl ?_
      refine ev_skip ?_
      refine ev_region ?_
      refine rq rfl rfl (q_add rfl rfl) ?_
      refine rq rfl rfl (q_move rfl) ?_
      refine run_nil ?_
      exact ⟨6 - 5, _, by omega, ⟨5, by decide, rfl, rfl⟩, shift_mk ⟨⟨_, rfl, .rfl⟩, ⟨_, rfl, .rfl⟩, ⟨_, rfl, .rfl⟩, ⟨_, rfl, .rfl⟩, ⟨_, rfl, .rfl⟩, trivial⟩ ⟨(.e rfl), trivial⟩ rfl rfl⟩
    · refine rq rfl rfl (q_not rfl) ?_
      refine run_nil ?_
      refine ev_condt rfl ?_
      refine ev_ret ?_
      exact seq_stop (.inl rfl) rfl rfl
  | 5, _ =>
    refine ev_seq ?_
    refine ev_region ?_
    refine rq rfl rfl (q_lss rfl rfl) ?_
    refine run_nil ?_
    refine ev_seq ?_
    refine ev_condf rfl ?_
    refine ev_exit ?_
    exact seq_full (.inr rfl) rfl rfl
theorem stock_keys_length {b o : Nat} {no : Int} : (stock_keys_els b o no).length = 5 := rfl
theorem stock_keys_len {b o : Nat} {no : Int} {n : Nat} {args : List V} (h : (stock_keys_els b o no)[n]? = some args) : args.length = 2 := by
  have hm := List.mem_of_getElem? h
  simp only [stock_keys_els, List.mem_cons, List.not_mem_nil, or_false] at hm
  rcases hm with rfl | rfl | rfl | rfl | rfl <;> rfl
theorem stock_keys_at0 {b o : Nat} {no : Int} {args : List V} (h : (stock_keys_els b o no)[0]? = some args) : args = [GKey.e ⟨1, no, 0⟩, rawp b (o + 1)] := by cases h; rfl
theorem stock_keys_at1 {b o : Nat} {no : Int} {args : List V} (h : (stock_keys_els b o no)[1]? = some args) : args = [GKey.e ⟨1, no, 1⟩, rawp b (o + 2)] := by cases h; rfl
theorem stock_keys_at2 {b o : Nat} {no : Int} {args : List V} (h : (stock_keys_els b o no)[2]? = some args) : args = [GKey.e ⟨1, no, 2⟩, rawp b (o + 3)] := by cases h; rfl
theorem stock_keys_at3 {b o : Nat} {no : Int} {args : List V} (h : (stock_keys_els b o no)[3]? = some args) : args = [GKey.e ⟨1, no, 3⟩, rawp b (o + 4)] := by cases h; rfl
theorem stock_keys_at4 {b o : Nat} {no : Int} {args : List V} (h : (stock_keys_els b o no)[4]? = some args) : args = [GKey.e ⟨1, no, 4⟩, rawp b (o + 5)] := by cases h; rfl
theorem stock_keys_at5 {b o : Nat} {no : Int} {args : List V} (h : (stock_keys_els b o no)[5]? = some args) : False := by cases h
def stock_head_m  : Option GKey := some (⟨0, 0, 0⟩ : GKey)
theorem stock_head_c  {r : GKey} (H : stock_head_m  = some r) : PureC Try.prog true 72 [] (GKey.e r) := by
  unfold stock_head_m at H
  refine pure_intro (N := 2) Try.func72 rfl rfl rfl rfl fun C hO => ?_
  refine ev_seq ?_
  refine ev_region ?_
  refine re rfl (e_alloc 0 0 rfl rfl) ?_; rintro _ ⟨b1, rfl⟩
  refine run_nil ?_
  refine ev_seq ?_
  refine ev_region ?_
  refine rq rfl rfl (q_build rfl (.v rfl rfl rfl rfl rfl .nil)) ?_
  refine re rfl (e_store rfl rfl rfl rfl rfl (Nat.le_of_ble_eq_true rfl) rfl) ?_; rintro _ rfl
  refine run_nil ?_
  refine ev_ret ?_
  exact ret_ok [GKey.e (⟨0, 0, 0⟩ : GKey)] (congrArg (fun r : GKey => GKey.e r) (Option.some.inj H)) rfl (.cons (.cellN (z := 3) rfl rfl rfl rfl rfl rfl (.v _ _ (fun _ => rfl))) .nil)
def facts_of_1_m (a1 : List GFact) (a2 : GKey) (a3 : Int) : Option (List GFact) := forL a1 (fun (k3 : Nat) (x8 : GFact) (s1 : Unit) loop2 => jn (fun (_ : Unit) => loop2 ()) fun j12 => bif bif GKey.eqb x8.key a2 then decide (x8.known ≤ a3) else false then (yl x8 (j12 ())) else (j12 ())) (fun (s1 : Unit) => some []) ()
theorem facts_of_1_c {a1 : List GFact} {a2 : GKey} {a3 : Int} {R : List GFact} (H : facts_of_1_m a1 a2 a3 = some R) : SeqC Try.prog 89 [.q (V.cells (V.l 8 (List.map GFact.e a1))), .q (V.cells (GKey.e a2)), .q (V.cells (vi a3))] (R.map (fun y => [GFact.e y])) := by
  unfold facts_of_1_m at H
  refine seq_intro (N := 30) Try.func89 rfl rfl rfl rfl fun l is hNN hO hY => ?_
  obtain ⟨r0, h0, H⟩ : ∃ r0, Rem R 0 r0 ∧ _ = some r0 := ⟨R, .start R, H⟩
  refine ev_seq ?_
  refine ev_region ?_
  refine rq rfl rfl (q_load1_q rfl) ?_
  refine rq rfl rfl (q_len_t rfl) ?_
  refine rq rfl rfl (q_move rfl) ?_
  refine run_nil ?_
  refine ev_block ?_
  refine ev_len_l (s := 7) rfl fun w10 => ?_
  rw [List.length_map] at w10
  refine ev_forLy H (fun k3 s1 r5 σ' => ∃ (m4 : Nat), Rem R m4 r5 ∧ σ' = mkS [(0, .v false (.raw (.func (.yield l) #[] #[]))), (2, .v false (.q (V.cells (GKey.e a2)))), (3, .v false (.q (V.cells (vi a3)))), (7, .v false (V.l 8 (List.map GFact.e a1))), (8, .v true (vi ((a1.length : Nat) : Int))), (9, .v true (vi ((k3 : Nat) : Int)))] [] [] (m4, false)) ⟨_, ⟨0, h0, rfl⟩, shift_mk ⟨⟨_, rfl, .rfl⟩, ⟨⟨_, rfl, .rfl⟩, ⟨⟨_, rfl, .rfl⟩, ⟨⟨_, rfl, .rfl⟩, ⟨⟨_, rfl, (.flat rfl)⟩, ⟨⟨_, rfl, .rfl⟩, trivial⟩⟩⟩⟩⟩⟩ trivial rfl rfl⟩ ?_
  rintro k3 s1 r5 _ ⟨m4, h6, rfl⟩ _ H
  refine ev_seq ?_
  refine ev_region ?_
  refine rq rfl rfl (q_lss rfl rfl) ?_
  refine run_nil ?_
  refine ev_seq ?_
  refine ev_cond rfl (fun hc => ?_) (fun hc => ?_)
  · obtain ⟨x8, w9, x8_g, H⟩ := forL_in hc H
    have x8_h : idx a1 ((k3 : Nat) : Int) = some x8 := by rw [idx_nat]; exact x8_g
    refine ev_skip ?_
    refine ev_seq ?_
    refine ev_block ?_
    refine ev_seq ?_
    refine ev_region ?_
    refine rq rfl rfl (q_idx_l rfl rfl (idx_inv x8_h).1 (map_get (idx_inv x8_h).2.1) rfl) ?_
    refine rq rfl rfl (q_load_e rfl rfl rfl) ?_
    refine re rfl (e_alloc 6 0 rfl rfl) ?_; rintro _ ⟨b11, rfl⟩
    refine re rfl (e_store rfl rfl rfl rfl rfl (Nat.le_of_ble_eq_true rfl) rfl) ?_; rintro _ rfl
    refine run_nil ?_
    obtain ⟨j12, j12_e, H⟩ := jn_inv H
    refine ev_join (fun σ' => (∃ (m13 : Nat) (r14 : List _), Rem R m13 r14 ∧ j12 () = some r14 ∧ σ' = mkS [(0, .v false (.raw (.func (.yield l) #[] #[]))), (2, .v false (.q (V.cells (GKey.e a2)))), (3, .v false (.q (V.cells (vi a3)))), (7, .v false (V.l 8 (List.map GFact.e a1))), (8, .v true (vi ((a1.length : Nat) : Int))), (9, .v true (vi ((k3 : Nat) : Int))), (28, .v true (vb false))] [] [] (m13, false)) ∨ (∃ (m16 : Nat), σ' = mkS [(0, .v false (.raw (.func (.yield l) #[] #[]))), (2, .v false (.q (V.cells (GKey.e a2)))), (3, .v false (.q (V.cells (vi a3)))), (7, .v false (V.l 8 (List.map GFact.e a1))), (8, .v true (vi ((a1.length : Nat) : Int))), (9, .v true (vi ((k3 : Nat) : Int))), (28, .v true (vb true))] [] [] (m16, true))) ?_ ?_
    · rintro _ (⟨m13, r14, h15, H, rfl⟩ | ⟨m16, rfl⟩)
      · subst j12_e
        refine ev_condf rfl ?_
        refine ev_skip ?_
        refine ev_region ?_
        refine rq rfl rfl (q_add rfl rfl) ?_
        refine rq rfl rfl (q_move rfl) ?_
        refine run_nil ?_
        exact ⟨_, _, _, w9, H, ⟨m13, h15, rfl⟩, shift_mk ⟨⟨_, rfl, .rfl⟩, ⟨⟨_, rfl, .rfl⟩, ⟨⟨_, rfl, .rfl⟩, ⟨⟨_, rfl, .rfl⟩, ⟨⟨_, rfl, (.flat rfl)⟩, ⟨⟨_, rfl, (.eq (congrArg (fun n => D.v true (vi n)) (wrap_succ w9 w10)))⟩, trivial⟩⟩⟩⟩⟩⟩ trivial rfl rfl⟩
      · refine ev_condt rfl ?_
        refine ev_ret ?_
        exact seq_stop (.inl rfl) rfl rfl
    · clear j12_e
      refine ev_region ?_
      refine rq rfl rfl (q_fld_p rfl) ?_
      refine rq rfl rfl (q_loadN rfl rfl rfl rfl) ?_
      refine rq rfl rfl (q_load_e rfl rfl rfl) ?_
      refine rq rfl rfl (q_eqs rfl rfl rfl) ?_
      refine rq rfl rfl (q_move rfl) ?_
      refine rqc (l := []) ⟨⟨_, _, _, rfl, rfl, rfl, rfl⟩, rfl, fun hc => q_fld_p rfl, trivial⟩ rfl ?_
      refine rqc (l := [18]) ⟨⟨_, _, _, rfl, rfl, rfl, rfl⟩, rfl, fun hc => q_load1 rfl rfl rfl, ⟨fun h => h, trivial⟩⟩ rfl ?_
      refine rqc (l := []) ⟨⟨_, _, _, rfl, rfl, rfl, rfl⟩, rfl, fun hc => q_load1_q rfl, trivial⟩ rfl ?_
      refine rqc (l := [19, 20]) ⟨⟨_, _, _, rfl, rfl, rfl, rfl⟩, rfl, fun hc => q_leq rfl rfl, ⟨fun h => h, ⟨fun h => h, trivial⟩⟩⟩ rfl ?_
      refine rq rfl rfl (q_pickb rfl rfl rfl (PB.c (fun hp => hp)) PB.v) ?_
      refine rq rfl rfl (q_move rfl) ?_
      refine rg (s := 23) rfl rfl (fun hc => ?_) (fun hc => ?_)
      · replace H := ct hc H
        refine rq rfl rfl (q_move rfl) ?_
        refine rq rfl rfl (q_loadN rfl rfl rfl rfl) ?_
        obtain ⟨r17, r17_e, r17_H⟩ := yl_inv H; clear H; subst r17_e; have H := r17_H; clear r17_H
        refine run_yields hY rfl rfl rfl (.v rfl CapsOk.nil) rfl (yield_at h6) ?_ ?_
        · have h18 := h6.next.2
          refine rq rfl rfl (q_not rfl) ?_
          refine rq rfl rfl (q_pickt rfl rfl) ?_
          refine run_nil ?_
          exact ⟨_, .inl ⟨(m4 + 1), r17, h18, H, rfl⟩, shift_mk ⟨⟨_, rfl, .rfl⟩, ⟨⟨_, rfl, .rfl⟩, ⟨⟨_, rfl, .rfl⟩, ⟨⟨_, rfl, .rfl⟩, ⟨⟨_, rfl, (.flat rfl)⟩, ⟨⟨_, rfl, (.flat rfl)⟩, ⟨⟨_, rfl, (.flat rfl)⟩, trivial⟩⟩⟩⟩⟩⟩⟩ trivial rfl rfl⟩
        · refine rq rfl rfl (q_not rfl) ?_
          refine rq rfl rfl (q_pickt rfl rfl) ?_
          refine run_nil ?_
          exact ⟨_, .inr ⟨(m4 + 1), rfl⟩, shift_mk ⟨⟨_, rfl, .rfl⟩, ⟨⟨_, rfl, .rfl⟩, ⟨⟨_, rfl, .rfl⟩, ⟨⟨_, rfl, .rfl⟩, ⟨⟨_, rfl, (.flat rfl)⟩, ⟨⟨_, rfl, (.flat rfl)⟩, ⟨⟨_, rfl, (.flat rfl)⟩, trivial⟩⟩⟩⟩⟩⟩⟩ trivial rfl rfl⟩
      · replace H := cf hc H
        refine rs rfl rfl ?_
        refine rs rfl rfl ?_
        refine rs rfl rfl ?_
        refine rs rfl rfl ?_
        refine rq rfl rfl (q_pickf rfl rfl) ?_
        refine run_nil ?_
        exact ⟨_, .inl ⟨m4, r5, h6, H, rfl⟩, shift_mk ⟨⟨_, rfl, .rfl⟩, ⟨⟨_, rfl, .rfl⟩, ⟨⟨_, rfl, .rfl⟩, ⟨⟨_, rfl, .rfl⟩, ⟨⟨_, rfl, (.flat rfl)⟩, ⟨⟨_, rfl, (.flat rfl)⟩, ⟨⟨_, rfl, (.flat rfl)⟩, trivial⟩⟩⟩⟩⟩⟩⟩ trivial rfl rfl⟩
  · replace H := forL_out hc H
    refine ev_exit ?_
    cases H
    exact seq_end (.inr rfl) rfl rfl h6
def facts_of_m (a0 : List GFact) (a1 : GKey) (a2 : Int) : Option ((List GFact) × GKey × Int) := some (a0, a1, a2)
theorem facts_of_c {a0 : List GFact} {a1 : GKey} {a2 : Int} {r : ((List GFact) × GKey × Int)} (H : facts_of_m a0 a1 a2 = some r) : PureC Try.prog false 57 [V.l 8 (List.map GFact.e a0), GKey.e a1, vi a2] (V.c 89 [V.q (V.cells (V.l 8 (List.map GFact.e r.1))), V.q (V.cells (GKey.e r.2.1)), V.q (V.cells (vi r.2.2))]) := by
  unfold facts_of_m at H
  refine pure_intro (N := 8) Try.func57 rfl rfl rfl rfl fun C hO => ?_
  refine ev_shift (shift_mk (fs := [(0, .v false (V.l 8 (List.map GFact.e a0))), (1, .v true (GKey.e a1)), (2, .v true (vi a2))]) (es := []) ⟨⟨_, rfl, .rfl⟩, ⟨⟨_, rfl, (.flat rfl)⟩, ⟨⟨_, rfl, (.flat rfl)⟩, trivial⟩⟩⟩ trivial rfl rfl) ?_
  refine ev_seq ?_
  refine ev_region ?_
  refine re rfl (e_box 3 0 rfl rfl rfl) ?_; rintro _ ⟨b1, rfl⟩
  refine re rfl (e_box 4 0 rfl rfl rfl) ?_; rintro _ ⟨b2, rfl⟩
  refine re rfl (e_box 5 0 rfl rfl rfl) ?_; rintro _ ⟨b3, rfl⟩
  refine rq rfl rfl (q_assign rfl) ?_
  refine run_nil ?_
  refine ev_seq ?_
  refine ev_shift (shift_frzb (f := false) 3 (V.cells (V.l 8 (List.map GFact.e a0))) rfl rfl (.cons .rfl .nil)) ?_
  refine ev_shift (shift_frzb (f := true) 4 (V.cells (GKey.e a1)) rfl rfl (.cons (.flat rfl) (.cons (.flat rfl) (.cons (.flat rfl) .nil)))) ?_
  refine ev_shift (shift_frzb (f := true) 5 (V.cells (vi a2)) rfl rfl (.cons (.flat rfl) .nil)) ?_
  refine ev_region ?_
  refine rq rfl rfl (q_func (.v rfl (.v rfl (.v rfl CapsOk.nil)))) ?_
  refine rq rfl rfl (q_assign rfl) ?_
  refine run_nil ?_
  refine ev_ret ?_
  exact ret_ok [V.c 89 [V.q (V.cells (V.l 8 (List.map GFact.e ((a0, a1, a2).1)))), V.q (V.cells (GKey.e ((a0, a1, a2).2.1))), V.q (V.cells (vi ((a0, a1, a2).2.2)))]] (congrArg (fun r : ((List GFact) × GKey × Int) => V.c 89 [V.q (V.cells (V.l 8 (List.map GFact.e r.1))), V.q (V.cells (GKey.e r.2.1)), V.q (V.cells (vi r.2.2))]) (Option.some.inj H)) rfl (.cons (.tmp rfl (.v _ _ (fun e => nomatch e))) .nil)
def facts_values_m (a0 : List GFact) (a1 : GKey) (a2 : Int) : Option (List Int) := bd (facts_of_m a0 a1 a2) fun x5 => bd (facts_of_1_m x5.1 x5.2.1 x5.2.2) fun ys6 => forL ys6 (fun (k9 : Nat) (x10 : GFact) (s7 : (List GFact) × (List Bool)) loop8 => forN (max 0 x10.valid.from_) (min x10.valid.to_ 1024) (fun (k20 : Int) (s18 : (List GFact) × (List Bool)) loop19 => jn (fun (p32 : List GFact) (p33 : List Bool) => loop19 (p32, p33)) fun j31 => bd (idx s18.2 k20) fun x34 => gd (decide (k20 < 1024)) <| bdc (!(!x34)) (idx s18.1 k20) fun x36 => gdc (!(!x34)) (decide (k20 < 1024)) <| bdc (!(!x34)) (facts_compare_m x10 x36) fun x38 => bif bif !x34 then true else decide (0 ≤ x38) then (bd (idx s18.1 k20) fun x39 => gd (decide (k20 < 1024)) <| gd (decide (k20 < 1024)) <| j31 ((s18.1).set (k20).toNat x10) ((s18.2).set (k20).toNat true)) else (j31 s18.1 s18.2)) (fun (s18 : (List GFact) × (List Bool)) => loop8 (s18.1, s18.2)) (s7.1, s7.2)) (fun (s7 : (List GFact) × (List Bool)) => forN 0 1024 (fun (k44 : Int) (s42 : (List Int)) loop43 => jn (fun (p55 : List Int) => loop43 p55) fun j54 => bd (idx s42 k44) fun x56 => gd (decide (k44 < 1024)) <| bd (idx s7.2 k44) fun x58 => gd (decide (k44 < 1024)) <| bif x58 then (bd (idx s7.1 k44) fun x60 => gd (decide (k44 < 1024)) <| bd (idx ((s42).set (k44).toNat (-1)) k44) fun x62 => gd (decide (k44 < 1024)) <| j54 (((s42).set (k44).toNat (-1)).set (k44).toNat (max x60.value (-1)))) else (j54 ((s42).set (k44).toNat (-1)))) (fun (s42 : (List Int)) => gd (decide (s42.length = 1024)) <| some s42) (List.replicate 1024 0)) (List.replicate 1024 (⟨(⟨0, 0, 0⟩ : GKey), 0, (⟨0, 0⟩ : GSpan), 0, 0⟩ : GFact), List.replicate 1024 false)
theorem facts_values_c {a0 : List GFact} {a1 : GKey} {a2 : Int} {r : (List Int)} (H : facts_values_m a0 a1 a2 = some r) : PureC Try.prog true 91 [V.l 8 (List.map GFact.e a0), GKey.e a1, vi a2] (V.st (List.map vi r)) := by
  unfold facts_values_m at H
  refine pure_intro (N := 63) Try.func91 rfl rfl rfl rfl fun C hO => ?_
  refine ev_shift (shift_mk (fs := [(0, .v false (V.l 8 (List.map GFact.e a0))), (1, .v true (GKey.e a1)), (2, .v true (vi a2))]) (es := []) ⟨⟨_, rfl, .rfl⟩, ⟨⟨_, rfl, (.flat rfl)⟩, ⟨⟨_, rfl, (.flat rfl)⟩, trivial⟩⟩⟩ trivial rfl rfl) ?_
  refine ev_seq ?_
  refine ev_region ?_
  refine re rfl (e_box 4 0 rfl rfl rfl) ?_; rintro _ ⟨b1, rfl⟩
  refine re rfl (e_alloc_at (E := vi) (x0 := 0) 6 0 rfl rfl rfl rfl rfl) ?_; rintro _ ⟨b2, rfl⟩
  refine run_nil ?_
  refine ev_seq ?_
  refine ev_region ?_
  refine re rfl (e_alloc_at (E := GFact.e) (x0 := (⟨(⟨0, 0, 0⟩ : GKey), 0, (⟨0, 0⟩ : GSpan), 0, 0⟩ : GFact)) 7 0 rfl rfl rfl rfl rfl) ?_; rintro _ ⟨b3, rfl⟩
  refine run_nil ?_
  refine ev_seq ?_
  refine ev_region ?_
  refine re rfl (e_alloc_at (E := vb) (x0 := false) 8 0 rfl rfl rfl rfl rfl) ?_; rintro _ ⟨b4, rfl⟩
  refine run_nil ?_
  refine ev_seq ?_
  refine ev_seq ?_
  refine ev_region ?_
  refine rq rfl rfl (q_move rfl) ?_
  refine rq rfl rfl (q_loadN rfl rfl rfl rfl) ?_
  refine rq rfl rfl (q_move rfl) ?_
  obtain ⟨x5, x5_h, H⟩ := bd_inv H
  refine rq rfl rfl (q_calla rfl (.v rfl (.v rfl (.v rfl CapsOk.nil))) inferInstance (facts_of_c  x5_h)) ?_
  refine run_nil ?_
  refine ev_block ?_
  obtain ⟨ys6, ys6_h, H⟩ := bd_inv H
  obtain ⟨B11, K12, h13, h14, H⟩ := forL_gen H
  refine ev_shift (σ' := mkS [(6, .p 6 0 b2 0), (7, .p 7 0 b3 0), (8, .p 8 0 b4 0), (15, .v false (.c 89 [.q (V.cells (V.l 8 (List.map GFact.e x5.1))), .q (V.cells (GKey.e x5.2.1)), .q (V.cells (vi x5.2.2))]))] [.e 6 0 (some (b2, 1024)) (.row 155 (els true (List.map vi (List.replicate 1024 0)))), .e 7 0 (some (b3, 8192)) (.row 166 (els true (List.map GFact.e (List.replicate 1024 (⟨(⟨0, 0, 0⟩ : GKey), 0, (⟨0, 0⟩ : GSpan), 0, 0⟩ : GFact))))), .e 8 0 (some (b4, 1024)) (.row 167 (els true (List.map vb (List.replicate 1024 false))))] [] (0, false)) (shift_mk ⟨⟨_, rfl, .rfl⟩, ⟨⟨_, rfl, .rfl⟩, ⟨⟨_, rfl, .rfl⟩, ⟨⟨_, rfl, .rfl⟩, trivial⟩⟩⟩⟩ ⟨(.e rfl), ⟨(.e rfl), ⟨(.e rfl), trivial⟩⟩⟩ rfl rfl) ?_
  refine ev_range (els := ys6.map (fun y => [GFact.e y])) rfl inferInstance (facts_of_1_c ys6_h) 9004 9005 [6, 7, 8, 15] rfl (by decide) (fun n args h => by obtain ⟨x, _, rfl⟩ := range_at h; rfl) (fun D2 l2 L2 => ⟨fun n σ' => ∃ (s7 : (List GFact) × (List Bool)), forLg B11 K12 n (ys6.drop n) s7 = some r ∧ σ' = mkS [(6, .p 6 0 b2 0), (7, .p 7 0 b3 0), (8, .p 8 0 b4 0), (15, .v false (.c 89 [.q (V.cells (V.l 8 (List.map GFact.e x5.1))), .q (V.cells (GKey.e x5.2.1)), .q (V.cells (vi x5.2.2))]))] [.e 6 0 (some (b2, 1024)) (.row 155 (els true (List.map vi (List.replicate 1024 0)))), .e 7 0 (some (b3, 8192)) (.row 166 (els true (List.map GFact.e s7.1))), .e 8 0 (some (b4, 1024)) (.row 167 (els true (List.map vb s7.2))), .e 9005 0 (some (l2, 0)) (.obj (L2 .ready none)), .e 9004 0 (some (D2, 0)) (.obj (.deferred (some [])))] ({ target := .collected D2, args := #[] } :: []) (0, false), ?_, ?_, ?_, ?_⟩)
  · exact ⟨_, ⟨(List.replicate 1024 (⟨(⟨0, 0, 0⟩ : GKey), 0, (⟨0, 0⟩ : GSpan), 0, 0⟩ : GFact), List.replicate 1024 false), H, rfl⟩, le_mk ⟨rfl, ⟨rfl, ⟨rfl, ⟨rfl, trivial⟩⟩⟩⟩ ⟨rfl, ⟨rfl, ⟨rfl, ⟨rfl, ⟨rfl, trivial⟩⟩⟩⟩⟩ rfl rfl⟩
  · rintro n _ ⟨s7, _, rfl⟩
    exact ⟨rfl, rfl, rfl⟩
  · rintro k9 args _ val is hN he ⟨s7, H, rfl⟩ hcl
    obtain ⟨x10, x10_g, rfl⟩ := range_at he
    subst h13; subst h14
    replace H := forL_at x10_g H
    refine ev_region ?_
    refine re rfl (e_alloc 9 0 rfl rfl) ?_; rintro _ ⟨b17, rfl⟩
    refine re rfl (e_store rfl rfl rfl rfl rfl (Nat.le_of_ble_eq_true rfl) rfl) ?_; rintro _ rfl
    refine run_nil ?_
    refine ⟨rfl, ?_⟩
    refine ev_block ?_
    refine ev_seq ?_
    refine ev_region ?_
    refine rq rfl rfl (q_fld_p rfl) ?_
    refine rq rfl rfl (q_fld_p rfl) ?_
    refine rq rfl rfl (q_load1 rfl rfl rfl) ?_
    refine rq rfl rfl (q_max rfl rfl) ?_
    refine rq rfl rfl (q_assign rfl) ?_
    refine run_nil ?_
    refine ev_block ?_
    refine ev_forN H (fun k20 s18 σ' => σ' = mkS [(6, .p 6 0 b2 0), (7, .p 7 0 b3 0), (8, .p 8 0 b4 0), (9, .p 9 0 b17 0), (10, .v true (vi k20)), (15, .v false (.c 89 [.q (V.cells (V.l 8 (List.map GFact.e x5.1))), .q (V.cells (GKey.e x5.2.1)), .q (V.cells (vi x5.2.2))])), (16, .v true (GFact.e x10))] [.e 9005 0 (some (l2, 0)) (.obj (L2 .busy none)), .e 9004 0 (some (D2, 0)) (.obj (.deferred (some []))), .e 6 0 (some (b2, 1024)) (.row 155 (els true (List.map vi (List.replicate 1024 0)))), .e 7 0 (some (b3, 8192)) (.row 166 (els true (List.map GFact.e s18.1))), .e 8 0 (some (b4, 1024)) (.row 167 (els true (List.map vb s18.2))), .e 9 0 (some (b17, 8)) (.row 120 [.v true (vi x10.key.kind), .v true (vi x10.key.subject), .v true (vi x10.key.object), .v true (vi x10.value), .v true (vi x10.valid.from_), .v true (vi x10.valid.to_), .v true (vi x10.known), .v true (vi x10.no_)])] [] (0, false)) ⟨_, rfl, shift_mk ⟨⟨_, rfl, .rfl⟩, ⟨⟨_, rfl, .rfl⟩, ⟨⟨_, rfl, .rfl⟩, ⟨⟨_, rfl, .rfl⟩, ⟨⟨_, rfl, .rfl⟩, ⟨⟨_, rfl, .rfl⟩, ⟨⟨_, rfl, (.flat rfl)⟩, trivial⟩⟩⟩⟩⟩⟩⟩ ⟨(.e rfl), ⟨(.e rfl), ⟨(.e rfl), ⟨(.e rfl), ⟨(.e rfl), ⟨(.w rfl (.cons (.flat rfl) (.cons (.flat rfl) (.cons (.flat rfl) (.cons (.flat rfl) (.cons (.flat rfl) (.cons (.flat rfl) (.cons (.flat rfl) (.cons (.flat rfl) .nil))))))))), trivial⟩⟩⟩⟩⟩⟩ rfl rfl⟩ ?_
    rintro n24 k20 s18 _ rfl w25 w26 w27 w28 H
    refine ev_seq ?_
    refine ev_seq ?_
    refine ev_region ?_
    refine rq rfl rfl (q_move rfl) ?_
    refine rq rfl rfl (q_fld_p rfl) ?_
    refine rq rfl rfl (q_fld_p rfl) ?_
    refine rq rfl rfl (q_load1 rfl rfl rfl) ?_
    refine rq rfl rfl (q_min rfl rfl) ?_
    refine rq rfl rfl (q_lss rfl rfl) ?_
    refine run_nil ?_
    refine ev_cond rfl (fun hc => ?_) (fun hc => ?_)
    · obtain ⟨n30, n30_e, w29, H⟩ := forN_in hc w25 H
      refine ev_skip ?_
      obtain ⟨j31, j31_e, H⟩ := jn_inv H
      refine ev_join (fun σ' => ∃ (p32 : List GFact) (p33 : List Bool), j31 p32 p33 = some r ∧ σ' = mkS [(6, .p 6 0 b2 0), (7, .p 7 0 b3 0), (8, .p 8 0 b4 0), (9, .p 9 0 b17 0), (10, .v true (vi k20)), (15, .v false (.c 89 [.q (V.cells (V.l 8 (List.map GFact.e x5.1))), .q (V.cells (GKey.e x5.2.1)), .q (V.cells (vi x5.2.2))])), (16, .v true (GFact.e x10))] [.e 9005 0 (some (l2, 0)) (.obj (L2 .busy none)), .e 9004 0 (some (D2, 0)) (.obj (.deferred (some []))), .e 6 0 (some (b2, 1024)) (.row 155 (els true (List.map vi (List.replicate 1024 0)))), .e 7 0 (some (b3, 8192)) (.row 166 (els true (List.map GFact.e p32))), .e 8 0 (some (b4, 1024)) (.row 167 (els true (List.map vb p33))), .e 9 0 (some (b17, 8)) (.row 120 [.v true (vi x10.key.kind), .v true (vi x10.key.subject), .v true (vi x10.key.object), .v true (vi x10.value), .v true (vi x10.valid.from_), .v true (vi x10.valid.to_), .v true (vi x10.known), .v true (vi x10.no_)])] [] (0, false)) ?_ ?_
      · rintro _ ⟨p32, p33, H, rfl⟩
        subst j31_e
        refine ev_region ?_
        refine rq rfl rfl (q_move rfl) ?_
        refine rq rfl rfl (q_add rfl rfl) ?_
        refine rq rfl rfl (q_assign rfl) ?_
        refine run_nil ?_
        exact ⟨_, _, _, n30_e, H, rfl, shift_mk ⟨⟨_, rfl, .rfl⟩, ⟨⟨_, rfl, .rfl⟩, ⟨⟨_, rfl, .rfl⟩, ⟨⟨_, rfl, .rfl⟩, ⟨⟨_, rfl, (.eq (congrArg (fun n => D.v true (vi n)) (wrap_succ' (by omega) w29 w28)))⟩, ⟨⟨_, rfl, .rfl⟩, ⟨⟨_, rfl, (.flat rfl)⟩, trivial⟩⟩⟩⟩⟩⟩⟩ ⟨(.e rfl), ⟨(.e rfl), ⟨(.e rfl), ⟨(.e rfl), ⟨(.e rfl), ⟨(.w rfl (.cons (.flat rfl) (.cons (.flat rfl) (.cons (.flat rfl) (.cons (.flat rfl) (.cons (.flat rfl) (.cons (.flat rfl) (.cons (.flat rfl) (.cons (.flat rfl) .nil))))))))), trivial⟩⟩⟩⟩⟩⟩ rfl rfl⟩
      · clear j31_e
        refine ev_block ?_
        refine ev_seq ?_
        obtain ⟨x34, x34_h, H⟩ := bd_inv H
        obtain ⟨w35, H⟩ := gdd_inv H
        obtain ⟨x36, x36_h, _, H⟩ := bdc_inv H
        obtain ⟨w37, H⟩ := gdcd_inv H
        obtain ⟨x38, x38_h, _, H⟩ := bdc_inv H
        refine ev_draw rfl (by kernel_rfl) ?_
        refine qq rfl rfl (q_move rfl) ?_
        refine qq rfl rfl (q_idx_a rfl rfl (idx_inv x34_h).1 w35) ?_
        refine qq rfl rfl (q_load_el0 (E := vb) (fun _ => rfl) rfl rfl (idx_inv x34_h).2.1) ?_
        refine qq rfl rfl (q_not rfl) ?_
        refine qq rfl rfl (q_move rfl) ?_
        refine qc (l := []) ⟨⟨_, _, _, rfl, rfl, rfl, rfl⟩, rfl, fun hc => q_loadN rfl rfl rfl rfl, trivial⟩ rfl rfl ?_
        refine qc (l := []) ⟨⟨_, _, _, rfl, rfl, rfl, rfl⟩, rfl, fun hc => q_move rfl, trivial⟩ rfl rfl ?_
        refine qc (l := [35]) ⟨⟨_, _, _, rfl, rfl, rfl, rfl⟩, rfl, fun hc => q_idx_a rfl rfl (idx_inv (x36_h hc)).1 (w37 hc), ⟨fun h => h, trivial⟩⟩ rfl rfl ?_
        refine qc (l := [36]) ⟨⟨_, _, _, rfl, rfl, rfl, rfl⟩, rfl, fun hc => q_load_ee (E := GFact.e) (z := 8) (fun _ => ⟨rfl, rfl⟩) rfl rfl rfl (idx_inv (x36_h hc)).2.1, ⟨fun h => h, trivial⟩⟩ rfl rfl ?_
        refine qc (l := [34, 37]) ⟨⟨_, _, _, rfl, rfl, rfl, rfl⟩, rfl, fun hc => q_call rfl (.v _ _ (fun e => nomatch e)) (.v rfl (.v rfl ArgsOk.nil)) inferInstance (facts_compare_c  (x38_h hc)), ⟨fun h => h, ⟨fun h => h, trivial⟩⟩⟩ rfl rfl ?_
        refine qc (l := [38]) ⟨⟨_, _, _, rfl, rfl, rfl, rfl⟩, rfl, fun hc => q_geq rfl rfl, ⟨fun h => h, trivial⟩⟩ rfl rfl ?_
        refine qq rfl rfl (q_pickb rfl rfl rfl PB.v (PB.c (fun hp => by rw [hp]; rfl))) ?_
        refine qn ?_
        refine ev_cond rfl (fun hc => ?_) (fun hc => ?_)
        · replace H := ct hc H
          refine ev_region ?_
          refine rq rfl rfl (q_move rfl) ?_
          refine rq rfl rfl (q_move rfl) ?_
          refine rq rfl rfl (q_loadN rfl rfl rfl rfl) ?_
          obtain ⟨x39, x39_h, H⟩ := bd_inv H
          obtain ⟨w40, H⟩ := gdd_inv H
          refine rq rfl rfl (q_idx_a rfl rfl (idx_inv x39_h).1 w40) ?_
          refine re rfl (e_store_ee (E := GFact.e) (z := 8) rfl rfl (fun _ => ⟨rfl, rfl⟩) (idx_inv x39_h).2.2.1 rfl rfl) ?_; rintro _ rfl
          obtain ⟨w41, H⟩ := gdd_inv H
          refine rq rfl rfl (q_idx_a rfl rfl (idx_inv x34_h).1 w41) ?_
          refine re rfl (e_store_ee (E := vb) (z := 1) rfl rfl (fun _ => ⟨rfl, rfl⟩) (idx_inv x34_h).2.2.1 rfl rfl) ?_; rintro _ rfl
          refine run_nil ?_
          exact ⟨_, ⟨(s18.1).set (k20).toNat x10, (s18.2).set (k20).toNat true, H, rfl⟩, shift_mk ⟨⟨_, rfl, .rfl⟩, ⟨⟨_, rfl, .rfl⟩, ⟨⟨_, rfl, .rfl⟩, ⟨⟨_, rfl, .rfl⟩, ⟨⟨_, rfl, (.flat rfl)⟩, ⟨⟨_, rfl, .rfl⟩, ⟨⟨_, rfl, (.flat rfl)⟩, trivial⟩⟩⟩⟩⟩⟩⟩ ⟨(.e rfl), ⟨(.e rfl), ⟨(.e rfl), ⟨(.e rfl), ⟨(.e rfl), ⟨(.w rfl (.cons (.flat rfl) (.cons (.flat rfl) (.cons (.flat rfl) (.cons (.flat rfl) (.cons (.flat rfl) (.cons (.flat rfl) (.cons (.flat rfl) (.cons (.flat rfl) .nil))))))))), trivial⟩⟩⟩⟩⟩⟩ rfl rfl⟩
        · replace H := cf hc H
          refine ev_skip ?_
          exact ⟨_, ⟨s18.1, s18.2, H, rfl⟩, shift_mk ⟨⟨_, rfl, .rfl⟩, ⟨⟨_, rfl, .rfl⟩, ⟨⟨_, rfl, .rfl⟩, ⟨⟨_, rfl, .rfl⟩, ⟨⟨_, rfl, (.flat rfl)⟩, ⟨⟨_, rfl, .rfl⟩, ⟨⟨_, rfl, (.flat rfl)⟩, trivial⟩⟩⟩⟩⟩⟩⟩ ⟨(.e rfl), ⟨(.e rfl), ⟨(.e rfl), ⟨(.e rfl), ⟨(.e rfl), ⟨(.w rfl (.cons (.flat rfl) (.cons (.flat rfl) (.cons (.flat rfl) (.cons (.flat rfl) (.cons (.flat rfl) (.cons (.flat rfl) (.cons (.flat rfl) (.cons (.flat rfl) .nil))))))))), trivial⟩⟩⟩⟩⟩⟩ rfl rfl⟩
    · replace H := forN_out hc w25 H
      refine ev_exit ?_
      exact ⟨rfl, _, ⟨(s18.1, s18.2), H, rfl⟩, cov_mk rfl ⟨rfl, ⟨rfl, ⟨rfl, ⟨rfl, trivial⟩⟩⟩⟩ ⟨rfl, ⟨rfl, ⟨rfl, ⟨rfl, ⟨rfl, trivial⟩⟩⟩⟩⟩ rfl⟩
  · rintro _ ⟨s7, H, rfl⟩
    rw [List.length_map] at H
    subst h13; subst h14
    replace H := forL_end H
    refine ev_seq ?_
    refine ev_seq ?_
    refine ev_region ?_
    refine rq rfl rfl (q_move rfl) ?_
    refine run_nil ?_
    refine ev_block ?_
    refine ev_forN H (fun k44 s42 σ' => σ' = mkS [(6, .p 6 0 b2 0), (7, .p 7 0 b3 0), (8, .p 8 0 b4 0), (46, .v true (vi k44))] [.e 9004 0 (some (D2, 0)) (.obj (.deferred (some []))), .e 6 0 (some (b2, 1024)) (.row 155 (els true (List.map vi s42))), .e 7 0 (some (b3, 8192)) (.row 166 (els true (List.map GFact.e s7.1))), .e 8 0 (some (b4, 1024)) (.row 167 (els true (List.map vb s7.2)))] ({ target := .collected D2, args := #[] } :: []) (0, false)) ⟨_, rfl, shift_mk ⟨⟨_, rfl, .rfl⟩, ⟨⟨_, rfl, .rfl⟩, ⟨⟨_, rfl, .rfl⟩, ⟨⟨_, rfl, .rfl⟩, trivial⟩⟩⟩⟩ ⟨(.e rfl), ⟨(.e rfl), ⟨(.e rfl), ⟨(.e rfl), trivial⟩⟩⟩⟩ rfl rfl⟩ ?_
    rintro n47 k44 s42 _ rfl w48 w49 w50 w51 H
    refine ev_seq ?_
    refine ev_region ?_
    refine rq rfl rfl (q_lss rfl rfl) ?_
    refine run_nil ?_
    refine ev_seq ?_
    refine ev_cond rfl (fun hc => ?_) (fun hc => ?_)
    · obtain ⟨n53, n53_e, w52, H⟩ := forN_in hc w48 H
      refine ev_skip ?_
      obtain ⟨j54, j54_e, H⟩ := jn_inv H
      refine ev_join (fun σ' => ∃ (p55 : List Int), j54 p55 = some r ∧ σ' = mkS [(6, .p 6 0 b2 0), (7, .p 7 0 b3 0), (8, .p 8 0 b4 0), (46, .v true (vi k44))] [.e 9004 0 (some (D2, 0)) (.obj (.deferred (some []))), .e 6 0 (some (b2, 1024)) (.row 155 (els true (List.map vi p55))), .e 7 0 (some (b3, 8192)) (.row 166 (els true (List.map GFact.e s7.1))), .e 8 0 (some (b4, 1024)) (.row 167 (els true (List.map vb s7.2)))] ({ target := .collected D2, args := #[] } :: []) (0, false)) ?_ ?_
      · rintro _ ⟨p55, H, rfl⟩
        subst j54_e
        refine ev_region ?_
        refine rq rfl rfl (q_add rfl rfl) ?_
        refine rq rfl rfl (q_move rfl) ?_
        refine run_nil ?_
        exact ⟨_, _, _, n53_e, H, rfl, shift_mk ⟨⟨_, rfl, .rfl⟩, ⟨⟨_, rfl, .rfl⟩, ⟨⟨_, rfl, .rfl⟩, ⟨⟨_, rfl, (.eq (congrArg (fun n => D.v true (vi n)) (wrap_succ' (by omega) w52 w51)))⟩, trivial⟩⟩⟩⟩ ⟨(.e rfl), ⟨(.e rfl), ⟨(.e rfl), ⟨(.e rfl), trivial⟩⟩⟩⟩ rfl rfl⟩
      · clear j54_e
        refine ev_block ?_
        refine ev_seq ?_
        refine ev_region ?_
        refine rq rfl rfl (q_move rfl) ?_
        refine rq rfl rfl (q_assign rfl) ?_
        refine run_nil ?_
        refine ev_seq ?_
        refine ev_region ?_
        refine rq rfl rfl (q_move rfl) ?_
        obtain ⟨x56, x56_h, H⟩ := bd_inv H
        obtain ⟨w57, H⟩ := gdd_inv H
        refine rq rfl rfl (q_idx_a rfl rfl (idx_inv x56_h).1 w57) ?_
        refine re rfl (e_store_ee (E := vi) (z := 1) rfl rfl (fun _ => ⟨rfl, rfl⟩) (idx_inv x56_h).2.2.1 rfl rfl) ?_; rintro _ rfl
        refine run_nil ?_
        refine ev_seq ?_
        refine ev_region ?_
        refine rq rfl rfl (q_move rfl) ?_
        obtain ⟨x58, x58_h, H⟩ := bd_inv H
        obtain ⟨w59, H⟩ := gdd_inv H
        refine rq rfl rfl (q_idx_a rfl rfl (idx_inv x58_h).1 w59) ?_
        refine rq rfl rfl (q_load_el0 (E := vb) (fun _ => rfl) rfl rfl (idx_inv x58_h).2.1) ?_
        refine run_nil ?_
        refine ev_cond rfl (fun hc => ?_) (fun hc => ?_)
        · replace H := ct hc H
          refine ev_region ?_
          refine rq rfl rfl (q_move rfl) ?_
          refine rq rfl rfl (q_move rfl) ?_
          obtain ⟨x60, x60_h, H⟩ := bd_inv H
          obtain ⟨w61, H⟩ := gdd_inv H
          refine rq rfl rfl (q_idx_a rfl rfl (idx_inv x60_h).1 w61) ?_
          refine rq rfl rfl (q_fld_p rfl) ?_
          refine rq rfl rfl (q_load_el (E := GFact.e) (z := 8) (fun _ => rfl) rfl rfl (idx_inv x60_h).2.1 rfl) ?_
          refine rq rfl rfl (q_max rfl rfl) ?_
          obtain ⟨x62, x62_h, H⟩ := bd_inv H
          obtain ⟨w63, H⟩ := gdd_inv H
          refine rq rfl rfl (q_idx_a rfl rfl (idx_inv x62_h).1 w63) ?_
          refine re rfl (e_store_ee (E := vi) (z := 1) rfl rfl (fun _ => ⟨rfl, rfl⟩) (idx_inv x62_h).2.2.1 rfl rfl) ?_; rintro _ rfl
          refine run_nil ?_
          exact ⟨_, ⟨((s42).set (k44).toNat (-1)).set (k44).toNat (max x60.value (-1)), H, rfl⟩, shift_mk ⟨⟨_, rfl, .rfl⟩, ⟨⟨_, rfl, .rfl⟩, ⟨⟨_, rfl, .rfl⟩, ⟨⟨_, rfl, (.flat rfl)⟩, trivial⟩⟩⟩⟩ ⟨(.e rfl), ⟨(.e rfl), ⟨(.e rfl), ⟨(.e rfl), trivial⟩⟩⟩⟩ rfl rfl⟩
        · replace H := cf hc H
          refine ev_skip ?_
          exact ⟨_, ⟨(s42).set (k44).toNat (-1), H, rfl⟩, shift_mk ⟨⟨_, rfl, .rfl⟩, ⟨⟨_, rfl, .rfl⟩, ⟨⟨_, rfl, .rfl⟩, ⟨⟨_, rfl, (.flat rfl)⟩, trivial⟩⟩⟩⟩ ⟨(.e rfl), ⟨(.e rfl), ⟨(.e rfl), ⟨(.e rfl), trivial⟩⟩⟩⟩ rfl rfl⟩
    · replace H := forN_out hc w48 H
      refine ev_exit ?_
      refine ev_seq ?_
      refine ev_region ?_
      obtain ⟨w64, H⟩ := gdd_inv H
      refine rq rfl rfl (q_load_at (E := vi) (fun _ => rfl) rfl rfl w64 rfl) ?_
      refine re rfl (e_store_at (E := vi) (fun _ => ⟨rfl, rfl⟩) rfl rfl w64 w64 rfl rfl) ?_; rintro _ rfl
      refine run_nil ?_
      refine ev_ret ?_
      exact ret_okm [V.st (List.map vi s42)] (congrArg (fun r : (List Int) => V.st (List.map vi r)) (Option.some.inj H)) (.cons 9004 0 D2 0 rfl (.nil _)) (.cons (res_at (E := vi) (fun _ => rfl) rfl rfl rfl rfl w64 rfl (fun _ => rfl)) .nil)
def facts_Points_m (a0 : List GFact) (a1 : GKey) (a2 : Int) (a3 : Int) (a4 : Int) : Option (List GPoint) := bd (facts_values_m a0 a1 a4) fun x2 => gd (decide ((List.replicate 1024 0).length = 1024)) <| gd (decide (x2.length = 1024)) <| forN (max 0 a2) (min a3 1024) (fun (k8 : Int) (s6 : (List GPoint)) loop7 => jn (fun (p20 : List GPoint) => loop7 p20) fun j19 => bd (idx x2 k8) fun x22 => gd (decide (k8 < 1024)) <| bif decide (0 ≤ x22) then (gd (decide (k8 < 1024)) <| gd (decide ((s6.length + ([(⟨k8, x22⟩ : GPoint)] : List GPoint).length) * 17 ≤ 140737488355328)) <| j19 (s6 ++ ([(⟨k8, x22⟩ : GPoint)] : List GPoint))) else (j19 s6)) (fun (s6 : (List GPoint)) => some s6) ([] : List GPoint)
theorem facts_Points_c {a0 : List GFact} {a1 : GKey} {a2 : Int} {a3 : Int} {a4 : Int} {r : (List GPoint)} (H : facts_Points_m a0 a1 a2 a3 a4 = some r) : PureC Try.prog true 60 [V.l 8 (List.map GFact.e a0), GKey.e a1, vi a2, vi a3, vi a4] (V.l 2 (List.map GPoint.e r)) := by
  unfold facts_Points_m at H
  refine pure_intro (N := 38) Try.func60 rfl rfl rfl rfl fun C hO => ?_
  refine ev_shift (shift_mk (fs := [(0, .v false (V.l 8 (List.map GFact.e a0))), (1, .v true (GKey.e a1)), (2, .v true (vi a2)), (3, .v true (vi a3)), (4, .v true (vi a4))]) (es := []) ⟨⟨_, rfl, .rfl⟩, ⟨⟨_, rfl, (.flat rfl)⟩, ⟨⟨_, rfl, (.flat rfl)⟩, ⟨⟨_, rfl, (.flat rfl)⟩, ⟨⟨_, rfl, (.flat rfl)⟩, trivial⟩⟩⟩⟩⟩ trivial rfl rfl) ?_
  refine ev_seq ?_
  refine ev_region ?_
  refine re rfl (e_box 6 0 rfl rfl rfl) ?_; rintro _ ⟨b1, rfl⟩
  refine rq rfl rfl (q_assign rfl) ?_
  refine run_nil ?_
  refine ev_seq ?_
  refine ev_region ?_
  refine rq rfl rfl (q_move rfl) ?_
  refine rq rfl rfl (q_loadN rfl rfl rfl rfl) ?_
  refine rq rfl rfl (q_move rfl) ?_
  obtain ⟨x2, x2_h, H⟩ := bd_inv H
  refine rq rfl rfl (q_call rfl (.v _ _ (fun e => nomatch e)) (.v rfl (.v rfl (.v rfl ArgsOk.nil))) inferInstance (facts_values_c  x2_h)) ?_
  refine re rfl (e_alloc_at (E := vi) (x0 := 0) 11 0 rfl rfl rfl rfl rfl) ?_; rintro _ ⟨b3, rfl⟩
  obtain ⟨w4, H⟩ := gdd_inv H
  obtain ⟨w5, H⟩ := gdd_inv H
  refine re rfl (e_store_at (E := vi) (fun _ => ⟨rfl, rfl⟩) rfl rfl w4 w5 rfl rfl) ?_; rintro _ rfl
  refine run_nil ?_
  refine ev_seq ?_
  refine ev_seq ?_
  refine ev_region ?_
  refine rq rfl rfl (q_move rfl) ?_
  refine rq rfl rfl (q_max rfl rfl) ?_
  refine rq rfl rfl (q_assign rfl) ?_
  refine run_nil ?_
  refine ev_block ?_
  refine ev_forN H (fun k8 s6 σ' => ∃ (q11 : Pl), σ' = mkS [(3, .v true (vi a3)), (10, .o 36 0 q11 2 0 s6.length), (11, .p 11 0 b3 0), (12, .v true (vi k8))] [.e 36 0 q11 (.row 72 (els true (List.map GPoint.e s6))), .e 11 0 (some (b3, 1024)) (.row 155 (els true (List.map vi x2)))] [] (0, false)) ⟨_, ⟨none, rfl⟩, shift_mk ⟨⟨_, rfl, (.flat rfl)⟩, ⟨⟨_, rfl, .nilo⟩, ⟨⟨_, rfl, .rfl⟩, ⟨⟨_, rfl, .rfl⟩, trivial⟩⟩⟩⟩ ⟨(.nn rfl), ⟨(.e rfl), trivial⟩⟩ rfl rfl⟩ ?_
  rintro n12 k8 s6 _ ⟨q11, rfl⟩ w13 w14 w15 w16 H
  refine ev_seq ?_
  refine ev_seq ?_
  refine ev_region ?_
  refine rq rfl rfl (q_move rfl) ?_
  refine rq rfl rfl (q_move rfl) ?_
  refine rq rfl rfl (q_min rfl rfl) ?_
  refine rq rfl rfl (q_lss rfl rfl) ?_
  refine run_nil ?_
  refine ev_cond rfl (fun hc => ?_) (fun hc => ?_)
  · obtain ⟨n18, n18_e, w17, H⟩ := forN_in hc w13 H
    refine ev_skip ?_
    obtain ⟨j19, j19_e, H⟩ := jn_inv H
    refine ev_join (fun σ' => ∃ (p20 : List GPoint) (q21 : Pl), j19 p20 = some r ∧ σ' = mkS [(3, .v true (vi a3)), (10, .o 36 0 q21 2 0 p20.length), (11, .p 11 0 b3 0), (12, .v true (vi k8))] [.e 36 0 q21 (.row 72 (els true (List.map GPoint.e p20))), .e 11 0 (some (b3, 1024)) (.row 155 (els true (List.map vi x2)))] [] (0, false)) ?_ ?_
    · rintro _ ⟨p20, q21, H, rfl⟩
      subst j19_e
      refine ev_region ?_
      refine rq rfl rfl (q_move rfl) ?_
      refine rq rfl rfl (q_add rfl rfl) ?_
      refine rq rfl rfl (q_assign rfl) ?_
      refine run_nil ?_
      exact ⟨_, _, _, n18_e, H, ⟨q21, rfl⟩, shift_mk ⟨⟨_, rfl, (.flat rfl)⟩, ⟨⟨_, rfl, .rfl⟩, ⟨⟨_, rfl, .rfl⟩, ⟨⟨_, rfl, (.eq (congrArg (fun n => D.v true (vi n)) (wrap_succ' (by omega) w17 w16)))⟩, trivial⟩⟩⟩⟩ ⟨(.e rfl), ⟨(.e rfl), trivial⟩⟩ rfl rfl⟩
    · clear j19_e
      refine ev_block ?_
      refine ev_seq ?_
      refine ev_region ?_
      refine rq rfl rfl (q_move rfl) ?_
      obtain ⟨x22, x22_h, H⟩ := bd_inv H
      obtain ⟨w23, H⟩ := gdd_inv H
      refine rq rfl rfl (q_idx_a rfl rfl (idx_inv x22_h).1 w23) ?_
      refine rq rfl rfl (q_load_el0 (E := vi) (fun _ => rfl) rfl rfl (idx_inv x22_h).2.1) ?_
      refine rq rfl rfl (q_geq rfl rfl) ?_
      refine run_nil ?_
      refine ev_cond rfl (fun hc => ?_) (fun hc => ?_)
      · replace H := ct hc H
        refine ev_region ?_
        refine rq rfl rfl (q_move rfl) ?_
        refine rq rfl rfl (q_move rfl) ?_
        refine rq rfl rfl (q_move rfl) ?_
        obtain ⟨w24, H⟩ := gdd_inv H
        refine rq rfl rfl (q_idx_a rfl rfl (idx_inv x22_h).1 w24) ?_
        refine rq rfl rfl (q_load_el0 (E := vi) (fun _ => rfl) rfl rfl (idx_inv x22_h).2.1) ?_
        refine rq rfl rfl (q_build rfl (.v rfl rfl rfl rfl rfl (.v rfl rfl rfl rfl rfl .nil))) ?_
        refine rq rfl rfl (q_buildSlice (z := 2) (xs := List.map GPoint.e ([(⟨k8, x22⟩ : GPoint)] : List GPoint)) (fl := true) rfl rfl rfl rfl (by simp [V.plain, V.cells, GPoint.e, vi, vb]) rfl) ?_
        obtain ⟨w25, H⟩ := gdd_inv H
        refine re rfl (e_appt rfl rfl rfl (fun _ => ⟨rfl, rfl⟩) rfl rfl rfl w25 rfl) ?_; rintro _ ⟨q26, rfl⟩
        refine rq rfl rfl (q_assign rfl) ?_
        refine run_nil ?_
        exact ⟨_, ⟨s6 ++ ([(⟨k8, x22⟩ : GPoint)] : List GPoint), q26, H, rfl⟩, shift_mk ⟨⟨_, rfl, (.flat rfl)⟩, ⟨⟨_, rfl, .rfl⟩, ⟨⟨_, rfl, .rfl⟩, ⟨⟨_, rfl, (.flat rfl)⟩, trivial⟩⟩⟩⟩ ⟨(.e rfl), ⟨(.e rfl), trivial⟩⟩ rfl rfl⟩
      · replace H := cf hc H
        refine ev_skip ?_
        exact ⟨_, ⟨s6, q11, H, rfl⟩, shift_mk ⟨⟨_, rfl, (.flat rfl)⟩, ⟨⟨_, rfl, .rfl⟩, ⟨⟨_, rfl, .rfl⟩, ⟨⟨_, rfl, (.flat rfl)⟩, trivial⟩⟩⟩⟩ ⟨(.e rfl), ⟨(.e rfl), trivial⟩⟩ rfl rfl⟩
  · replace H := forN_out hc w13 H
    refine ev_exit ?_
    refine ev_seq ?_
    refine ev_region ?_
    refine rq rfl rfl (q_move rfl) ?_
    refine rq rfl rfl (q_assign rfl) ?_
    refine run_nil ?_
    refine ev_ret ?_
    exact ret_ok [V.l 2 (List.map GPoint.e s6)] (congrArg (fun r : (List GPoint) => V.l 2 (List.map GPoint.e r)) (Option.some.inj H)) rfl (.cons (.tmp rfl (.all rfl (List.length_map _) (els_plain fun _ => ⟨rfl, rfl⟩) (fun _ => rfl))) .nil)
def stock_Put_m (a0 : GWorld) (a1 : GLot) (a2 : GSpan) (a3 : Int) : Option (GWorld × Int) := bd (facts_Check_m a0.facts) fun x7 => bif x7 != 0 then (some ((⟨(⟨(⟨[], [], [], [], [], [], [], []⟩ : GSource), [], []⟩ : GTables), []⟩ : GWorld), x7)) else (bdc (!(bif decide (a1.no_ < 0) then true else decide (1024 ≤ a1.no_))) (stock_right_m a1) fun x8 => bif bif bif decide (a1.no_ < 0) then true else decide (1024 ≤ a1.no_) then true else !x8 then (some ((⟨(⟨(⟨[], [], [], [], [], [], [], []⟩ : GSource), [], []⟩ : GTables), []⟩ : GWorld), 180)) else (jn (fun (p69 : Int) (p70 : List GUnit) (p71 : List GItem) (p72 : List ByteArray) (p73 : List GMachine) (p74 : List GOption) (p75 : List (List GCond)) (p76 : List GRecipe) (p77 : List GSwap) (p78 : List Int) (p79 : List (List GInst)) (p80 : List GFact) => bd (stock_head_m) fun x97 => bd (facts_Points_m a0.facts x97 0 1024 a3) fun x98 => forL x98 (fun (k101 : Nat) (x105 : GPoint) (s99 : Int × Int) loop100 => jn (fun (p109 : Int) => loop100 (p109, max s99.2 x105.value)) fun j108 => bif bif bif decide (a2.from_ ≤ x105.day) then decide (x105.day < a2.to_) else false then decide (a1.no_ < x105.value) else false then (j108 (wr (s99.1 + 1))) else (j108 s99.1)) (fun (s99 : Int × Int) => jn (fun (p112 : Int) (p113 : List GUnit) (p114 : List GItem) (p115 : List ByteArray) (p116 : List GMachine) (p117 : List GOption) (p118 : List (List GCond)) (p119 : List GRecipe) (p120 : List GSwap) (p121 : List Int) (p122 : List (List GInst)) (p123 : List GFact) => bif p112 != 0 then (some ((⟨(⟨(⟨[], [], [], [], [], [], [], []⟩ : GSource), [], []⟩ : GTables), []⟩ : GWorld), p112)) else (some ((⟨(⟨(⟨p113, p114, p115, p116, p117, p118, p119, p120⟩ : GSource), p121, p122⟩ : GTables), p123⟩ : GWorld), 0))) fun j111 => bif decide (s99.1 < (wr (a2.to_ - a2.from_))) then (bd (stock_Put_1_m x97 s99.2 (⟨0, 1024⟩ : GSpan) p69 (⟨(⟨(⟨p70, p71, p72, p73, p74, p75, p76, p77⟩ : GSource), p78, p79⟩ : GTables), p80⟩ : GWorld) a3) fun x124 => j111 x124.1 x124.2.tables.source.units x124.2.tables.source.items x124.2.tables.source.plants x124.2.tables.source.machines x124.2.tables.source.options x124.2.tables.source.forbids x124.2.tables.source.recipes x124.2.tables.source.swaps x124.2.tables.levels x124.2.tables.codes x124.2.facts) else (j111 p69 p70 p71 p72 p73 p74 p75 p76 p77 p78 p79 p80)) (0, wr (a1.no_ + 1))) fun j86 => jn (fun (p55 : Int) (p56 : List GUnit) (p57 : List GItem) (p58 : List ByteArray) (p59 : List GMachine) (p60 : List GOption) (p61 : List (List GCond)) (p62 : List GRecipe) (p63 : List GSwap) (p64 : List Int) (p65 : List (List GInst)) (p66 : List GFact) => bd (stock_Put_1_m (⟨1, a1.no_, 4⟩ : GKey) a1.state a2 p55 (⟨(⟨(⟨p56, p57, p58, p59, p60, p61, p62, p63⟩ : GSource), p64, p65⟩ : GTables), p66⟩ : GWorld) a3) fun x96 => j86 x96.1 x96.2.tables.source.units x96.2.tables.source.items x96.2.tables.source.plants x96.2.tables.source.machines x96.2.tables.source.options x96.2.tables.source.forbids x96.2.tables.source.recipes x96.2.tables.source.swaps x96.2.tables.levels x96.2.tables.codes x96.2.facts) fun j85 => jn (fun (p41 : Int) (p42 : List GUnit) (p43 : List GItem) (p44 : List ByteArray) (p45 : List GMachine) (p46 : List GOption) (p47 : List (List GCond)) (p48 : List GRecipe) (p49 : List GSwap) (p50 : List Int) (p51 : List (List GInst)) (p52 : List GFact) => bd (stock_Put_1_m (⟨1, a1.no_, 3⟩ : GKey) a1.expiry a2 p41 (⟨(⟨(⟨p42, p43, p44, p45, p46, p47, p48, p49⟩ : GSource), p50, p51⟩ : GTables), p52⟩ : GWorld) a3) fun x94 => j85 x94.1 x94.2.tables.source.units x94.2.tables.source.items x94.2.tables.source.plants x94.2.tables.source.machines x94.2.tables.source.options x94.2.tables.source.forbids x94.2.tables.source.recipes x94.2.tables.source.swaps x94.2.tables.levels x94.2.tables.codes x94.2.facts) fun j84 => jn (fun (p27 : Int) (p28 : List GUnit) (p29 : List GItem) (p30 : List ByteArray) (p31 : List GMachine) (p32 : List GOption) (p33 : List (List GCond)) (p34 : List GRecipe) (p35 : List GSwap) (p36 : List Int) (p37 : List (List GInst)) (p38 : List GFact) => bd (stock_Put_1_m (⟨1, a1.no_, 2⟩ : GKey) a1.amount a2 p27 (⟨(⟨(⟨p28, p29, p30, p31, p32, p33, p34, p35⟩ : GSource), p36, p37⟩ : GTables), p38⟩ : GWorld) a3) fun x92 => j84 x92.1 x92.2.tables.source.units x92.2.tables.source.items x92.2.tables.source.plants x92.2.tables.source.machines x92.2.tables.source.options x92.2.tables.source.forbids x92.2.tables.source.recipes x92.2.tables.source.swaps x92.2.tables.levels x92.2.tables.codes x92.2.facts) fun j83 => jn (fun (p13 : Int) (p14 : List GUnit) (p15 : List GItem) (p16 : List ByteArray) (p17 : List GMachine) (p18 : List GOption) (p19 : List (List GCond)) (p20 : List GRecipe) (p21 : List GSwap) (p22 : List Int) (p23 : List (List GInst)) (p24 : List GFact) => bd (stock_Put_1_m (⟨1, a1.no_, 1⟩ : GKey) a1.plant a2 p13 (⟨(⟨(⟨p14, p15, p16, p17, p18, p19, p20, p21⟩ : GSource), p22, p23⟩ : GTables), p24⟩ : GWorld) a3) fun x90 => j83 x90.1 x90.2.tables.source.units x90.2.tables.source.items x90.2.tables.source.plants x90.2.tables.source.machines x90.2.tables.source.options x90.2.tables.source.forbids x90.2.tables.source.recipes x90.2.tables.source.swaps x90.2.tables.levels x90.2.tables.codes x90.2.facts) fun j82 => jn (fun (_ : Unit) => bd (stock_Put_1_m (⟨1, a1.no_, 0⟩ : GKey) a1.item a2 0 a0 a3) fun x88 => j82 x88.1 x88.2.tables.source.units x88.2.tables.source.items x88.2.tables.source.plants x88.2.tables.source.machines x88.2.tables.source.options x88.2.tables.source.forbids x88.2.tables.source.recipes x88.2.tables.source.swaps x88.2.tables.levels x88.2.tables.codes x88.2.facts) fun j81 => j81 ()))
set_option maxHeartbeats 4000000 in
theorem stock_Put_c {a0 : GWorld} {a1 : GLot} {a2 : GSpan} {a3 : Int} {r : GWorld × Int} (H : stock_Put_m a0 a1 a2 a3 = some r) : PureC Try.prog false 38 [GWorld.e a0, GLot.e a1, GSpan.e a2, vi a3] (V.t [GWorld.e r.1, vi r.2]) := by
  unfold stock_Put_m at H
  refine pure_intro (N := 108) Try.func38 rfl rfl rfl rfl fun C hO => ?_
  refine ev_shift (shift_mk (fs := [(0, .v false (GWorld.e a0)), (1, .v true (GLot.e a1)), (2, .v true (GSpan.e a2)), (3, .v true (vi a3))]) (es := []) ⟨⟨_, rfl, .rfl⟩, ⟨⟨_, rfl, (.flat rfl)⟩, ⟨⟨_, rfl, (.flat rfl)⟩, ⟨⟨_, rfl, (.flat rfl)⟩, trivial⟩⟩⟩⟩ trivial rfl rfl) ?_
  refine ev_seq ?_
  refine ev_region ?_
  refine re rfl (e_box 4 0 rfl rfl rfl) ?_; rintro _ ⟨b1, rfl⟩
  refine re rfl (e_box 5 0 rfl rfl rfl) ?_; rintro _ ⟨b2, rfl⟩
  refine re rfl (e_box 6 0 rfl rfl rfl) ?_; rintro _ ⟨b3, rfl⟩
  refine re rfl (e_box 7 0 rfl rfl rfl) ?_; rintro _ ⟨b4, rfl⟩
  refine re rfl (e_alloc 8 0 rfl rfl) ?_; rintro _ ⟨b5, rfl⟩
  refine re rfl (e_alloc 100360 0 rfl rfl) ?_; rintro _ ⟨b6, rfl⟩
  refine run_nil ?_
  refine ev_seq ?_
  refine ev_seq ?_
  refine ev_region ?_
  refine rq rfl rfl (q_fld_p rfl) ?_
  refine rq rfl rfl (q_load1 rfl rfl rfl) ?_
  obtain ⟨x7, x7_h, H⟩ := bd_inv H
  refine rq rfl rfl (q_call rfl (.v _ _ (fun e => nomatch e)) (.v rfl ArgsOk.nil) inferInstance (facts_Check_c  x7_h)) ?_
  refine rq rfl rfl (q_assign rfl) ?_
  refine run_nil ?_
  refine ev_seq ?_
  refine ev_region ?_
  refine rq rfl rfl (q_move rfl) ?_
  refine rq rfl rfl (q_nei rfl rfl) ?_
  refine run_nil ?_
  refine ev_cond rfl (fun hc => ?_) (fun hc => ?_)
  · replace H := ct hc H
    refine ev_seq ?_
    refine ev_region ?_
    refine rq rfl rfl (Quiet.wk (d := .v true (GWorld.e (⟨(⟨(⟨[], [], [], [], [], [], [], []⟩ : GSource), [], []⟩ : GTables), []⟩ : GWorld))) (q_loadN rfl rfl rfl rfl) (Wk.nilLe (NilLe.st (by repeat (first | exact NilLes.nil | refine NilLes.cons (.refl _) ?_ | refine NilLes.cons (.nil _) ?_))))) ?_
    refine rq rfl rfl (q_move rfl) ?_
    refine re rfl (e_store rfl rfl rfl rfl rfl (Nat.le_of_ble_eq_true rfl) rfl) ?_; rintro _ rfl
    refine re rfl (e_store1 rfl rfl rfl rfl rfl (Nat.le_of_ble_eq_true rfl) rfl) ?_; rintro _ rfl
    refine run_nil ?_
    refine ev_ret ?_
    exact ret_ok [GWorld.e (⟨(⟨(⟨[], [], [], [], [], [], [], []⟩ : GSource), [], []⟩ : GTables), []⟩ : GWorld), vi x7] (congrArg (fun r : GWorld × Int => V.t [GWorld.e r.1, vi r.2]) (Option.some.inj H)) rfl (.cons (.cellN (z := 11) rfl rfl rfl rfl rfl rfl (.v _ _ (fun e => nomatch e))) (.cons (.cell1 rfl rfl rfl rfl (.v _ _ (fun e => nomatch e))) .nil))
  · replace H := cf hc H
    refine ev_skip ?_
    refine ev_seq ?_
    refine ev_seq ?_
    refine ev_region ?_
    refine rq rfl rfl (q_fld_p rfl) ?_
    refine rq rfl rfl (q_load1 rfl rfl rfl) ?_
    refine rq rfl rfl (q_lss rfl rfl) ?_
    refine rq rfl rfl (q_move rfl) ?_
    refine rqc (l := []) ⟨⟨_, _, _, rfl, rfl, rfl, rfl⟩, rfl, fun hc => q_fld_p rfl, trivial⟩ rfl ?_
    refine rqc (l := [30]) ⟨⟨_, _, _, rfl, rfl, rfl, rfl⟩, rfl, fun hc => q_load1 rfl rfl rfl, ⟨fun h => h, trivial⟩⟩ rfl ?_
    refine rqc (l := [31]) ⟨⟨_, _, _, rfl, rfl, rfl, rfl⟩, rfl, fun hc => q_geq rfl rfl, ⟨fun h => h, trivial⟩⟩ rfl ?_
    refine rq rfl rfl (q_pickb rfl rfl rfl PB.v (PB.c (fun hp => by rw [hp]; rfl))) ?_
    refine rq rfl rfl (q_move rfl) ?_
    refine rqc (l := []) ⟨⟨_, _, _, rfl, rfl, rfl, rfl⟩, rfl, fun hc => q_loadN rfl rfl rfl rfl, trivial⟩ rfl ?_
    obtain ⟨x8, x8_h, _, H⟩ := bdc_inv H
    refine rqc (l := [35]) ⟨⟨_, _, _, rfl, rfl, rfl, rfl⟩, rfl, fun hc => q_call rfl (.v _ _ (fun e => nomatch e)) (.v rfl ArgsOk.nil) inferInstance (stock_right_c  (x8_h hc)), ⟨fun h => h, trivial⟩⟩ rfl ?_
    refine rqc (l := [36]) ⟨⟨_, _, _, rfl, rfl, rfl, rfl⟩, rfl, fun hc => q_not rfl, ⟨fun h => h, trivial⟩⟩ rfl ?_
    refine rq rfl rfl (q_pickb rfl rfl rfl PB.v (PB.c (fun hp => by rw [hp]; rfl))) ?_
    refine run_nil ?_
    refine ev_cond rfl (fun hc => ?_) (fun hc => ?_)
    · replace H := ct hc H
      refine ev_seq ?_
      refine ev_region ?_
      refine rq rfl rfl (Quiet.wk (d := .v true (GWorld.e (⟨(⟨(⟨[], [], [], [], [], [], [], []⟩ : GSource), [], []⟩ : GTables), []⟩ : GWorld))) (q_loadN rfl rfl rfl rfl) (Wk.nilLe (NilLe.st (by repeat (first | exact NilLes.nil | refine NilLes.cons (.refl _) ?_ | refine NilLes.cons (.nil _) ?_))))) ?_
      refine re rfl (e_store rfl rfl rfl rfl rfl (Nat.le_of_ble_eq_true rfl) rfl) ?_; rintro _ rfl
      refine re rfl (e_store1 rfl rfl rfl rfl rfl (Nat.le_of_ble_eq_true rfl) rfl) ?_; rintro _ rfl
      refine run_nil ?_
      refine ev_ret ?_
      exact ret_ok [GWorld.e (⟨(⟨(⟨[], [], [], [], [], [], [], []⟩ : GSource), [], []⟩ : GTables), []⟩ : GWorld), vi 180] (congrArg (fun r : GWorld × Int => V.t [GWorld.e r.1, vi r.2]) (Option.some.inj H)) rfl (.cons (.cellN (z := 11) rfl rfl rfl rfl rfl rfl (.v _ _ (fun e => nomatch e))) (.cons (.cell1 rfl rfl rfl rfl (.v _ _ (fun e => nomatch e))) .nil))
    · replace H := cf hc H
      refine ev_skip ?_
      refine ev_seq ?_
      refine ev_region ?_
      refine rq rfl rfl (q_loadN rfl rfl rfl rfl) ?_
      refine re rfl (e_alloc 100440 0 rfl rfl) ?_; rintro _ ⟨b9, rfl⟩
      refine re rfl (e_store rfl rfl rfl rfl rfl (Nat.le_of_ble_eq_true rfl) rfl) ?_; rintro _ rfl
      refine run_nil ?_
      refine ev_seq ?_
      refine ev_shift (shift_frzb (f := true) 7 (V.cells (vi a3)) rfl rfl (.cons (.flat rfl) .nil)) ?_
      refine ev_region ?_
      refine rq rfl rfl (q_funcD rfl) ?_
      refine re rfl (e_alloc 12 0 rfl rfl) ?_; rintro _ ⟨b10, rfl⟩
      refine re rfl (e_store1 rfl rfl rfl rfl rfl (Nat.le_of_ble_eq_true rfl) rfl) ?_; rintro _ rfl
      refine run_nil ?_
      refine ev_seq ?_
      refine ev_seq ?_
      refine ev_region ?_
      refine rq rfl rfl (q_call rfl (.v _ _ (fun e => nomatch e)) (.cons rfl (.rp _ _ _ _) .nil) inferInstance stock_keys_c) ?_
      refine run_nil ?_
      refine ev_block ?_
      obtain ⟨j86, j86_e, H⟩ := jn_inv H
      obtain ⟨j85, j85_e, H⟩ := jn_inv H
      obtain ⟨j84, j84_e, H⟩ := jn_inv H
      obtain ⟨j83, j83_e, H⟩ := jn_inv H
      obtain ⟨j82, j82_e, H⟩ := jn_inv H
      obtain ⟨j81, j81_e, H⟩ := jn_inv H
      refine ev_shift (σ' := mkS [(4, .p 4 0 b1 0), (5, .p 5 0 b2 0), (6, .p 6 0 b3 0), (7, .v true (.q (V.cells (vi a3)))), (8, .p 8 0 b5 0), (9, .p 100360 0 b6 0), (11, .p 100440 0 b9 0), (12, .p 12 0 b10 0), (42, .v true (.c 96 [.q [rawp b2 0]]))] [.e 4 0 (some (b1, 11)) (.row 38 [.v false (V.l 8 (List.map GUnit.e a0.tables.source.units)), .v false (V.l 6 (List.map GItem.e a0.tables.source.items)), .v false (V.l 1 (List.map V.s a0.tables.source.plants)), .v false (V.l 4 (List.map GMachine.e a0.tables.source.machines)), .v false (V.l 2 (List.map GOption.e a0.tables.source.options)), .v false (V.l 1 (List.map (fun l => V.l 4 (List.map GCond.e l)) a0.tables.source.forbids)), .v false (V.l 17 (List.map GRecipe.e a0.tables.source.recipes)), .v false (V.l 4 (List.map GSwap.e a0.tables.source.swaps)), .v false (V.l 1 (List.map vi a0.tables.levels)), .v false (V.l 1 (List.map (fun l => V.l 6 (List.map GInst.e l)) a0.tables.codes)), .v false (V.l 8 (List.map GFact.e a0.facts))]), .e 5 0 (some (b2, 6)) (.row 60 [.v true (vi a1.no_), .v true (vi a1.item), .v true (vi a1.plant), .v true (vi a1.amount), .v true (vi a1.expiry), .v true (vi a1.state)]), .e 6 0 (some (b3, 2)) (.row 86 [.v true (vi a2.from_), .v true (vi a2.to_)]), .e 8 0 (some (b5, 11)) (.row 38 [.v true (.raw (.slice none 0 0)), .v true (.raw (.slice none 0 0)), .v true (.raw (.slice none 0 0)), .v true (.raw (.slice none 0 0)), .v true (.raw (.slice none 0 0)), .v true (.raw (.slice none 0 0)), .v true (.raw (.slice none 0 0)), .v true (.raw (.slice none 0 0)), .v true (.raw (.slice none 0 0)), .v true (.raw (.slice none 0 0)), .v true (.raw (.slice none 0 0))]), .e 100360 0 (some (b6, 1)) (.row 48 [.v true (vi 0)]), .e 100440 0 (some (b9, 11)) (.row 38 [.v false (V.l 8 (List.map GUnit.e a0.tables.source.units)), .v false (V.l 6 (List.map GItem.e a0.tables.source.items)), .v false (V.l 1 (List.map V.s a0.tables.source.plants)), .v false (V.l 4 (List.map GMachine.e a0.tables.source.machines)), .v false (V.l 2 (List.map GOption.e a0.tables.source.options)), .v false (V.l 1 (List.map (fun l => V.l 4 (List.map GCond.e l)) a0.tables.source.forbids)), .v false (V.l 17 (List.map GRecipe.e a0.tables.source.recipes)), .v false (V.l 4 (List.map GSwap.e a0.tables.source.swaps)), .v false (V.l 1 (List.map vi a0.tables.levels)), .v false (V.l 1 (List.map (fun l => V.l 6 (List.map GInst.e l)) a0.tables.codes)), .v false (V.l 8 (List.map GFact.e a0.facts))]), .e 12 0 (some (b10, 1)) (.row 133 [.c 69 [.p 100360 0 b6 0, .p 100440 0 b9 0, .v true (.q (V.cells (vi a3)))]])] [] (0, false)) (shift_mk ⟨⟨_, rfl, .rfl⟩, ⟨⟨_, rfl, .rfl⟩, ⟨⟨_, rfl, .rfl⟩, ⟨⟨_, rfl, .rfl⟩, ⟨⟨_, rfl, .rfl⟩, ⟨⟨_, rfl, .rfl⟩, ⟨⟨_, rfl, .rfl⟩, ⟨⟨_, rfl, .rfl⟩, ⟨⟨_, rfl, .rfl⟩, trivial⟩⟩⟩⟩⟩⟩⟩⟩⟩ ⟨(.e rfl), ⟨(.w rfl (.cons (.flat rfl) (.cons (.flat rfl) (.cons (.flat rfl) (.cons (.flat rfl) (.cons (.flat rfl) (.cons (.flat rfl) .nil))))))), ⟨(.w rfl (.cons (.flat rfl) (.cons (.flat rfl) .nil))), ⟨(.e rfl), ⟨(.w rfl (.cons (.flat rfl) .nil)), ⟨(.e rfl), ⟨(.e rfl), trivial⟩⟩⟩⟩⟩⟩⟩ rfl rfl) ?_
      refine ev_rangeR (Rd := RdI b2 (0 + 0) .i64 a1.no_) (els := stock_keys_els b2 0 a1.no_) rfl inferInstance stock_keys_1_c 9004 9005 [4, 5, 6, 7, 8, 9, 11, 12, 42] rfl (by decide) (fun n args h => stock_keys_len h) (fun D2 l2 L2 => ⟨fun n σ' => (n = 0 ∧ j81 () = some r ∧ σ' = mkS [(4, .p 4 0 b1 0), (5, .p 5 0 b2 0), (6, .p 6 0 b3 0), (7, .v true (.q (V.cells (vi a3)))), (8, .p 8 0 b5 0), (9, .p 100360 0 b6 0), (11, .p 100440 0 b9 0), (12, .p 12 0 b10 0), (42, .v true (.c 96 [.q [rawp b2 0]]))] [.e 4 0 (some (b1, 11)) (.row 38 [.v false (V.l 8 (List.map GUnit.e a0.tables.source.units)), .v false (V.l 6 (List.map GItem.e a0.tables.source.items)), .v false (V.l 1 (List.map V.s a0.tables.source.plants)), .v false (V.l 4 (List.map GMachine.e a0.tables.source.machines)), .v false (V.l 2 (List.map GOption.e a0.tables.source.options)), .v false (V.l 1 (List.map (fun l => V.l 4 (List.map GCond.e l)) a0.tables.source.forbids)), .v false (V.l 17 (List.map GRecipe.e a0.tables.source.recipes)), .v false (V.l 4 (List.map GSwap.e a0.tables.source.swaps)), .v false (V.l 1 (List.map vi a0.tables.levels)), .v false (V.l 1 (List.map (fun l => V.l 6 (List.map GInst.e l)) a0.tables.codes)), .v false (V.l 8 (List.map GFact.e a0.facts))]), .e 5 0 (some (b2, 6)) (.row 60 [.v true (vi a1.no_), .v true (vi a1.item), .v true (vi a1.plant), .v true (vi a1.amount), .v true (vi a1.expiry), .v true (vi a1.state)]), .e 6 0 (some (b3, 2)) (.row 86 [.v true (vi a2.from_), .v true (vi a2.to_)]), .e 8 0 (some (b5, 11)) (.row 38 [.v true (.raw (.slice none 0 0)), .v true (.raw (.slice none 0 0)), .v true (.raw (.slice none 0 0)), .v true (.raw (.slice none 0 0)), .v true (.raw (.slice none 0 0)), .v true (.raw (.slice none 0 0)), .v true (.raw (.slice none 0 0)), .v true (.raw (.slice none 0 0)), .v true (.raw (.slice none 0 0)), .v true (.raw (.slice none 0 0)), .v true (.raw (.slice none 0 0))]), .e 100360 0 (some (b6, 1)) (.row 48 [.v true (vi 0)]), .e 100440 0 (some (b9, 11)) (.row 38 [.v false (V.l 8 (List.map GUnit.e a0.tables.source.units)), .v false (V.l 6 (List.map GItem.e a0.tables.source.items)), .v false (V.l 1 (List.map V.s a0.tables.source.plants)), .v false (V.l 4 (List.map GMachine.e a0.tables.source.machines)), .v false (V.l 2 (List.map GOption.e a0.tables.source.options)), .v false (V.l 1 (List.map (fun l => V.l 4 (List.map GCond.e l)) a0.tables.source.forbids)), .v false (V.l 17 (List.map GRecipe.e a0.tables.source.recipes)), .v false (V.l 4 (List.map GSwap.e a0.tables.source.swaps)), .v false (V.l 1 (List.map vi a0.tables.levels)), .v false (V.l 1 (List.map (fun l => V.l 6 (List.map GInst.e l)) a0.tables.codes)), .v false (V.l 8 (List.map GFact.e a0.facts))]), .e 12 0 (some (b10, 1)) (.row 133 [.c 69 [.p 100360 0 b6 0, .p 100440 0 b9 0, .v true (.q (V.cells (vi a3)))]]), .e 9005 0 (some (l2, 0)) (.obj (L2 .ready none)), .e 9004 0 (some (D2, 0)) (.obj (.deferred (some [])))] ({ target := .collected D2, args := #[] } :: []) (0, false)) ∨ (n = 1 ∧ ∃ (p13 : Int) (p14 : List GUnit) (p15 : List GItem) (p16 : List ByteArray) (p17 : List GMachine) (p18 : List GOption) (p19 : List (List GCond)) (p20 : List GRecipe) (p21 : List GSwap) (p22 : List Int) (p23 : List (List GInst)) (p24 : List GFact), j82 p13 p14 p15 p16 p17 p18 p19 p20 p21 p22 p23 p24 = some r ∧ σ' = mkS [(4, .p 4 0 b1 0), (5, .p 5 0 b2 0), (6, .p 6 0 b3 0), (7, .v true (.q (V.cells (vi a3)))), (8, .p 8 0 b5 0), (9, .p 100360 0 b6 0), (11, .p 100440 0 b9 0), (12, .p 12 0 b10 0), (42, .v true (.c 96 [.q [rawp b2 0]]))] [.e 4 0 (some (b1, 11)) (.row 38 [.v false (V.l 8 (List.map GUnit.e a0.tables.source.units)), .v false (V.l 6 (List.map GItem.e a0.tables.source.items)), .v false (V.l 1 (List.map V.s a0.tables.source.plants)), .v false (V.l 4 (List.map GMachine.e a0.tables.source.machines)), .v false (V.l 2 (List.map GOption.e a0.tables.source.options)), .v false (V.l 1 (List.map (fun l => V.l 4 (List.map GCond.e l)) a0.tables.source.forbids)), .v false (V.l 17 (List.map GRecipe.e a0.tables.source.recipes)), .v false (V.l 4 (List.map GSwap.e a0.tables.source.swaps)), .v false (V.l 1 (List.map vi a0.tables.levels)), .v false (V.l 1 (List.map (fun l => V.l 6 (List.map GInst.e l)) a0.tables.codes)), .v false (V.l 8 (List.map GFact.e a0.facts))]), .e 5 0 (some (b2, 6)) (.row 60 [.v true (vi a1.no_), .v true (vi a1.item), .v true (vi a1.plant), .v true (vi a1.amount), .v true (vi a1.expiry), .v true (vi a1.state)]), .e 6 0 (some (b3, 2)) (.row 86 [.v true (vi a2.from_), .v true (vi a2.to_)]), .e 8 0 (some (b5, 11)) (.row 38 [.v true (.raw (.slice none 0 0)), .v true (.raw (.slice none 0 0)), .v true (.raw (.slice none 0 0)), .v true (.raw (.slice none 0 0)), .v true (.raw (.slice none 0 0)), .v true (.raw (.slice none 0 0)), .v true (.raw (.slice none 0 0)), .v true (.raw (.slice none 0 0)), .v true (.raw (.slice none 0 0)), .v true (.raw (.slice none 0 0)), .v true (.raw (.slice none 0 0))]), .e 100360 0 (some (b6, 1)) (.row 48 [.v true (vi p13)]), .e 100440 0 (some (b9, 11)) (.row 38 [.v false (V.l 8 (List.map GUnit.e p14)), .v false (V.l 6 (List.map GItem.e p15)), .v false (V.l 1 (List.map V.s p16)), .v false (V.l 4 (List.map GMachine.e p17)), .v false (V.l 2 (List.map GOption.e p18)), .v false (V.l 1 (List.map (fun l => V.l 4 (List.map GCond.e l)) p19)), .v false (V.l 17 (List.map GRecipe.e p20)), .v false (V.l 4 (List.map GSwap.e p21)), .v false (V.l 1 (List.map vi p22)), .v false (V.l 1 (List.map (fun l => V.l 6 (List.map GInst.e l)) p23)), .v false (V.l 8 (List.map GFact.e p24))]), .e 12 0 (some (b10, 1)) (.row 133 [.c 69 [.p 100360 0 b6 0, .p 100440 0 b9 0, .v true (.q (V.cells (vi a3)))]]), .e 9005 0 (some (l2, 0)) (.obj (L2 .ready none)), .e 9004 0 (some (D2, 0)) (.obj (.deferred (some [])))] ({ target := .collected D2, args := #[] } :: []) (0, false)) ∨ (n = 2 ∧ ∃ (p27 : Int) (p28 : List GUnit) (p29 : List GItem) (p30 : List ByteArray) (p31 : List GMachine) (p32 : List GOption) (p33 : List (List GCond)) (p34 : List GRecipe) (p35 : List GSwap) (p36 : List Int) (p37 : List (List GInst)) (p38 : List GFact), j83 p27 p28 p29 p30 p31 p32 p33 p34 p35 p36 p37 p38 = some r ∧ σ' = mkS [(4, .p 4 0 b1 0), (5, .p 5 0 b2 0), (6, .p 6 0 b3 0), (7, .v true (.q (V.cells (vi a3)))), (8, .p 8 0 b5 0), (9, .p 100360 0 b6 0), (11, .p 100440 0 b9 0), (12, .p 12 0 b10 0), (42, .v true (.c 96 [.q [rawp b2 0]]))] [.e 4 0 (some (b1, 11)) (.row 38 [.v false (V.l 8 (List.map GUnit.e a0.tables.source.units)), .v false (V.l 6 (List.map GItem.e a0.tables.source.items)), .v false (V.l 1 (List.map V.s a0.tables.source.plants)), .v false (V.l 4 (List.map GMachine.e a0.tables.source.machines)), .v false (V.l 2 (List.map GOption.e a0.tables.source.options)), .v false (V.l 1 (List.map (fun l => V.l 4 (List.map GCond.e l)) a0.tables.source.forbids)), .v false (V.l 17 (List.map GRecipe.e a0.tables.source.recipes)), .v false (V.l 4 (List.map GSwap.e a0.tables.source.swaps)), .v false (V.l 1 (List.map vi a0.tables.levels)), .v false (V.l 1 (List.map (fun l => V.l 6 (List.map GInst.e l)) a0.tables.codes)), .v false (V.l 8 (List.map GFact.e a0.facts))]), .e 5 0 (some (b2, 6)) (.row 60 [.v true (vi a1.no_), .v true (vi a1.item), .v true (vi a1.plant), .v true (vi a1.amount), .v true (vi a1.expiry), .v true (vi a1.state)]), .e 6 0 (some (b3, 2)) (.row 86 [.v true (vi a2.from_), .v true (vi a2.to_)]), .e 8 0 (some (b5, 11)) (.row 38 [.v true (.raw (.slice none 0 0)), .v true (.raw (.slice none 0 0)), .v true (.raw (.slice none 0 0)), .v true (.raw (.slice none 0 0)), .v true (.raw (.slice none 0 0)), .v true (.raw (.slice none 0 0)), .v true (.raw (.slice none 0 0)), .v true (.raw (.slice none 0 0)), .v true (.raw (.slice none 0 0)), .v true (.raw (.slice none 0 0)), .v true (.raw (.slice none 0 0))]), .e 100360 0 (some (b6, 1)) (.row 48 [.v true (vi p27)]), .e 100440 0 (some (b9, 11)) (.row 38 [.v false (V.l 8 (List.map GUnit.e p28)), .v false (V.l 6 (List.map GItem.e p29)), .v false (V.l 1 (List.map V.s p30)), .v false (V.l 4 (List.map GMachine.e p31)), .v false (V.l 2 (List.map GOption.e p32)), .v false (V.l 1 (List.map (fun l => V.l 4 (List.map GCond.e l)) p33)), .v false (V.l 17 (List.map GRecipe.e p34)), .v false (V.l 4 (List.map GSwap.e p35)), .v false (V.l 1 (List.map vi p36)), .v false (V.l 1 (List.map (fun l => V.l 6 (List.map GInst.e l)) p37)), .v false (V.l 8 (List.map GFact.e p38))]), .e 12 0 (some (b10, 1)) (.row 133 [.c 69 [.p 100360 0 b6 0, .p 100440 0 b9 0, .v true (.q (V.cells (vi a3)))]]), .e 9005 0 (some (l2, 0)) (.obj (L2 .ready none)), .e 9004 0 (some (D2, 0)) (.obj (.deferred (some [])))] ({ target := .collected D2, args := #[] } :: []) (0, false)) ∨ (n = 3 ∧ ∃ (p41 : Int) (p42 : List GUnit) (p43 : List GItem) (p44 : List ByteArray) (p45 : List GMachine) (p46 : List GOption) (p47 : List (List GCond)) (p48 : List GRecipe) (p49 : List GSwap) (p50 : List Int) (p51 : List (List GInst)) (p52 : List GFact), j84 p41 p42 p43 p44 p45 p46 p47 p48 p49 p50 p51 p52 = some r ∧ σ' = mkS [(4, .p 4 0 b1 0), (5, .p 5 0 b2 0), (6, .p 6 0 b3 0), (7, .v true (.q (V.cells (vi a3)))), (8, .p 8 0 b5 0), (9, .p 100360 0 b6 0), (11, .p 100440 0 b9 0), (12, .p 12 0 b10 0), (42, .v true (.c 96 [.q [rawp b2 0]]))] [.e 4 0 (some (b1, 11)) (.row 38 [.v false (V.l 8 (List.map GUnit.e a0.tables.source.units)), .v false (V.l 6 (List.map GItem.e a0.tables.source.items)), .v false (V.l 1 (List.map V.s a0.tables.source.plants)), .v false (V.l 4 (List.map GMachine.e a0.tables.source.machines)), .v false (V.l 2 (List.map GOption.e a0.tables.source.options)), .v false (V.l 1 (List.map (fun l => V.l 4 (List.map GCond.e l)) a0.tables.source.forbids)), .v false (V.l 17 (List.map GRecipe.e a0.tables.source.recipes)), .v false (V.l 4 (List.map GSwap.e a0.tables.source.swaps)), .v false (V.l 1 (List.map vi a0.tables.levels)), .v false (V.l 1 (List.map (fun l => V.l 6 (List.map GInst.e l)) a0.tables.codes)), .v false (V.l 8 (List.map GFact.e a0.facts))]), .e 5 0 (some (b2, 6)) (.row 60 [.v true (vi a1.no_), .v true (vi a1.item), .v true (vi a1.plant), .v true (vi a1.amount), .v true (vi a1.expiry), .v true (vi a1.state)]), .e 6 0 (some (b3, 2)) (.row 86 [.v true (vi a2.from_), .v true (vi a2.to_)]), .e 8 0 (some (b5, 11)) (.row 38 [.v true (.raw (.slice none 0 0)), .v true (.raw (.slice none 0 0)), .v true (.raw (.slice none 0 0)), .v true (.raw (.slice none 0 0)), .v true (.raw (.slice none 0 0)), .v true (.raw (.slice none 0 0)), .v true (.raw (.slice none 0 0)), .v true (.raw (.slice none 0 0)), .v true (.raw (.slice none 0 0)), .v true (.raw (.slice none 0 0)), .v true (.raw (.slice none 0 0))]), .e 100360 0 (some (b6, 1)) (.row 48 [.v true (vi p41)]), .e 100440 0 (some (b9, 11)) (.row 38 [.v false (V.l 8 (List.map GUnit.e p42)), .v false (V.l 6 (List.map GItem.e p43)), .v false (V.l 1 (List.map V.s p44)), .v false (V.l 4 (List.map GMachine.e p45)), .v false (V.l 2 (List.map GOption.e p46)), .v false (V.l 1 (List.map (fun l => V.l 4 (List.map GCond.e l)) p47)), .v false (V.l 17 (List.map GRecipe.e p48)), .v false (V.l 4 (List.map GSwap.e p49)), .v false (V.l 1 (List.map vi p50)), .v false (V.l 1 (List.map (fun l => V.l 6 (List.map GInst.e l)) p51)), .v false (V.l 8 (List.map GFact.e p52))]), .e 12 0 (some (b10, 1)) (.row 133 [.c 69 [.p 100360 0 b6 0, .p 100440 0 b9 0, .v true (.q (V.cells (vi a3)))]]), .e 9005 0 (some (l2, 0)) (.obj (L2 .ready none)), .e 9004 0 (some (D2, 0)) (.obj (.deferred (some [])))] ({ target := .collected D2, args := #[] } :: []) (0, false)) ∨ (n = 4 ∧ ∃ (p55 : Int) (p56 : List GUnit) (p57 : List GItem) (p58 : List ByteArray) (p59 : List GMachine) (p60 : List GOption) (p61 : List (List GCond)) (p62 : List GRecipe) (p63 : List GSwap) (p64 : List Int) (p65 : List (List GInst)) (p66 : List GFact), j85 p55 p56 p57 p58 p59 p60 p61 p62 p63 p64 p65 p66 = some r ∧ σ' = mkS [(4, .p 4 0 b1 0), (5, .p 5 0 b2 0), (6, .p 6 0 b3 0), (7, .v true (.q (V.cells (vi a3)))), (8, .p 8 0 b5 0), (9, .p 100360 0 b6 0), (11, .p 100440 0 b9 0), (12, .p 12 0 b10 0), (42, .v true (.c 96 [.q [rawp b2 0]]))] [.e 4 0 (some (b1, 11)) (.row 38 [.v false (V.l 8 (List.map GUnit.e a0.tables.source.units)), .v false (V.l 6 (List.map GItem.e a0.tables.source.items)), .v false (V.l 1 (List.map V.s a0.tables.source.plants)), .v false (V.l 4 (List.map GMachine.e a0.tables.source.machines)), .v false (V.l 2 (List.map GOption.e a0.tables.source.options)), .v false (V.l 1 (List.map (fun l => V.l 4 (List.map GCond.e l)) a0.tables.source.forbids)), .v false (V.l 17 (List.map GRecipe.e a0.tables.source.recipes)), .v false (V.l 4 (List.map GSwap.e a0.tables.source.swaps)), .v false (V.l 1 (List.map vi a0.tables.levels)), .v false (V.l 1 (List.map (fun l => V.l 6 (List.map GInst.e l)) a0.tables.codes)), .v false (V.l 8 (List.map GFact.e a0.facts))]), .e 5 0 (some (b2, 6)) (.row 60 [.v true (vi a1.no_), .v true (vi a1.item), .v true (vi a1.plant), .v true (vi a1.amount), .v true (vi a1.expiry), .v true (vi a1.state)]), .e 6 0 (some (b3, 2)) (.row 86 [.v true (vi a2.from_), .v true (vi a2.to_)]), .e 8 0 (some (b5, 11)) (.row 38 [.v true (.raw (.slice none 0 0)), .v true (.raw (.slice none 0 0)), .v true (.raw (.slice none 0 0)), .v true (.raw (.slice none 0 0)), .v true (.raw (.slice none 0 0)), .v true (.raw (.slice none 0 0)), .v true (.raw (.slice none 0 0)), .v true (.raw (.slice none 0 0)), .v true (.raw (.slice none 0 0)), .v true (.raw (.slice none 0 0)), .v true (.raw (.slice none 0 0))]), .e 100360 0 (some (b6, 1)) (.row 48 [.v true (vi p55)]), .e 100440 0 (some (b9, 11)) (.row 38 [.v false (V.l 8 (List.map GUnit.e p56)), .v false (V.l 6 (List.map GItem.e p57)), .v false (V.l 1 (List.map V.s p58)), .v false (V.l 4 (List.map GMachine.e p59)), .v false (V.l 2 (List.map GOption.e p60)), .v false (V.l 1 (List.map (fun l => V.l 4 (List.map GCond.e l)) p61)), .v false (V.l 17 (List.map GRecipe.e p62)), .v false (V.l 4 (List.map GSwap.e p63)), .v false (V.l 1 (List.map vi p64)), .v false (V.l 1 (List.map (fun l => V.l 6 (List.map GInst.e l)) p65)), .v false (V.l 8 (List.map GFact.e p66))]), .e 12 0 (some (b10, 1)) (.row 133 [.c 69 [.p 100360 0 b6 0, .p 100440 0 b9 0, .v true (.q (V.cells (vi a3)))]]), .e 9005 0 (some (l2, 0)) (.obj (L2 .ready none)), .e 9004 0 (some (D2, 0)) (.obj (.deferred (some [])))] ({ target := .collected D2, args := #[] } :: []) (0, false)) ∨ (n = 5 ∧ ∃ (p69 : Int) (p70 : List GUnit) (p71 : List GItem) (p72 : List ByteArray) (p73 : List GMachine) (p74 : List GOption) (p75 : List (List GCond)) (p76 : List GRecipe) (p77 : List GSwap) (p78 : List Int) (p79 : List (List GInst)) (p80 : List GFact), j86 p69 p70 p71 p72 p73 p74 p75 p76 p77 p78 p79 p80 = some r ∧ σ' = mkS [(4, .p 4 0 b1 0), (5, .p 5 0 b2 0), (6, .p 6 0 b3 0), (7, .v true (.q (V.cells (vi a3)))), (8, .p 8 0 b5 0), (9, .p 100360 0 b6 0), (11, .p 100440 0 b9 0), (12, .p 12 0 b10 0), (42, .v true (.c 96 [.q [rawp b2 0]]))] [.e 4 0 (some (b1, 11)) (.row 38 [.v false (V.l 8 (List.map GUnit.e a0.tables.source.units)), .v false (V.l 6 (List.map GItem.e a0.tables.source.items)), .v false (V.l 1 (List.map V.s a0.tables.source.plants)), .v false (V.l 4 (List.map GMachine.e a0.tables.source.machines)), .v false (V.l 2 (List.map GOption.e a0.tables.source.options)), .v false (V.l 1 (List.map (fun l => V.l 4 (List.map GCond.e l)) a0.tables.source.forbids)), .v false (V.l 17 (List.map GRecipe.e a0.tables.source.recipes)), .v false (V.l 4 (List.map GSwap.e a0.tables.source.swaps)), .v false (V.l 1 (List.map vi a0.tables.levels)), .v false (V.l 1 (List.map (fun l => V.l 6 (List.map GInst.e l)) a0.tables.codes)), .v false (V.l 8 (List.map GFact.e a0.facts))]), .e 5 0 (some (b2, 6)) (.row 60 [.v true (vi a1.no_), .v true (vi a1.item), .v true (vi a1.plant), .v true (vi a1.amount), .v true (vi a1.expiry), .v true (vi a1.state)]), .e 6 0 (some (b3, 2)) (.row 86 [.v true (vi a2.from_), .v true (vi a2.to_)]), .e 8 0 (some (b5, 11)) (.row 38 [.v true (.raw (.slice none 0 0)), .v true (.raw (.slice none 0 0)), .v true (.raw (.slice none 0 0)), .v true (.raw (.slice none 0 0)), .v true (.raw (.slice none 0 0)), .v true (.raw (.slice none 0 0)), .v true (.raw (.slice none 0 0)), .v true (.raw (.slice none 0 0)), .v true (.raw (.slice none 0 0)), .v true (.raw (.slice none 0 0)), .v true (.raw (.slice none 0 0))]), .e 100360 0 (some (b6, 1)) (.row 48 [.v true (vi p69)]), .e 100440 0 (some (b9, 11)) (.row 38 [.v false (V.l 8 (List.map GUnit.e p70)), .v false (V.l 6 (List.map GItem.e p71)), .v false (V.l 1 (List.map V.s p72)), .v false (V.l 4 (List.map GMachine.e p73)), .v false (V.l 2 (List.map GOption.e p74)), .v false (V.l 1 (List.map (fun l => V.l 4 (List.map GCond.e l)) p75)), .v false (V.l 17 (List.map GRecipe.e p76)), .v false (V.l 4 (List.map GSwap.e p77)), .v false (V.l 1 (List.map vi p78)), .v false (V.l 1 (List.map (fun l => V.l 6 (List.map GInst.e l)) p79)), .v false (V.l 8 (List.map GFact.e p80))]), .e 12 0 (some (b10, 1)) (.row 133 [.c 69 [.p 100360 0 b6 0, .p 100440 0 b9 0, .v true (.q (V.cells (vi a3)))]]), .e 9005 0 (some (l2, 0)) (.obj (L2 .ready none)), .e 9004 0 (some (D2, 0)) (.obj (.deferred (some [])))] ({ target := .collected D2, args := #[] } :: []) (0, false)), ?_, ?_, ?_, ?_, ?_⟩)
      · exact ⟨_, (.inl ⟨rfl, H, rfl⟩), le_mk ⟨rfl, ⟨rfl, ⟨rfl, ⟨rfl, ⟨rfl, ⟨rfl, ⟨rfl, ⟨rfl, ⟨rfl, trivial⟩⟩⟩⟩⟩⟩⟩⟩⟩ ⟨rfl, ⟨rfl, ⟨rfl, ⟨rfl, ⟨rfl, ⟨rfl, ⟨rfl, ⟨rfl, ⟨rfl, trivial⟩⟩⟩⟩⟩⟩⟩⟩⟩ rfl rfl⟩
      · rintro n _ (⟨hn, H, rfl⟩ | ⟨hn, p13, p14, p15, p16, p17, p18, p19, p20, p21, p22, p23, p24, H, rfl⟩ | ⟨hn, p27, p28, p29, p30, p31, p32, p33, p34, p35, p36, p37, p38, H, rfl⟩ | ⟨hn, p41, p42, p43, p44, p45, p46, p47, p48, p49, p50, p51, p52, H, rfl⟩ | ⟨hn, p55, p56, p57, p58, p59, p60, p61, p62, p63, p64, p65, p66, H, rfl⟩ | ⟨hn, p69, p70, p71, p72, p73, p74, p75, p76, p77, p78, p79, p80, H, rfl⟩) C I a w hH
        · exact hH.rdI (k := 5) (i := 0) rfl rfl
        · exact hH.rdI (k := 5) (i := 0) rfl rfl
        · exact hH.rdI (k := 5) (i := 0) rfl rfl
        · exact hH.rdI (k := 5) (i := 0) rfl rfl
        · exact hH.rdI (k := 5) (i := 0) rfl rfl
        · exact hH.rdI (k := 5) (i := 0) rfl rfl
      · rintro n _ (⟨hn, H, rfl⟩ | ⟨hn, p13, p14, p15, p16, p17, p18, p19, p20, p21, p22, p23, p24, H, rfl⟩ | ⟨hn, p27, p28, p29, p30, p31, p32, p33, p34, p35, p36, p37, p38, H, rfl⟩ | ⟨hn, p41, p42, p43, p44, p45, p46, p47, p48, p49, p50, p51, p52, H, rfl⟩ | ⟨hn, p55, p56, p57, p58, p59, p60, p61, p62, p63, p64, p65, p66, H, rfl⟩ | ⟨hn, p69, p70, p71, p72, p73, p74, p75, p76, p77, p78, p79, p80, H, rfl⟩)
        · exact ⟨rfl, rfl, rfl⟩
        · exact ⟨rfl, rfl, rfl⟩
        · exact ⟨rfl, rfl, rfl⟩
        · exact ⟨rfl, rfl, rfl⟩
        · exact ⟨rfl, rfl, rfl⟩
        · exact ⟨rfl, rfl, rfl⟩
      · rintro n args _ val is hN he (⟨rfl, H, rfl⟩ | ⟨rfl, p13, p14, p15, p16, p17, p18, p19, p20, p21, p22, p23, p24, H, rfl⟩ | ⟨rfl, p27, p28, p29, p30, p31, p32, p33, p34, p35, p36, p37, p38, H, rfl⟩ | ⟨rfl, p41, p42, p43, p44, p45, p46, p47, p48, p49, p50, p51, p52, H, rfl⟩ | ⟨rfl, p55, p56, p57, p58, p59, p60, p61, p62, p63, p64, p65, p66, H, rfl⟩ | ⟨rfl, p69, p70, p71, p72, p73, p74, p75, p76, p77, p78, p79, p80, H, rfl⟩) hcl
        · obtain rfl := stock_keys_at0 he
          subst j81_e
          refine ev_shift (shift_wkd (s := 44) (d' := .p 5 0 b2 (0 + 1)) rfl .of_rawp) ?_
          refine ev_seq ?_
          refine ev_region ?_
          refine re rfl (e_alloc 13 0 rfl rfl) ?_; rintro _ ⟨b87, rfl⟩
          refine re rfl (e_store rfl rfl rfl rfl rfl (Nat.le_of_ble_eq_true rfl) rfl) ?_; rintro _ rfl
          refine run_nil ?_
          refine ev_region ?_
          refine rq rfl rfl (q_assign rfl) ?_
          refine run_nil ?_
          refine ⟨rfl, ?_⟩
          refine ev_block ?_
          obtain ⟨x88, x88_h, H⟩ := bd_inv H
          refine ev_drawX (fun i => (assocN [(6, [100360, 100440])] i).getD []) rfl ?_
          refine xq (r := some _) [] 0 (.start _) rfl (by kernel_rfl) (by kernel_rfl) ⟨rfl, .inl ⟨rfl, Quiet.norm (q_load1 rfl rfl rfl)⟩⟩ rfl (fun hcl => ?_)
          refine xq (r := some _) [] 1 hcl rfl (by kernel_rfl) (by kernel_rfl) ⟨rfl, .inl ⟨rfl, Quiet.norm (q_loadN rfl rfl rfl rfl)⟩⟩ rfl (fun hcl => ?_)
          refine xq (r := some _) [] 2 hcl rfl (by kernel_rfl) (by kernel_rfl) ⟨rfl, .inl ⟨rfl, Quiet.norm (q_move rfl)⟩⟩ rfl (fun hcl => ?_)
          refine xq (r := some _) [] 3 hcl rfl (by kernel_rfl) (by kernel_rfl) ⟨rfl, .inl ⟨rfl, Quiet.norm (q_nil rfl)⟩⟩ rfl (fun hcl => ?_)
          refine xq (r := some _) [] 4 hcl rfl (by kernel_rfl) (by kernel_rfl) ⟨rfl, .inl ⟨rfl, Quiet.norm (q_load1 rfl rfl rfl)⟩⟩ rfl (fun hcl => ?_)
          refine xq (r := some _) [] 5 hcl rfl (by kernel_rfl) (by kernel_rfl) ⟨rfl, .inl ⟨rfl, Quiet.norm (q_loadN rfl rfl rfl rfl)⟩⟩ rfl (fun hcl => ?_)
          refine xb hcl (l := [6]) (by kernel_rfl) (by simp) (fun i hi hcl => ?_)
          obtain rfl : i = 6 := by simpa using hi
          refine xe rfl (x_callR [100360, 100440] rfl (.c _ _) rfl inferInstance (stock_Put_1_c  x88_h) ⟨(.w rfl (.cons (.flat rfl) .nil)), ⟨(.w rfl (.cons .old (.cons .old (.cons .old (.cons .old (.cons .old (.cons .old (.cons .old (.cons .old (.cons .old (.cons .old (.cons .old .nil)))))))))))), trivial⟩⟩ rfl rfl rfl) ?_; rintro _ ⟨_, _, ⟨rfl, rfl⟩, rfl⟩
          refine xn (by kernel_rfl) ?_
          exact ⟨rfl, _, (.inr (.inl ⟨rfl, x88.1, x88.2.tables.source.units, x88.2.tables.source.items, x88.2.tables.source.plants, x88.2.tables.source.machines, x88.2.tables.source.options, x88.2.tables.source.forbids, x88.2.tables.source.recipes, x88.2.tables.source.swaps, x88.2.tables.levels, x88.2.tables.codes, x88.2.facts, H, rfl⟩)), cov_mk rfl ⟨rfl, ⟨rfl, ⟨rfl, ⟨rfl, ⟨rfl, ⟨rfl, ⟨rfl, ⟨rfl, ⟨rfl, trivial⟩⟩⟩⟩⟩⟩⟩⟩⟩ ⟨rfl, ⟨rfl, ⟨rfl, ⟨rfl, ⟨rfl, ⟨rfl, ⟨rfl, ⟨rfl, ⟨rfl, trivial⟩⟩⟩⟩⟩⟩⟩⟩⟩ rfl⟩
        · obtain rfl := stock_keys_at1 he
          subst j82_e
          refine ev_shift (shift_wkd (s := 44) (d' := .p 5 0 b2 (0 + 2)) rfl .of_rawp) ?_
          refine ev_seq ?_
          refine ev_region ?_
          refine re rfl (e_alloc 13 0 rfl rfl) ?_; rintro _ ⟨b89, rfl⟩
          refine re rfl (e_store rfl rfl rfl rfl rfl (Nat.le_of_ble_eq_true rfl) rfl) ?_; rintro _ rfl
          refine run_nil ?_
          refine ev_region ?_
          refine rq rfl rfl (q_assign rfl) ?_
          refine run_nil ?_
          refine ⟨rfl, ?_⟩
          refine ev_block ?_
          obtain ⟨x90, x90_h, H⟩ := bd_inv H
          refine ev_drawX (fun i => (assocN [(6, [100360, 100440])] i).getD []) rfl ?_
          refine xq (r := some _) [] 0 (.start _) rfl (by kernel_rfl) (by kernel_rfl) ⟨rfl, .inl ⟨rfl, Quiet.norm (q_load1 rfl rfl rfl)⟩⟩ rfl (fun hcl => ?_)
          refine xq (r := some _) [] 1 hcl rfl (by kernel_rfl) (by kernel_rfl) ⟨rfl, .inl ⟨rfl, Quiet.norm (q_loadN rfl rfl rfl rfl)⟩⟩ rfl (fun hcl => ?_)
          refine xq (r := some _) [] 2 hcl rfl (by kernel_rfl) (by kernel_rfl) ⟨rfl, .inl ⟨rfl, Quiet.norm (q_move rfl)⟩⟩ rfl (fun hcl => ?_)
          refine xq (r := some _) [] 3 hcl rfl (by kernel_rfl) (by kernel_rfl) ⟨rfl, .inl ⟨rfl, Quiet.norm (q_nil rfl)⟩⟩ rfl (fun hcl => ?_)
          refine xq (r := some _) [] 4 hcl rfl (by kernel_rfl) (by kernel_rfl) ⟨rfl, .inl ⟨rfl, Quiet.norm (q_load1 rfl rfl rfl)⟩⟩ rfl (fun hcl => ?_)
          refine xq (r := some _) [] 5 hcl rfl (by kernel_rfl) (by kernel_rfl) ⟨rfl, .inl ⟨rfl, Quiet.norm (q_loadN rfl rfl rfl rfl)⟩⟩ rfl (fun hcl => ?_)
          refine xb hcl (l := [6]) (by kernel_rfl) (by simp) (fun i hi hcl => ?_)
          obtain rfl : i = 6 := by simpa using hi
          refine xe rfl (x_callR [100360, 100440] rfl (.c _ _) rfl inferInstance (stock_Put_1_c  x90_h) ⟨(.w rfl (.cons (.flat rfl) .nil)), ⟨(.w rfl (.cons .old (.cons .old (.cons .old (.cons .old (.cons .old (.cons .old (.cons .old (.cons .old (.cons .old (.cons .old (.cons .old .nil)))))))))))), trivial⟩⟩ rfl rfl rfl) ?_; rintro _ ⟨_, _, ⟨rfl, rfl⟩, rfl⟩
          refine xn (by kernel_rfl) ?_
          exact ⟨rfl, _, (.inr (.inr (.inl ⟨rfl, x90.1, x90.2.tables.source.units, x90.2.tables.source.items, x90.2.tables.source.plants, x90.2.tables.source.machines, x90.2.tables.source.options, x90.2.tables.source.forbids, x90.2.tables.source.recipes, x90.2.tables.source.swaps, x90.2.tables.levels, x90.2.tables.codes, x90.2.facts, H, rfl⟩))), cov_mk rfl ⟨rfl, ⟨rfl, ⟨rfl, ⟨rfl, ⟨rfl, ⟨rfl, ⟨rfl, ⟨rfl, ⟨rfl, trivial⟩⟩⟩⟩⟩⟩⟩⟩⟩ ⟨rfl, ⟨rfl, ⟨rfl, ⟨rfl, ⟨rfl, ⟨rfl, ⟨rfl, ⟨rfl, ⟨rfl, trivial⟩⟩⟩⟩⟩⟩⟩⟩⟩ rfl⟩
        · obtain rfl := stock_keys_at2 he
          subst j83_e
          refine ev_shift (shift_wkd (s := 44) (d' := .p 5 0 b2 (0 + 3)) rfl .of_rawp) ?_
          refine ev_seq ?_
          refine ev_region ?_
          refine re rfl (e_alloc 13 0 rfl rfl) ?_; rintro _ ⟨b91, rfl⟩
          refine re rfl (e_store rfl rfl rfl rfl rfl (Nat.le_of_ble_eq_true rfl) rfl) ?_; rintro _ rfl
          refine run_nil ?_
          refine ev_region ?_
          refine rq rfl rfl (q_assign rfl) ?_
          refine run_nil ?_
          refine ⟨rfl, ?_⟩
          refine ev_block ?_
          obtain ⟨x92, x92_h, H⟩ := bd_inv H
          refine ev_drawX (fun i => (assocN [(6, [100360, 100440])] i).getD []) rfl ?_
          refine xq (r := some _) [] 0 (.start _) rfl (by kernel_rfl) (by kernel_rfl) ⟨rfl, .inl ⟨rfl, Quiet.norm (q_load1 rfl rfl rfl)⟩⟩ rfl (fun hcl => ?_)
          refine xq (r := some _) [] 1 hcl rfl (by kernel_rfl) (by kernel_rfl) ⟨rfl, .inl ⟨rfl, Quiet.norm (q_loadN rfl rfl rfl rfl)⟩⟩ rfl (fun hcl => ?_)
          refine xq (r := some _) [] 2 hcl rfl (by kernel_rfl) (by kernel_rfl) ⟨rfl, .inl ⟨rfl, Quiet.norm (q_move rfl)⟩⟩ rfl (fun hcl => ?_)
          refine xq (r := some _) [] 3 hcl rfl (by kernel_rfl) (by kernel_rfl) ⟨rfl, .inl ⟨rfl, Quiet.norm (q_nil rfl)⟩⟩ rfl (fun hcl => ?_)
          refine xq (r := some _) [] 4 hcl rfl (by kernel_rfl) (by kernel_rfl) ⟨rfl, .inl ⟨rfl, Quiet.norm (q_load1 rfl rfl rfl)⟩⟩ rfl (fun hcl => ?_)
          refine xq (r := some _) [] 5 hcl rfl (by kernel_rfl) (by kernel_rfl) ⟨rfl, .inl ⟨rfl, Quiet.norm (q_loadN rfl rfl rfl rfl)⟩⟩ rfl (fun hcl => ?_)
          refine xb hcl (l := [6]) (by kernel_rfl) (by simp) (fun i hi hcl => ?_)
          obtain rfl : i = 6 := by simpa using hi
          refine xe rfl (x_callR [100360, 100440] rfl (.c _ _) rfl inferInstance (stock_Put_1_c  x92_h) ⟨(.w rfl (.cons (.flat rfl) .nil)), ⟨(.w rfl (.cons .old (.cons .old (.cons .old (.cons .old (.cons .old (.cons .old (.cons .old (.cons .old (.cons .old (.cons .old (.cons .old .nil)))))))))))), trivial⟩⟩ rfl rfl rfl) ?_; rintro _ ⟨_, _, ⟨rfl, rfl⟩, rfl⟩
          refine xn (by kernel_rfl) ?_
          exact ⟨rfl, _, (.inr (.inr (.inr (.inl ⟨rfl, x92.1, x92.2.tables.source.units, x92.2.tables.source.items, x92.2.tables.source.plants, x92.2.tables.source.machines, x92.2.tables.source.options, x92.2.tables.source.forbids, x92.2.tables.source.recipes, x92.2.tables.source.swaps, x92.2.tables.levels, x92.2.tables.codes, x92.2.facts, H, rfl⟩)))), cov_mk rfl ⟨rfl, ⟨rfl, ⟨rfl, ⟨rfl, ⟨rfl, ⟨rfl, ⟨rfl, ⟨rfl, ⟨rfl, trivial⟩⟩⟩⟩⟩⟩⟩⟩⟩ ⟨rfl, ⟨rfl, ⟨rfl, ⟨rfl, ⟨rfl, ⟨rfl, ⟨rfl, ⟨rfl, ⟨rfl, trivial⟩⟩⟩⟩⟩⟩⟩⟩⟩ rfl⟩
        · obtain rfl := stock_keys_at3 he
          subst j84_e
          refine ev_shift (shift_wkd (s := 44) (d' := .p 5 0 b2 (0 + 4)) rfl .of_rawp) ?_
          refine ev_seq ?_
          refine ev_region ?_
          refine re rfl (e_alloc 13 0 rfl rfl) ?_; rintro _ ⟨b93, rfl⟩
          refine re rfl (e_store rfl rfl rfl rfl rfl (Nat.le_of_ble_eq_true rfl) rfl) ?_; rintro _ rfl
          refine run_nil ?_
          refine ev_region ?_
          refine rq rfl rfl (q_assign rfl) ?_
          refine run_nil ?_
          refine ⟨rfl, ?_⟩
          refine ev_block ?_
          obtain ⟨x94, x94_h, H⟩ := bd_inv H
          refine ev_drawX (fun i => (assocN [(6, [100360, 100440])] i).getD []) rfl ?_
          refine xq (r := some _) [] 0 (.start _) rfl (by kernel_rfl) (by kernel_rfl) ⟨rfl, .inl ⟨rfl, Quiet.norm (q_load1 rfl rfl rfl)⟩⟩ rfl (fun hcl => ?_)
          refine xq (r := some _) [] 1 hcl rfl (by kernel_rfl) (by kernel_rfl) ⟨rfl, .inl ⟨rfl, Quiet.norm (q_loadN rfl rfl rfl rfl)⟩⟩ rfl (fun hcl => ?_)
          refine xq (r := some _) [] 2 hcl rfl (by kernel_rfl) (by kernel_rfl) ⟨rfl, .inl ⟨rfl, Quiet.norm (q_move rfl)⟩⟩ rfl (fun hcl => ?_)
          refine xq (r := some _) [] 3 hcl rfl (by kernel_rfl) (by kernel_rfl) ⟨rfl, .inl ⟨rfl, Quiet.norm (q_nil rfl)⟩⟩ rfl (fun hcl => ?_)
          refine xq (r := some _) [] 4 hcl rfl (by kernel_rfl) (by kernel_rfl) ⟨rfl, .inl ⟨rfl, Quiet.norm (q_load1 rfl rfl rfl)⟩⟩ rfl (fun hcl => ?_)
          refine xq (r := some _) [] 5 hcl rfl (by kernel_rfl) (by kernel_rfl) ⟨rfl, .inl ⟨rfl, Quiet.norm (q_loadN rfl rfl rfl rfl)⟩⟩ rfl (fun hcl => ?_)
          refine xb hcl (l := [6]) (by kernel_rfl) (by simp) (fun i hi hcl => ?_)
          obtain rfl : i = 6 := by simpa using hi
          refine xe rfl (x_callR [100360, 100440] rfl (.c _ _) rfl inferInstance (stock_Put_1_c  x94_h) ⟨(.w rfl (.cons (.flat rfl) .nil)), ⟨(.w rfl (.cons .old (.cons .old (.cons .old (.cons .old (.cons .old (.cons .old (.cons .old (.cons .old (.cons .old (.cons .old (.cons .old .nil)))))))))))), trivial⟩⟩ rfl rfl rfl) ?_; rintro _ ⟨_, _, ⟨rfl, rfl⟩, rfl⟩
          refine xn (by kernel_rfl) ?_
          exact ⟨rfl, _, (.inr (.inr (.inr (.inr (.inl ⟨rfl, x94.1, x94.2.tables.source.units, x94.2.tables.source.items, x94.2.tables.source.plants, x94.2.tables.source.machines, x94.2.tables.source.options, x94.2.tables.source.forbids, x94.2.tables.source.recipes, x94.2.tables.source.swaps, x94.2.tables.levels, x94.2.tables.codes, x94.2.facts, H, rfl⟩))))), cov_mk rfl ⟨rfl, ⟨rfl, ⟨rfl, ⟨rfl, ⟨rfl, ⟨rfl, ⟨rfl, ⟨rfl, ⟨rfl, trivial⟩⟩⟩⟩⟩⟩⟩⟩⟩ ⟨rfl, ⟨rfl, ⟨rfl, ⟨rfl, ⟨rfl, ⟨rfl, ⟨rfl, ⟨rfl, ⟨rfl, trivial⟩⟩⟩⟩⟩⟩⟩⟩⟩ rfl⟩
        · obtain rfl := stock_keys_at4 he
          subst j85_e
          refine ev_shift (shift_wkd (s := 44) (d' := .p 5 0 b2 (0 + 5)) rfl .of_rawp) ?_
          refine ev_seq ?_
          refine ev_region ?_
          refine re rfl (e_alloc 13 0 rfl rfl) ?_; rintro _ ⟨b95, rfl⟩
          refine re rfl (e_store rfl rfl rfl rfl rfl (Nat.le_of_ble_eq_true rfl) rfl) ?_; rintro _ rfl
          refine run_nil ?_
          refine ev_region ?_
          refine rq rfl rfl (q_assign rfl) ?_
          refine run_nil ?_
          refine ⟨rfl, ?_⟩
          refine ev_block ?_
          obtain ⟨x96, x96_h, H⟩ := bd_inv H
          refine ev_drawX (fun i => (assocN [(6, [100360, 100440])] i).getD []) rfl ?_
          refine xq (r := some _) [] 0 (.start _) rfl (by kernel_rfl) (by kernel_rfl) ⟨rfl, .inl ⟨rfl, Quiet.norm (q_load1 rfl rfl rfl)⟩⟩ rfl (fun hcl => ?_)
          refine xq (r := some _) [] 1 hcl rfl (by kernel_rfl) (by kernel_rfl) ⟨rfl, .inl ⟨rfl, Quiet.norm (q_loadN rfl rfl rfl rfl)⟩⟩ rfl (fun hcl => ?_)
          refine xq (r := some _) [] 2 hcl rfl (by kernel_rfl) (by kernel_rfl) ⟨rfl, .inl ⟨rfl, Quiet.norm (q_move rfl)⟩⟩ rfl (fun hcl => ?_)
          refine xq (r := some _) [] 3 hcl rfl (by kernel_rfl) (by kernel_rfl) ⟨rfl, .inl ⟨rfl, Quiet.norm (q_nil rfl)⟩⟩ rfl (fun hcl => ?_)
          refine xq (r := some _) [] 4 hcl rfl (by kernel_rfl) (by kernel_rfl) ⟨rfl, .inl ⟨rfl, Quiet.norm (q_load1 rfl rfl rfl)⟩⟩ rfl (fun hcl => ?_)
          refine xq (r := some _) [] 5 hcl rfl (by kernel_rfl) (by kernel_rfl) ⟨rfl, .inl ⟨rfl, Quiet.norm (q_loadN rfl rfl rfl rfl)⟩⟩ rfl (fun hcl => ?_)
          refine xb hcl (l := [6]) (by kernel_rfl) (by simp) (fun i hi hcl => ?_)
          obtain rfl : i = 6 := by simpa using hi
          refine xe rfl (x_callR [100360, 100440] rfl (.c _ _) rfl inferInstance (stock_Put_1_c  x96_h) ⟨(.w rfl (.cons (.flat rfl) .nil)), ⟨(.w rfl (.cons .old (.cons .old (.cons .old (.cons .old (.cons .old (.cons .old (.cons .old (.cons .old (.cons .old (.cons .old (.cons .old .nil)))))))))))), trivial⟩⟩ rfl rfl rfl) ?_; rintro _ ⟨_, _, ⟨rfl, rfl⟩, rfl⟩
          refine xn (by kernel_rfl) ?_
          exact ⟨rfl, _, (.inr (.inr (.inr (.inr (.inr ⟨rfl, x96.1, x96.2.tables.source.units, x96.2.tables.source.items, x96.2.tables.source.plants, x96.2.tables.source.machines, x96.2.tables.source.options, x96.2.tables.source.forbids, x96.2.tables.source.recipes, x96.2.tables.source.swaps, x96.2.tables.levels, x96.2.tables.codes, x96.2.facts, H, rfl⟩))))), cov_mk rfl ⟨rfl, ⟨rfl, ⟨rfl, ⟨rfl, ⟨rfl, ⟨rfl, ⟨rfl, ⟨rfl, ⟨rfl, trivial⟩⟩⟩⟩⟩⟩⟩⟩⟩ ⟨rfl, ⟨rfl, ⟨rfl, ⟨rfl, ⟨rfl, ⟨rfl, ⟨rfl, ⟨rfl, ⟨rfl, trivial⟩⟩⟩⟩⟩⟩⟩⟩⟩ rfl⟩
        · exact (stock_keys_at5 he).elim
      · rintro _ (⟨hn, H, rfl⟩ | ⟨hn, p13, p14, p15, p16, p17, p18, p19, p20, p21, p22, p23, p24, H, rfl⟩ | ⟨hn, p27, p28, p29, p30, p31, p32, p33, p34, p35, p36, p37, p38, H, rfl⟩ | ⟨hn, p41, p42, p43, p44, p45, p46, p47, p48, p49, p50, p51, p52, H, rfl⟩ | ⟨hn, p55, p56, p57, p58, p59, p60, p61, p62, p63, p64, p65, p66, H, rfl⟩ | ⟨hn, p69, p70, p71, p72, p73, p74, p75, p76, p77, p78, p79, p80, H, rfl⟩)
        · exact absurd hn (by rw [stock_keys_length]; decide)
        · exact absurd hn (by rw [stock_keys_length]; decide)
        · exact absurd hn (by rw [stock_keys_length]; decide)
        · exact absurd hn (by rw [stock_keys_length]; decide)
        · exact absurd hn (by rw [stock_keys_length]; decide)
        · subst j86_e
          refine ev_seq ?_
          refine ev_draw rfl (by kernel_rfl) ?_
          refine qq rfl rfl (q_fld_p rfl) ?_
          refine qq rfl rfl (q_load1 rfl rfl rfl) ?_
          refine qq rfl rfl (q_add rfl rfl) ?_
          refine qq rfl rfl (q_assign rfl) ?_
          refine qq rfl rfl (q_assign rfl) ?_
          refine qn ?_
          refine ev_seq ?_
          refine ev_seq ?_
          obtain ⟨x97, x97_h, H⟩ := bd_inv H
          obtain ⟨x98, x98_h, H⟩ := bd_inv H
          refine ev_draw rfl (by kernel_rfl) ?_
          refine qq rfl rfl (q_fld_p rfl) ?_
          refine qq rfl rfl (q_load1 rfl rfl rfl) ?_
          refine qq rfl rfl (q_call rfl (.v _ _ (fun e => nomatch e)) ArgsOk.nil inferInstance (stock_head_c  x97_h)) ?_
          refine qq rfl rfl (q_load1_q rfl) ?_
          refine qq rfl rfl (q_call rfl (.v _ _ (fun e => nomatch e)) (.v rfl (.v rfl (.v rfl (.v rfl (.v rfl ArgsOk.nil))))) inferInstance (facts_Points_c  x98_h)) ?_
          refine qq rfl rfl (q_len_t rfl) ?_
          refine qq rfl rfl (q_move rfl) ?_
          refine qn ?_
          refine ev_block ?_
          refine ev_len_l (s := 59) rfl fun w107 => ?_
          rw [List.length_map] at w107
          refine ev_forL H (fun k101 s99 σ' => σ' = mkS [(5, .p 5 0 b2 0), (6, .p 6 0 b3 0), (8, .p 8 0 b5 0), (9, .p 100360 0 b6 0), (11, .p 100440 0 b9 0), (12, .p 12 0 b10 0), (15, .v true (vi s99.1)), (16, .v true (vi s99.2)), (59, .v true (V.l 2 (List.map GPoint.e x98))), (60, .v true (vi ((x98.length : Nat) : Int))), (61, .v true (vi ((k101 : Nat) : Int)))] [.e 9004 0 (some (D2, 0)) (.obj (.deferred (some []))), .e 5 0 (some (b2, 6)) (.row 60 [.v true (vi a1.no_), .v true (vi a1.item), .v true (vi a1.plant), .v true (vi a1.amount), .v true (vi a1.expiry), .v true (vi a1.state)]), .e 6 0 (some (b3, 2)) (.row 86 [.v true (vi a2.from_), .v true (vi a2.to_)]), .e 8 0 (some (b5, 11)) (.row 38 [.v true (.raw (.slice none 0 0)), .v true (.raw (.slice none 0 0)), .v true (.raw (.slice none 0 0)), .v true (.raw (.slice none 0 0)), .v true (.raw (.slice none 0 0)), .v true (.raw (.slice none 0 0)), .v true (.raw (.slice none 0 0)), .v true (.raw (.slice none 0 0)), .v true (.raw (.slice none 0 0)), .v true (.raw (.slice none 0 0)), .v true (.raw (.slice none 0 0))]), .e 100360 0 (some (b6, 1)) (.row 48 [.v true (vi p69)]), .e 100440 0 (some (b9, 11)) (.row 38 [.v false (V.l 8 (List.map GUnit.e p70)), .v false (V.l 6 (List.map GItem.e p71)), .v false (V.l 1 (List.map V.s p72)), .v false (V.l 4 (List.map GMachine.e p73)), .v false (V.l 2 (List.map GOption.e p74)), .v false (V.l 1 (List.map (fun l => V.l 4 (List.map GCond.e l)) p75)), .v false (V.l 17 (List.map GRecipe.e p76)), .v false (V.l 4 (List.map GSwap.e p77)), .v false (V.l 1 (List.map vi p78)), .v false (V.l 1 (List.map (fun l => V.l 6 (List.map GInst.e l)) p79)), .v false (V.l 8 (List.map GFact.e p80))]), .e 12 0 (some (b10, 1)) (.row 133 [.c 69 [.p 100360 0 b6 0, .p 100440 0 b9 0, .v true (.q (V.cells (vi a3)))]])] ({ target := .collected D2, args := #[] } :: []) (0, false)) ⟨_, rfl, shift_mk ⟨⟨_, rfl, .rfl⟩, ⟨⟨_, rfl, .rfl⟩, ⟨⟨_, rfl, .rfl⟩, ⟨⟨_, rfl, .rfl⟩, ⟨⟨_, rfl, .rfl⟩, ⟨⟨_, rfl, .rfl⟩, ⟨⟨_, rfl, (.flat rfl)⟩, ⟨⟨_, rfl, (.flat rfl)⟩, ⟨⟨_, rfl, .rfl⟩, ⟨⟨_, rfl, (.flat rfl)⟩, ⟨⟨_, rfl, .rfl⟩, trivial⟩⟩⟩⟩⟩⟩⟩⟩⟩⟩⟩ ⟨(.e rfl), ⟨(.w rfl (.cons (.flat rfl) (.cons (.flat rfl) (.cons (.flat rfl) (.cons (.flat rfl) (.cons (.flat rfl) (.cons (.flat rfl) .nil))))))), ⟨(.w rfl (.cons (.flat rfl) (.cons (.flat rfl) .nil))), ⟨(.e rfl), ⟨(.w rfl (.cons (.flat rfl) .nil)), ⟨(.e rfl), ⟨(.e rfl), trivial⟩⟩⟩⟩⟩⟩⟩ rfl rfl⟩ ?_
          rintro k101 s99 _ rfl _ H
          refine ev_seq ?_
          refine ev_region ?_
          refine rq rfl rfl (q_lss rfl rfl) ?_
          refine run_nil ?_
          refine ev_seq ?_
          refine ev_cond rfl (fun hc => ?_) (fun hc => ?_)
          · obtain ⟨x105, w106, x105_g, H⟩ := forL_in hc H
            have x105_h : idx x98 ((k101 : Nat) : Int) = some x105 := by rw [idx_nat]; exact x105_g
            refine ev_skip ?_
            obtain ⟨j108, j108_e, H⟩ := jn_inv H
            refine ev_join (fun σ' => ∃ (p109 : Int), j108 p109 = some r ∧ σ' = mkS [(5, .p 5 0 b2 0), (6, .p 6 0 b3 0), (8, .p 8 0 b5 0), (9, .p 100360 0 b6 0), (11, .p 100440 0 b9 0), (12, .p 12 0 b10 0), (15, .v true (vi p109)), (16, .v true (vi (max s99.2 x105.value))), (59, .v true (V.l 2 (List.map GPoint.e x98))), (60, .v true (vi ((x98.length : Nat) : Int))), (61, .v true (vi ((k101 : Nat) : Int)))] [.e 9004 0 (some (D2, 0)) (.obj (.deferred (some []))), .e 5 0 (some (b2, 6)) (.row 60 [.v true (vi a1.no_), .v true (vi a1.item), .v true (vi a1.plant), .v true (vi a1.amount), .v true (vi a1.expiry), .v true (vi a1.state)]), .e 6 0 (some (b3, 2)) (.row 86 [.v true (vi a2.from_), .v true (vi a2.to_)]), .e 8 0 (some (b5, 11)) (.row 38 [.v true (.raw (.slice none 0 0)), .v true (.raw (.slice none 0 0)), .v true (.raw (.slice none 0 0)), .v true (.raw (.slice none 0 0)), .v true (.raw (.slice none 0 0)), .v true (.raw (.slice none 0 0)), .v true (.raw (.slice none 0 0)), .v true (.raw (.slice none 0 0)), .v true (.raw (.slice none 0 0)), .v true (.raw (.slice none 0 0)), .v true (.raw (.slice none 0 0))]), .e 100360 0 (some (b6, 1)) (.row 48 [.v true (vi p69)]), .e 100440 0 (some (b9, 11)) (.row 38 [.v false (V.l 8 (List.map GUnit.e p70)), .v false (V.l 6 (List.map GItem.e p71)), .v false (V.l 1 (List.map V.s p72)), .v false (V.l 4 (List.map GMachine.e p73)), .v false (V.l 2 (List.map GOption.e p74)), .v false (V.l 1 (List.map (fun l => V.l 4 (List.map GCond.e l)) p75)), .v false (V.l 17 (List.map GRecipe.e p76)), .v false (V.l 4 (List.map GSwap.e p77)), .v false (V.l 1 (List.map vi p78)), .v false (V.l 1 (List.map (fun l => V.l 6 (List.map GInst.e l)) p79)), .v false (V.l 8 (List.map GFact.e p80))]), .e 12 0 (some (b10, 1)) (.row 133 [.c 69 [.p 100360 0 b6 0, .p 100440 0 b9 0, .v true (.q (V.cells (vi a3)))]])] ({ target := .collected D2, args := #[] } :: []) (0, false)) ?_ ?_
            · rintro _ ⟨p109, H, rfl⟩
              subst j108_e
              refine ev_region ?_
              refine rq rfl rfl (q_add rfl rfl) ?_
              refine rq rfl rfl (q_move rfl) ?_
              refine run_nil ?_
              exact ⟨_, _, w106, H, rfl, shift_mk ⟨⟨_, rfl, .rfl⟩, ⟨⟨_, rfl, .rfl⟩, ⟨⟨_, rfl, .rfl⟩, ⟨⟨_, rfl, .rfl⟩, ⟨⟨_, rfl, .rfl⟩, ⟨⟨_, rfl, .rfl⟩, ⟨⟨_, rfl, (.flat rfl)⟩, ⟨⟨_, rfl, (.flat rfl)⟩, ⟨⟨_, rfl, .rfl⟩, ⟨⟨_, rfl, (.flat rfl)⟩, ⟨⟨_, rfl, (.eq (congrArg (fun n => D.v true (vi n)) (wrap_succ w106 w107)))⟩, trivial⟩⟩⟩⟩⟩⟩⟩⟩⟩⟩⟩ ⟨(.e rfl), ⟨(.w rfl (.cons (.flat rfl) (.cons (.flat rfl) (.cons (.flat rfl) (.cons (.flat rfl) (.cons (.flat rfl) (.cons (.flat rfl) .nil))))))), ⟨(.w rfl (.cons (.flat rfl) (.cons (.flat rfl) .nil))), ⟨(.e rfl), ⟨(.w rfl (.cons (.flat rfl) .nil)), ⟨(.e rfl), ⟨(.e rfl), trivial⟩⟩⟩⟩⟩⟩⟩ rfl rfl⟩
            · clear j108_e
              refine ev_block ?_
              refine ev_seq ?_
              refine ev_region ?_
              refine rq rfl rfl (q_idx_l rfl rfl (idx_inv x105_h).1 (map_get (idx_inv x105_h).2.1) rfl) ?_
              refine rq rfl rfl (q_load_e rfl rfl rfl) ?_
              refine re rfl (e_alloc 18 0 rfl rfl) ?_; rintro _ ⟨b110, rfl⟩
              refine re rfl (e_store rfl rfl rfl rfl rfl (Nat.le_of_ble_eq_true rfl) rfl) ?_; rintro _ rfl
              refine run_nil ?_
              refine ev_seq ?_
              refine ev_region ?_
              refine rq rfl rfl (q_move rfl) ?_
              refine rq rfl rfl (q_fld_p rfl) ?_
              refine rq rfl rfl (q_load1 rfl rfl rfl) ?_
              refine rq rfl rfl (q_max rfl rfl) ?_
              refine rq rfl rfl (q_assign rfl) ?_
              refine run_nil ?_
              refine ev_seq ?_
              refine ev_region ?_
              refine rq rfl rfl (q_fld_p rfl) ?_
              refine rq rfl rfl (q_load1 rfl rfl rfl) ?_
              refine rq rfl rfl (q_fld_p rfl) ?_
              refine rq rfl rfl (q_load1 rfl rfl rfl) ?_
              refine rq rfl rfl (q_geq rfl rfl) ?_
              refine rq rfl rfl (q_move rfl) ?_
              refine rqc (l := []) ⟨⟨_, _, _, rfl, rfl, rfl, rfl⟩, rfl, fun hc => q_fld_p rfl, trivial⟩ rfl ?_
              refine rqc (l := [75]) ⟨⟨_, _, _, rfl, rfl, rfl, rfl⟩, rfl, fun hc => q_load1 rfl rfl rfl, ⟨fun h => h, trivial⟩⟩ rfl ?_
              refine rqc (l := []) ⟨⟨_, _, _, rfl, rfl, rfl, rfl⟩, rfl, fun hc => q_fld_p rfl, trivial⟩ rfl ?_
              refine rqc (l := [77]) ⟨⟨_, _, _, rfl, rfl, rfl, rfl⟩, rfl, fun hc => q_load1 rfl rfl rfl, ⟨fun h => h, trivial⟩⟩ rfl ?_
              refine rqc (l := [76, 78]) ⟨⟨_, _, _, rfl, rfl, rfl, rfl⟩, rfl, fun hc => q_lss rfl rfl, ⟨fun h => h, ⟨fun h => h, trivial⟩⟩⟩ rfl ?_
              refine rq rfl rfl (q_pickb rfl rfl rfl (PB.c (fun hp => hp)) PB.v) ?_
              refine rq rfl rfl (q_move rfl) ?_
              refine rqc (l := []) ⟨⟨_, _, _, rfl, rfl, rfl, rfl⟩, rfl, fun hc => q_fld_p rfl, trivial⟩ rfl ?_
              refine rqc (l := [82]) ⟨⟨_, _, _, rfl, rfl, rfl, rfl⟩, rfl, fun hc => q_load1 rfl rfl rfl, ⟨fun h => h, trivial⟩⟩ rfl ?_
              refine rqc (l := []) ⟨⟨_, _, _, rfl, rfl, rfl, rfl⟩, rfl, fun hc => q_fld_p rfl, trivial⟩ rfl ?_
              refine rqc (l := [84]) ⟨⟨_, _, _, rfl, rfl, rfl, rfl⟩, rfl, fun hc => q_load1 rfl rfl rfl, ⟨fun h => h, trivial⟩⟩ rfl ?_
              refine rqc (l := [83, 85]) ⟨⟨_, _, _, rfl, rfl, rfl, rfl⟩, rfl, fun hc => q_gtr rfl rfl, ⟨fun h => h, ⟨fun h => h, trivial⟩⟩⟩ rfl ?_
              refine rq rfl rfl (q_pickb rfl rfl rfl (PB.c (fun hp => hp)) PB.v) ?_
              refine run_nil ?_
              refine ev_cond rfl (fun hc => ?_) (fun hc => ?_)
              · replace H := ct hc H
                refine ev_region ?_
                refine rq rfl rfl (q_move rfl) ?_
                refine rq rfl rfl (q_add rfl rfl) ?_
                refine rq rfl rfl (q_assign rfl) ?_
                refine run_nil ?_
                exact ⟨_, ⟨wr (s99.1 + 1), H, rfl⟩, shift_mk ⟨⟨_, rfl, .rfl⟩, ⟨⟨_, rfl, .rfl⟩, ⟨⟨_, rfl, .rfl⟩, ⟨⟨_, rfl, .rfl⟩, ⟨⟨_, rfl, .rfl⟩, ⟨⟨_, rfl, .rfl⟩, ⟨⟨_, rfl, (.flat rfl)⟩, ⟨⟨_, rfl, (.flat rfl)⟩, ⟨⟨_, rfl, .rfl⟩, ⟨⟨_, rfl, (.flat rfl)⟩, ⟨⟨_, rfl, (.flat rfl)⟩, trivial⟩⟩⟩⟩⟩⟩⟩⟩⟩⟩⟩ ⟨(.e rfl), ⟨(.w rfl (.cons (.flat rfl) (.cons (.flat rfl) (.cons (.flat rfl) (.cons (.flat rfl) (.cons (.flat rfl) (.cons (.flat rfl) .nil))))))), ⟨(.w rfl (.cons (.flat rfl) (.cons (.flat rfl) .nil))), ⟨(.e rfl), ⟨(.w rfl (.cons (.flat rfl) .nil)), ⟨(.e rfl), ⟨(.e rfl), trivial⟩⟩⟩⟩⟩⟩⟩ rfl rfl⟩
              · replace H := cf hc H
                refine ev_skip ?_
                exact ⟨_, ⟨s99.1, H, rfl⟩, shift_mk ⟨⟨_, rfl, .rfl⟩, ⟨⟨_, rfl, .rfl⟩, ⟨⟨_, rfl, .rfl⟩, ⟨⟨_, rfl, .rfl⟩, ⟨⟨_, rfl, .rfl⟩, ⟨⟨_, rfl, .rfl⟩, ⟨⟨_, rfl, (.flat rfl)⟩, ⟨⟨_, rfl, (.flat rfl)⟩, ⟨⟨_, rfl, .rfl⟩, ⟨⟨_, rfl, (.flat rfl)⟩, ⟨⟨_, rfl, (.flat rfl)⟩, trivial⟩⟩⟩⟩⟩⟩⟩⟩⟩⟩⟩ ⟨(.e rfl), ⟨(.w rfl (.cons (.flat rfl) (.cons (.flat rfl) (.cons (.flat rfl) (.cons (.flat rfl) (.cons (.flat rfl) (.cons (.flat rfl) .nil))))))), ⟨(.w rfl (.cons (.flat rfl) (.cons (.flat rfl) .nil))), ⟨(.e rfl), ⟨(.w rfl (.cons (.flat rfl) .nil)), ⟨(.e rfl), ⟨(.e rfl), trivial⟩⟩⟩⟩⟩⟩⟩ rfl rfl⟩
          · replace H := forL_out hc H
            refine ev_exit ?_
            obtain ⟨j111, j111_e, H⟩ := jn_inv H
            refine ev_join (fun σ' => ∃ (p112 : Int) (p113 : List GUnit) (p114 : List GItem) (p115 : List ByteArray) (p116 : List GMachine) (p117 : List GOption) (p118 : List (List GCond)) (p119 : List GRecipe) (p120 : List GSwap) (p121 : List Int) (p122 : List (List GInst)) (p123 : List GFact), j111 p112 p113 p114 p115 p116 p117 p118 p119 p120 p121 p122 p123 = some r ∧ σ' = mkS [(8, .p 8 0 b5 0), (9, .p 100360 0 b6 0), (11, .p 100440 0 b9 0)] [.e 9004 0 (some (D2, 0)) (.obj (.deferred (some []))), .e 8 0 (some (b5, 11)) (.row 38 [.v true (.raw (.slice none 0 0)), .v true (.raw (.slice none 0 0)), .v true (.raw (.slice none 0 0)), .v true (.raw (.slice none 0 0)), .v true (.raw (.slice none 0 0)), .v true (.raw (.slice none 0 0)), .v true (.raw (.slice none 0 0)), .v true (.raw (.slice none 0 0)), .v true (.raw (.slice none 0 0)), .v true (.raw (.slice none 0 0)), .v true (.raw (.slice none 0 0))]), .e 100360 0 (some (b6, 1)) (.row 48 [.v true (vi p112)]), .e 100440 0 (some (b9, 11)) (.row 38 [.v false (V.l 8 (List.map GUnit.e p113)), .v false (V.l 6 (List.map GItem.e p114)), .v false (V.l 1 (List.map V.s p115)), .v false (V.l 4 (List.map GMachine.e p116)), .v false (V.l 2 (List.map GOption.e p117)), .v false (V.l 1 (List.map (fun l => V.l 4 (List.map GCond.e l)) p118)), .v false (V.l 17 (List.map GRecipe.e p119)), .v false (V.l 4 (List.map GSwap.e p120)), .v false (V.l 1 (List.map vi p121)), .v false (V.l 1 (List.map (fun l => V.l 6 (List.map GInst.e l)) p122)), .v false (V.l 8 (List.map GFact.e p123))])] ({ target := .collected D2, args := #[] } :: []) (0, false)) ?_ ?_
            · rintro _ ⟨p112, p113, p114, p115, p116, p117, p118, p119, p120, p121, p122, p123, H, rfl⟩
              subst j111_e
              refine ev_seq ?_
              refine ev_seq ?_
              refine ev_region ?_
              refine rq rfl rfl (q_load1 rfl rfl rfl) ?_
              refine rq rfl rfl (q_nei rfl rfl) ?_
              refine run_nil ?_
              refine ev_cond rfl (fun hc => ?_) (fun hc => ?_)
              · replace H := ct hc H
                refine ev_seq ?_
                refine ev_drawX (fun i => (assocN [(2, [8]), (3, [100360])] i).getD []) rfl ?_
                refine xq (r := some _) [] 0 (.start _) rfl (by kernel_rfl) (by kernel_rfl) ⟨rfl, .inl ⟨rfl, Quiet.norm (Quiet.wk (d := .v true (GWorld.e (⟨(⟨(⟨[], [], [], [], [], [], [], []⟩ : GSource), [], []⟩ : GTables), []⟩ : GWorld))) (q_loadN rfl rfl rfl rfl) (Wk.nilLe (NilLe.st (by repeat (first | exact NilLes.nil | refine NilLes.cons (.refl _) ?_ | refine NilLes.cons (.nil _) ?_)))))⟩⟩ rfl (fun hcl => ?_)
                refine xq (r := some _) [8] 1 hcl rfl (by kernel_rfl) (by kernel_rfl) ⟨rfl, .inl ⟨rfl, Quiet.norm (q_load1 rfl rfl rfl)⟩⟩ rfl (fun hcl => ?_)
                refine xb hcl (l := [2]) (by kernel_rfl) (by simp) (fun i hi hcl => ?_)
                obtain rfl : i = 2 := by simpa using hi
                refine xe rfl (x_store rfl rfl rfl rfl rfl (Nat.le_of_ble_eq_true rfl) rfl rfl) ?_; rintro _ rfl
                refine xb hcl (l := [3]) (by kernel_rfl) (by simp) (fun i hi hcl => ?_)
                obtain rfl : i = 3 := by simpa using hi
                refine xe rfl (x_store1 rfl rfl rfl rfl rfl (Nat.le_of_ble_eq_true rfl) rfl rfl) ?_; rintro _ rfl
                refine xn (by kernel_rfl) ?_
                refine ev_ret ?_
                exact ret_okm [GWorld.e (⟨(⟨(⟨[], [], [], [], [], [], [], []⟩ : GSource), [], []⟩ : GTables), []⟩ : GWorld), vi p112] (congrArg (fun r : GWorld × Int => V.t [GWorld.e r.1, vi r.2]) (Option.some.inj H)) (.cons 9004 0 D2 0 rfl (.nil _)) (.cons (.cellN (z := 11) rfl rfl rfl rfl rfl rfl (.v _ _ (fun e => nomatch e))) (.cons (.cell1 rfl rfl rfl rfl (.v _ _ (fun e => nomatch e))) .nil))
              · replace H := cf hc H
                refine ev_skip ?_
                refine ev_seq ?_
                refine ev_region ?_
                refine rq rfl rfl (q_loadN rfl rfl rfl rfl) ?_
                refine re rfl (e_store rfl rfl rfl rfl rfl (Nat.le_of_ble_eq_true rfl) rfl) ?_; rintro _ rfl
                refine re rfl (e_store1 rfl rfl rfl rfl rfl (Nat.le_of_ble_eq_true rfl) rfl) ?_; rintro _ rfl
                refine run_nil ?_
                refine ev_ret ?_
                exact ret_okm [GWorld.e (⟨(⟨(⟨p113, p114, p115, p116, p117, p118, p119, p120⟩ : GSource), p121, p122⟩ : GTables), p123⟩ : GWorld), vi 0] (congrArg (fun r : GWorld × Int => V.t [GWorld.e r.1, vi r.2]) (Option.some.inj H)) (.cons 9004 0 D2 0 rfl (.nil _)) (.cons (.cellN (z := 11) rfl rfl rfl rfl rfl rfl (.v _ _ (fun e => nomatch e))) (.cons (.cell1 rfl rfl rfl rfl (.v _ _ (fun e => nomatch e))) .nil))
            · clear j111_e
              refine ev_seq ?_
              refine ev_region ?_
              refine rq rfl rfl (q_move rfl) ?_
              refine rq rfl rfl (q_fld_p rfl) ?_
              refine rq rfl rfl (q_load1 rfl rfl rfl) ?_
              refine rq rfl rfl (q_fld_p rfl) ?_
              refine rq rfl rfl (q_load1 rfl rfl rfl) ?_
              refine rq rfl rfl (q_sub rfl rfl) ?_
              refine rq rfl rfl (q_lss rfl rfl) ?_
              refine run_nil ?_
              refine ev_cond rfl (fun hc => ?_) (fun hc => ?_)
              · replace H := ct hc H
                obtain ⟨x124, x124_h, H⟩ := bd_inv H
                refine ev_drawX (fun i => (assocN [(4, [100360, 100440])] i).getD []) rfl ?_
                refine xq (r := some _) [] 0 (.start _) rfl (by kernel_rfl) (by kernel_rfl) ⟨rfl, .inl ⟨rfl, Quiet.norm (q_load1 rfl rfl rfl)⟩⟩ rfl (fun hcl => ?_)
                refine xq (r := some _) [] 1 hcl rfl (by kernel_rfl) (by kernel_rfl) ⟨rfl, .inl ⟨rfl, Quiet.norm (q_call rfl (.v _ _ (fun e => nomatch e)) ArgsOk.nil inferInstance (stock_head_c  x97_h))⟩⟩ rfl (fun hcl => ?_)
                refine xq (r := some _) [] 2 hcl rfl (by kernel_rfl) (by kernel_rfl) ⟨rfl, .inl ⟨rfl, Quiet.norm (q_move rfl)⟩⟩ rfl (fun hcl => ?_)
                refine xq (r := some _) [] 3 hcl rfl (by kernel_rfl) (by kernel_rfl) ⟨rfl, .inl ⟨rfl, Quiet.norm (q_build rfl (.v rfl rfl rfl rfl rfl .nil))⟩⟩ rfl (fun hcl => ?_)
                refine xb hcl (l := [4]) (by kernel_rfl) (by simp) (fun i hi hcl => ?_)
                obtain rfl : i = 4 := by simpa using hi
                refine xe rfl (x_callR [100360, 100440] rfl (.c _ _) rfl inferInstance (stock_Put_1_c  x124_h) ⟨(.w rfl (.cons (.flat rfl) .nil)), ⟨(.w rfl (.cons .old (.cons .old (.cons .old (.cons .old (.cons .old (.cons .old (.cons .old (.cons .old (.cons .old (.cons .old (.cons .old .nil)))))))))))), trivial⟩⟩ rfl rfl rfl) ?_; rintro _ ⟨_, _, ⟨rfl, rfl⟩, rfl⟩
                refine xn (by kernel_rfl) ?_
                exact ⟨_, ⟨x124.1, x124.2.tables.source.units, x124.2.tables.source.items, x124.2.tables.source.plants, x124.2.tables.source.machines, x124.2.tables.source.options, x124.2.tables.source.forbids, x124.2.tables.source.recipes, x124.2.tables.source.swaps, x124.2.tables.levels, x124.2.tables.codes, x124.2.facts, H, rfl⟩, shift_mk ⟨⟨_, rfl, .rfl⟩, ⟨⟨_, rfl, .rfl⟩, ⟨⟨_, rfl, .rfl⟩, trivial⟩⟩⟩ ⟨(.e rfl), ⟨(.e rfl), ⟨(.w rfl (.cons (.flat rfl) .nil)), ⟨(.e rfl), trivial⟩⟩⟩⟩ rfl rfl⟩
              · replace H := cf hc H
                refine ev_skip ?_
                exact ⟨_, ⟨p69, p70, p71, p72, p73, p74, p75, p76, p77, p78, p79, p80, H, rfl⟩, shift_mk ⟨⟨_, rfl, .rfl⟩, ⟨⟨_, rfl, .rfl⟩, ⟨⟨_, rfl, .rfl⟩, trivial⟩⟩⟩ ⟨(.e rfl), ⟨(.e rfl), ⟨(.w rfl (.cons (.flat rfl) .nil)), ⟨(.e rfl), trivial⟩⟩⟩⟩ rfl rfl⟩
def stock_isDay_m (a0 : Int) : Option Bool := some (bif decide (0 ≤ a0) then decide (a0 < 1024) else false)
theorem stock_isDay_c {a0 : Int} {r : Bool} (H : stock_isDay_m a0 = some r) : PureC Try.prog true 54 [vi a0] (vb r) := by
  unfold stock_isDay_m at H
  refine pure_intro (N := 9) Try.func54 rfl rfl rfl rfl fun C hO => ?_
  refine ev_shift (shift_mk (fs := [(0, .v true (vi a0))]) (es := []) ⟨⟨_, rfl, (.flat rfl)⟩, trivial⟩ trivial rfl rfl) ?_
  refine ev_seq ?_
  refine ev_region ?_
  refine rq rfl rfl (q_assign rfl) ?_
  refine run_nil ?_
  refine ev_seq ?_
  refine ev_region ?_
  refine rq rfl rfl (q_move rfl) ?_
  refine rq rfl rfl (q_geq rfl rfl) ?_
  refine rq rfl rfl (q_move rfl) ?_
  refine rqc (l := []) ⟨⟨_, _, _, rfl, rfl, rfl, rfl⟩, rfl, fun hc => q_move rfl, trivial⟩ rfl ?_
  refine rqc (l := [6]) ⟨⟨_, _, _, rfl, rfl, rfl, rfl⟩, rfl, fun hc => q_lss rfl rfl, ⟨fun h => h, trivial⟩⟩ rfl ?_
  refine rq rfl rfl (q_pickb rfl rfl rfl (PB.c (fun hp => hp)) PB.v) ?_
  refine rq rfl rfl (q_assign rfl) ?_
  refine run_nil ?_
  refine ev_ret ?_
  exact ret_ok [vb (bif decide (0 ≤ a0) then decide (a0 < 1024) else false)] (congrArg (fun r : Bool => vb r) (Option.some.inj H)) rfl (.cons (.tmp rfl (.v _ _ (fun _ => rfl))) .nil)
def facts_At_m (a0 : List GFact) (a1 : GKey) (a2 : Int) (a3 : Int) : Option (Int × Bool) := bd (facts_of_m a0 a1 a3) fun x5 => bd (facts_of_1_m x5.1 x5.2.1 x5.2.2) fun ys6 => forL ys6 (fun (k9 : Nat) (x10 : GFact) (s7 : Int × Int × Int × Int × Int × Int × Int × Int × Bool) loop8 => bdc ((bif decide (x10.valid.from_ ≤ a2) then decide (a2 < x10.valid.to_) else false) && (!(!s7.2.2.2.2.2.2.2.2))) (facts_compare_m x10 (⟨(⟨s7.1, s7.2.1, s7.2.2.1⟩ : GKey), s7.2.2.2.1, (⟨s7.2.2.2.2.1, s7.2.2.2.2.2.1⟩ : GSpan), s7.2.2.2.2.2.2.1, s7.2.2.2.2.2.2.2.1⟩ : GFact)) fun x25 => bif bif bif decide (x10.valid.from_ ≤ a2) then decide (a2 < x10.valid.to_) else false then bif !s7.2.2.2.2.2.2.2.2 then true else decide (0 ≤ x25) else false then (loop8 (x10.key.kind, x10.key.subject, x10.key.object, x10.value, x10.valid.from_, x10.valid.to_, x10.known, x10.no_, true)) else (loop8 (s7.1, s7.2.1, s7.2.2.1, s7.2.2.2.1, s7.2.2.2.2.1, s7.2.2.2.2.2.1, s7.2.2.2.2.2.2.1, s7.2.2.2.2.2.2.2.1, s7.2.2.2.2.2.2.2.2))) (fun (s7 : Int × Int × Int × Int × Int × Int × Int × Int × Bool) => bif bif !s7.2.2.2.2.2.2.2.2 then true else decide (s7.2.2.2.1 < 0) then (some (0, false)) else (some (s7.2.2.2.1, true))) (0, 0, 0, 0, 0, 0, 0, 0, false)
theorem facts_At_c {a0 : List GFact} {a1 : GKey} {a2 : Int} {a3 : Int} {r : Int × Bool} (H : facts_At_m a0 a1 a2 a3 = some r) : PureC Try.prog true 28 [V.l 8 (List.map GFact.e a0), GKey.e a1, vi a2, vi a3] (V.t [vi r.1, vb r.2]) := by
  unfold facts_At_m at H
  refine pure_intro (N := 50) Try.func28 rfl rfl rfl rfl fun C hO => ?_
  refine ev_shift (shift_mk (fs := [(0, .v false (V.l 8 (List.map GFact.e a0))), (1, .v true (GKey.e a1)), (2, .v true (vi a2)), (3, .v true (vi a3))]) (es := []) ⟨⟨_, rfl, .rfl⟩, ⟨⟨_, rfl, (.flat rfl)⟩, ⟨⟨_, rfl, (.flat rfl)⟩, ⟨⟨_, rfl, (.flat rfl)⟩, trivial⟩⟩⟩⟩ trivial rfl rfl) ?_
  refine ev_seq ?_
  refine ev_region ?_
  refine re rfl (e_box 5 0 rfl rfl rfl) ?_; rintro _ ⟨b1, rfl⟩
  refine re rfl (e_box 6 0 rfl rfl rfl) ?_; rintro _ ⟨b2, rfl⟩
  refine rq rfl rfl (q_assign rfl) ?_
  refine rq rfl rfl (q_assign rfl) ?_
  refine run_nil ?_
  refine ev_seq ?_
  refine ev_region ?_
  refine re rfl (e_alloc 10 0 rfl rfl) ?_; rintro _ ⟨b3, rfl⟩
  refine run_nil ?_
  refine ev_seq ?_
  refine ev_region ?_
  refine re rfl (e_alloc 11 0 rfl rfl) ?_; rintro _ ⟨b4, rfl⟩
  refine re rfl (e_store1 rfl rfl rfl rfl rfl (Nat.le_of_ble_eq_true rfl) rfl) ?_; rintro _ rfl
  refine run_nil ?_
  refine ev_seq ?_
  refine ev_seq ?_
  refine ev_region ?_
  refine rq rfl rfl (q_move rfl) ?_
  refine rq rfl rfl (q_loadN rfl rfl rfl rfl) ?_
  refine rq rfl rfl (q_move rfl) ?_
  obtain ⟨x5, x5_h, H⟩ := bd_inv H
  refine rq rfl rfl (q_calla rfl (.v rfl (.v rfl (.v rfl CapsOk.nil))) inferInstance (facts_of_c  x5_h)) ?_
  refine run_nil ?_
  refine ev_block ?_
  obtain ⟨ys6, ys6_h, H⟩ := bd_inv H
  obtain ⟨B11, K12, h13, h14, H⟩ := forL_gen H
  refine ev_shift (σ' := mkS [(6, .p 6 0 b2 0), (8, .v true (vi 0)), (9, .v true (vb false)), (10, .p 10 0 b3 0), (11, .p 11 0 b4 0), (16, .v false (.c 89 [.q (V.cells (V.l 8 (List.map GFact.e x5.1))), .q (V.cells (GKey.e x5.2.1)), .q (V.cells (vi x5.2.2))]))] [.e 6 0 (some (b2, 1)) (.row 3 [.v true (vi a2)]), .e 10 0 (some (b3, 8)) (.row 120 [.v true (vi 0), .v true (vi 0), .v true (vi 0), .v true (vi 0), .v true (vi 0), .v true (vi 0), .v true (vi 0), .v true (vi 0)]), .e 11 0 (some (b4, 1)) (.row 4 [.v true (vb false)])] [] (0, false)) (shift_mk ⟨⟨_, rfl, .rfl⟩, ⟨⟨_, rfl, (.flat rfl)⟩, ⟨⟨_, rfl, (.flat rfl)⟩, ⟨⟨_, rfl, .rfl⟩, ⟨⟨_, rfl, .rfl⟩, ⟨⟨_, rfl, .rfl⟩, trivial⟩⟩⟩⟩⟩⟩ ⟨(.w rfl (.cons (.flat rfl) .nil)), ⟨(.w rfl (.cons (.flat rfl) (.cons (.flat rfl) (.cons (.flat rfl) (.cons (.flat rfl) (.cons (.flat rfl) (.cons (.flat rfl) (.cons (.flat rfl) (.cons (.flat rfl) .nil))))))))), ⟨(.w rfl (.cons (.flat rfl) .nil)), trivial⟩⟩⟩ rfl rfl) ?_
  refine ev_range (els := ys6.map (fun y => [GFact.e y])) rfl inferInstance (facts_of_1_c ys6_h) 9004 9005 [6, 8, 9, 10, 11, 16] rfl (by decide) (fun n args h => by obtain ⟨x, _, rfl⟩ := range_at h; rfl) (fun D2 l2 L2 => ⟨fun n σ' => ∃ (s7 : Int × Int × Int × Int × Int × Int × Int × Int × Bool), forLg B11 K12 n (ys6.drop n) s7 = some r ∧ σ' = mkS [(6, .p 6 0 b2 0), (8, .v true (vi 0)), (9, .v true (vb false)), (10, .p 10 0 b3 0), (11, .p 11 0 b4 0), (16, .v false (.c 89 [.q (V.cells (V.l 8 (List.map GFact.e x5.1))), .q (V.cells (GKey.e x5.2.1)), .q (V.cells (vi x5.2.2))]))] [.e 6 0 (some (b2, 1)) (.row 3 [.v true (vi a2)]), .e 10 0 (some (b3, 8)) (.row 120 [.v true (vi s7.1), .v true (vi s7.2.1), .v true (vi s7.2.2.1), .v true (vi s7.2.2.2.1), .v true (vi s7.2.2.2.2.1), .v true (vi s7.2.2.2.2.2.1), .v true (vi s7.2.2.2.2.2.2.1), .v true (vi s7.2.2.2.2.2.2.2.1)]), .e 11 0 (some (b4, 1)) (.row 4 [.v true (vb s7.2.2.2.2.2.2.2.2)]), .e 9005 0 (some (l2, 0)) (.obj (L2 .ready none)), .e 9004 0 (some (D2, 0)) (.obj (.deferred (some [])))] ({ target := .collected D2, args := #[] } :: []) (0, false), ?_, ?_, ?_, ?_⟩)
  · exact ⟨_, ⟨(0, 0, 0, 0, 0, 0, 0, 0, false), H, rfl⟩, le_mk ⟨rfl, ⟨rfl, ⟨rfl, ⟨rfl, ⟨rfl, ⟨rfl, trivial⟩⟩⟩⟩⟩⟩ ⟨rfl, ⟨rfl, ⟨rfl, ⟨rfl, ⟨rfl, trivial⟩⟩⟩⟩⟩ rfl rfl⟩
  · rintro n _ ⟨s7, _, rfl⟩
    exact ⟨rfl, rfl, rfl⟩
  · rintro k9 args _ val is hN he ⟨s7, H, rfl⟩ hcl
    obtain ⟨x10, x10_g, rfl⟩ := range_at he
    subst h13; subst h14
    replace H := forL_at x10_g H
    refine ev_region ?_
    refine re rfl (e_alloc 12 0 rfl rfl) ?_; rintro _ ⟨b24, rfl⟩
    refine re rfl (e_store rfl rfl rfl rfl rfl (Nat.le_of_ble_eq_true rfl) rfl) ?_; rintro _ rfl
    refine run_nil ?_
    refine ⟨rfl, ?_⟩
    refine ev_block ?_
    refine ev_seq ?_
    refine ev_region ?_
    refine rq rfl rfl (q_fld_p rfl) ?_
    refine rq rfl rfl (q_fld_p rfl) ?_
    refine rq rfl rfl (q_load1 rfl rfl rfl) ?_
    refine rq rfl rfl (q_load1 rfl rfl rfl) ?_
    refine rq rfl rfl (q_leq rfl rfl) ?_
    refine rq rfl rfl (q_move rfl) ?_
    refine rqc (l := []) ⟨⟨_, _, _, rfl, rfl, rfl, rfl⟩, rfl, fun hc => q_load1 rfl rfl rfl, trivial⟩ rfl ?_
    refine rqc (l := []) ⟨⟨_, _, _, rfl, rfl, rfl, rfl⟩, rfl, fun hc => q_fld_p rfl, trivial⟩ rfl ?_
    refine rqc (l := [25]) ⟨⟨_, _, _, rfl, rfl, rfl, rfl⟩, rfl, fun hc => q_fld_p rfl, ⟨fun h => h, trivial⟩⟩ rfl ?_
    refine rqc (l := [26]) ⟨⟨_, _, _, rfl, rfl, rfl, rfl⟩, rfl, fun hc => q_load1 rfl rfl rfl, ⟨fun h => h, trivial⟩⟩ rfl ?_
    refine rqc (l := [24, 27]) ⟨⟨_, _, _, rfl, rfl, rfl, rfl⟩, rfl, fun hc => q_lss rfl rfl, ⟨fun h => h, ⟨fun h => h, trivial⟩⟩⟩ rfl ?_
    refine rq rfl rfl (q_pickb rfl rfl rfl (PB.c (fun hp => hp)) PB.v) ?_
    refine rq rfl rfl (q_move rfl) ?_
    refine rqc (l := []) ⟨⟨_, _, _, rfl, rfl, rfl, rfl⟩, rfl, fun hc => q_load1 rfl rfl rfl, trivial⟩ rfl ?_
    refine rqc (l := [31]) ⟨⟨_, _, _, rfl, rfl, rfl, rfl⟩, rfl, fun hc => q_not rfl, ⟨fun h => h, trivial⟩⟩ rfl ?_
    refine rqc (l := [32]) ⟨⟨_, _, _, rfl, rfl, rfl, rfl⟩, rfl, fun hc => q_move rfl, ⟨fun h => h, trivial⟩⟩ rfl ?_
    refine rqc (l := []) ⟨⟨_, _, _, rfl, rfl, rfl, rfl⟩, rfl, fun hc => q_loadN rfl rfl rfl rfl, trivial⟩ rfl ?_
    refine rqc (l := []) ⟨⟨_, _, _, rfl, rfl, rfl, rfl⟩, rfl, fun hc => q_loadN rfl rfl rfl rfl, trivial⟩ rfl ?_
    obtain ⟨x25, x25_h, _, H⟩ := bdc_inv H
    refine rqc (l := [34, 35]) ⟨⟨_, _, _, rfl, rfl, rfl, rfl⟩, rfl, fun hc => q_call rfl (.v _ _ (fun e => nomatch e)) (.v rfl (.v rfl ArgsOk.nil)) inferInstance (facts_compare_c  (x25_h hc)), ⟨fun h => h, ⟨fun h => h, trivial⟩⟩⟩ rfl ?_
    refine rqc (l := [36]) ⟨⟨_, _, _, rfl, rfl, rfl, rfl⟩, rfl, fun hc => q_geq rfl rfl, ⟨fun h => h, trivial⟩⟩ rfl ?_
    refine rqc (l := [33]) ⟨⟨_, _, _, rfl, rfl, rfl, rfl⟩, rfl, fun hc => q_pickb rfl rfl rfl PB.v (PB.c (fun hp => by simp_all)), ⟨fun h => h, trivial⟩⟩ rfl ?_
    refine rq rfl rfl (q_pickb rfl rfl rfl (PB.c (fun hp => hp)) PB.v) ?_
    refine run_nil ?_
    refine ev_cond rfl (fun hc => ?_) (fun hc => ?_)
    · replace H := ct hc H
      refine ev_region ?_
      refine rq rfl rfl (q_loadN rfl rfl rfl rfl) ?_
      refine re rfl (e_store rfl rfl rfl rfl rfl (Nat.le_of_ble_eq_true rfl) rfl) ?_; rintro _ rfl
      refine re rfl (e_store1 rfl rfl rfl rfl rfl (Nat.le_of_ble_eq_true rfl) rfl) ?_; rintro _ rfl
      refine run_nil ?_
      exact ⟨rfl, _, ⟨(x10.key.kind, x10.key.subject, x10.key.object, x10.value, x10.valid.from_, x10.valid.to_, x10.known, x10.no_, true), H, rfl⟩, cov_mk rfl ⟨rfl, ⟨rfl, ⟨rfl, ⟨rfl, ⟨rfl, ⟨rfl, trivial⟩⟩⟩⟩⟩⟩ ⟨rfl, ⟨rfl, ⟨rfl, ⟨rfl, ⟨rfl, trivial⟩⟩⟩⟩⟩ rfl⟩
    · replace H := cf hc H
      refine ev_skip ?_
      exact ⟨rfl, _, ⟨(s7.1, s7.2.1, s7.2.2.1, s7.2.2.2.1, s7.2.2.2.2.1, s7.2.2.2.2.2.1, s7.2.2.2.2.2.2.1, s7.2.2.2.2.2.2.2.1, s7.2.2.2.2.2.2.2.2), H, rfl⟩, cov_mk rfl ⟨rfl, ⟨rfl, ⟨rfl, ⟨rfl, ⟨rfl, ⟨rfl, trivial⟩⟩⟩⟩⟩⟩ ⟨rfl, ⟨rfl, ⟨rfl, ⟨rfl, ⟨rfl, trivial⟩⟩⟩⟩⟩ rfl⟩
  · rintro _ ⟨s7, H, rfl⟩
    rw [List.length_map] at H
    subst h13; subst h14
    replace H := forL_end H
    refine ev_seq ?_
    refine ev_seq ?_
    refine ev_region ?_
    refine rq rfl rfl (q_load1 rfl rfl rfl) ?_
    refine rq rfl rfl (q_not rfl) ?_
    refine rq rfl rfl (q_move rfl) ?_
    refine rqc (l := []) ⟨⟨_, _, _, rfl, rfl, rfl, rfl⟩, rfl, fun hc => q_fld_p rfl, trivial⟩ rfl ?_
    refine rqc (l := [44]) ⟨⟨_, _, _, rfl, rfl, rfl, rfl⟩, rfl, fun hc => q_load1 rfl rfl rfl, ⟨fun h => h, trivial⟩⟩ rfl ?_
    refine rqc (l := [45]) ⟨⟨_, _, _, rfl, rfl, rfl, rfl⟩, rfl, fun hc => q_lss rfl rfl, ⟨fun h => h, trivial⟩⟩ rfl ?_
    refine rq rfl rfl (q_pickb rfl rfl rfl PB.v (PB.c (fun hp => by rw [hp]; rfl))) ?_
    refine run_nil ?_
    refine ev_cond rfl (fun hc => ?_) (fun hc => ?_)
    · replace H := ct hc H
      refine ev_seq ?_
      refine ev_region ?_
      refine rq rfl rfl (q_assign rfl) ?_
      refine rq rfl rfl (q_assign rfl) ?_
      refine run_nil ?_
      refine ev_ret ?_
      exact ret_okm [vi 0, vb false] (congrArg (fun r : Int × Bool => V.t [vi r.1, vb r.2]) (Option.some.inj H)) (.cons 9004 0 D2 0 rfl (.nil _)) (.cons (.tmp rfl (.v _ _ (fun _ => rfl))) (.cons (.tmp rfl (.v _ _ (fun _ => rfl))) .nil))
    · replace H := cf hc H
      refine ev_skip ?_
      refine ev_seq ?_
      refine ev_region ?_
      refine rq rfl rfl (q_fld_p rfl) ?_
      refine rq rfl rfl (q_load1 rfl rfl rfl) ?_
      refine rq rfl rfl (q_assign rfl) ?_
      refine rq rfl rfl (q_assign rfl) ?_
      refine run_nil ?_
      refine ev_ret ?_
      exact ret_okm [vi s7.2.2.2.1, vb true] (congrArg (fun r : Int × Bool => V.t [vi r.1, vb r.2]) (Option.some.inj H)) (.cons 9004 0 D2 0 rfl (.nil _)) (.cons (.tmp rfl (.v _ _ (fun _ => rfl))) (.cons (.tmp rfl (.v _ _ (fun _ => rfl))) .nil))
def stock_looker_at_m (a0 : GstockLooker) (a1 : GKey) : Option (Int × Bool × GstockLooker) := gd (decide ((a0.reads.length + ([(⟨a1, a0.day, wr (a0.day + 1)⟩ : GRead)] : List GRead).length) * 41 ≤ 140737488355328)) <| bd (facts_At_m a0.w.facts a1 a0.day a0.known) fun x5 => some (x5.1, x5.2, (⟨a0.w, a0.day, a0.known, a0.reads ++ ([(⟨a1, a0.day, wr (a0.day + 1)⟩ : GRead)] : List GRead)⟩ : GstockLooker))
theorem stock_looker_at_c {a0 : GstockLooker} {b_a0 : Nat} {q0_a0 : Pl} {a1 : GKey} {f_a1 : Bool} {r : Int × Bool × GstockLooker} (H : stock_looker_at_m a0 a1 = some r) : FnR Try.prog 88 [.p 7000 0 b_a0 0, .v f_a1 (GKey.e a1)] [.e 7000 0 (some (b_a0, 14)) (.row 115 [.v false (V.l 8 (List.map GUnit.e a0.w.tables.source.units)), .v false (V.l 6 (List.map GItem.e a0.w.tables.source.items)), .v false (V.l 1 (List.map V.s a0.w.tables.source.plants)), .v false (V.l 4 (List.map GMachine.e a0.w.tables.source.machines)), .v false (V.l 2 (List.map GOption.e a0.w.tables.source.options)), .v false (V.l 1 (List.map (fun l => V.l 4 (List.map GCond.e l)) a0.w.tables.source.forbids)), .v false (V.l 17 (List.map GRecipe.e a0.w.tables.source.recipes)), .v false (V.l 4 (List.map GSwap.e a0.w.tables.source.swaps)), .v false (V.l 1 (List.map vi a0.w.tables.levels)), .v false (V.l 1 (List.map (fun l => V.l 6 (List.map GInst.e l)) a0.w.tables.codes)), .v false (V.l 8 (List.map GFact.e a0.w.facts)), .v true (vi a0.day), .v true (vi a0.known), .o 7004 0 q0_a0 5 0 a0.reads.length]), .e 7004 0 q0_a0 (.row 100 (els true (List.map GRead.e a0.reads)))] (fun d es' => ∃ (q0_a0' : Pl), d = .t [.v true (vi r.1), .v true (vb r.2.1)] ∧ es' = [.e 7000 0 (some (b_a0, 14)) (.row 115 [.v false (V.l 8 (List.map GUnit.e r.2.2.w.tables.source.units)), .v false (V.l 6 (List.map GItem.e r.2.2.w.tables.source.items)), .v false (V.l 1 (List.map V.s r.2.2.w.tables.source.plants)), .v false (V.l 4 (List.map GMachine.e r.2.2.w.tables.source.machines)), .v false (V.l 2 (List.map GOption.e r.2.2.w.tables.source.options)), .v false (V.l 1 (List.map (fun l => V.l 4 (List.map GCond.e l)) r.2.2.w.tables.source.forbids)), .v false (V.l 17 (List.map GRecipe.e r.2.2.w.tables.source.recipes)), .v false (V.l 4 (List.map GSwap.e r.2.2.w.tables.source.swaps)), .v false (V.l 1 (List.map vi r.2.2.w.tables.levels)), .v false (V.l 1 (List.map (fun l => V.l 6 (List.map GInst.e l)) r.2.2.w.tables.codes)), .v false (V.l 8 (List.map GFact.e r.2.2.w.facts)), .v true (vi r.2.2.day), .v true (vi r.2.2.known), .o 7004 0 q0_a0' 5 0 r.2.2.reads.length]), .e 7004 0 q0_a0' (.row 100 (els true (List.map GRead.e r.2.2.reads)))]) := by
  unfold stock_looker_at_m at H
  refine fnr_intro (N := 43) Try.func88 rfl rfl rfl rfl fun C => ?_
  refine ev_shift (shift_mk (fs := [(0, .p 7000 0 b_a0 0), (1, .v true (GKey.e a1))]) (es := [.e 7000 0 (some (b_a0, 14)) (.row 115 [.v false (V.l 8 (List.map GUnit.e a0.w.tables.source.units)), .v false (V.l 6 (List.map GItem.e a0.w.tables.source.items)), .v false (V.l 1 (List.map V.s a0.w.tables.source.plants)), .v false (V.l 4 (List.map GMachine.e a0.w.tables.source.machines)), .v false (V.l 2 (List.map GOption.e a0.w.tables.source.options)), .v false (V.l 1 (List.map (fun l => V.l 4 (List.map GCond.e l)) a0.w.tables.source.forbids)), .v false (V.l 17 (List.map GRecipe.e a0.w.tables.source.recipes)), .v false (V.l 4 (List.map GSwap.e a0.w.tables.source.swaps)), .v false (V.l 1 (List.map vi a0.w.tables.levels)), .v false (V.l 1 (List.map (fun l => V.l 6 (List.map GInst.e l)) a0.w.tables.codes)), .v false (V.l 8 (List.map GFact.e a0.w.facts)), .v true (vi a0.day), .v true (vi a0.known), .o 7004 0 q0_a0 5 0 a0.reads.length]), .e 7004 0 q0_a0 (.row 100 (els true (List.map GRead.e a0.reads)))]) ⟨⟨_, rfl, .rfl⟩, ⟨⟨_, rfl, (.flat rfl)⟩, trivial⟩⟩ ⟨(.e rfl), ⟨(.e rfl), trivial⟩⟩ rfl rfl) ?_
  refine ev_seq ?_
  refine ev_region ?_
  refine re rfl (e_box 3 0 rfl rfl rfl) ?_; rintro _ ⟨b1, rfl⟩
  refine rq rfl rfl (q_assign rfl) ?_
  refine rq rfl rfl (q_assign rfl) ?_
  refine run_nil ?_
  refine ev_seq ?_
  obtain ⟨w2, H⟩ := gdd_inv H
  refine ev_drawX (fun i => (assocN [(17, [7004]), (20, [7000])] i).getD []) rfl ?_
  refine xq (r := some _) [7004] 0 (.start _) rfl (by kernel_rfl) (by kernel_rfl) ⟨rfl, .inl ⟨rfl, Quiet.norm (q_move rfl)⟩⟩ rfl (fun hcl => ?_)
  refine xq (r := some _) [] 1 hcl rfl (by kernel_rfl) (by kernel_rfl) ⟨rfl, .inl ⟨rfl, Quiet.norm (q_move rfl)⟩⟩ rfl (fun hcl => ?_)
  refine xq (r := some _) [] 2 hcl rfl (by kernel_rfl) (by kernel_rfl) ⟨rfl, .inl ⟨rfl, Quiet.norm (q_nil rfl)⟩⟩ rfl (fun hcl => ?_)
  refine xq (r := some _) [] 3 hcl rfl (by kernel_rfl) (by kernel_rfl) ⟨rfl, .inl ⟨rfl, Quiet.norm (q_fld_p rfl)⟩⟩ rfl (fun hcl => ?_)
  refine xq (r := some _) [] 4 hcl rfl (by kernel_rfl) (by kernel_rfl) ⟨rfl, .inl ⟨rfl, Quiet.norm (q_load1 rfl rfl rfl)⟩⟩ rfl (fun hcl => ?_)
  refine xq (r := some _) [] 5 hcl rfl (by kernel_rfl) (by kernel_rfl) ⟨rfl, .inl ⟨rfl, Quiet.norm (q_loadN rfl rfl rfl rfl)⟩⟩ rfl (fun hcl => ?_)
  refine xq (r := some _) [] 6 hcl rfl (by kernel_rfl) (by kernel_rfl) ⟨rfl, .inl ⟨rfl, Quiet.norm (q_move rfl)⟩⟩ rfl (fun hcl => ?_)
  refine xq (r := some _) [] 7 hcl rfl (by kernel_rfl) (by kernel_rfl) ⟨rfl, .inl ⟨rfl, Quiet.norm (q_nil rfl)⟩⟩ rfl (fun hcl => ?_)
  refine xq (r := some _) [] 8 hcl rfl (by kernel_rfl) (by kernel_rfl) ⟨rfl, .inl ⟨rfl, Quiet.norm (q_fld_p rfl)⟩⟩ rfl (fun hcl => ?_)
  refine xq (r := some _) [] 9 hcl rfl (by kernel_rfl) (by kernel_rfl) ⟨rfl, .inl ⟨rfl, Quiet.norm (q_load1 rfl rfl rfl)⟩⟩ rfl (fun hcl => ?_)
  refine xq (r := some _) [] 10 hcl rfl (by kernel_rfl) (by kernel_rfl) ⟨rfl, .inl ⟨rfl, Quiet.norm (q_move rfl)⟩⟩ rfl (fun hcl => ?_)
  refine xq (r := some _) [] 11 hcl rfl (by kernel_rfl) (by kernel_rfl) ⟨rfl, .inl ⟨rfl, Quiet.norm (q_nil rfl)⟩⟩ rfl (fun hcl => ?_)
  refine xq (r := some _) [] 12 hcl rfl (by kernel_rfl) (by kernel_rfl) ⟨rfl, .inl ⟨rfl, Quiet.norm (q_fld_p rfl)⟩⟩ rfl (fun hcl => ?_)
  refine xq (r := some _) [] 13 hcl rfl (by kernel_rfl) (by kernel_rfl) ⟨rfl, .inl ⟨rfl, Quiet.norm (q_load1 rfl rfl rfl)⟩⟩ rfl (fun hcl => ?_)
  refine xq (r := some _) [] 14 hcl rfl (by kernel_rfl) (by kernel_rfl) ⟨rfl, .inl ⟨rfl, Quiet.norm (q_add rfl rfl)⟩⟩ rfl (fun hcl => ?_)
  refine xq (r := some _) [] 15 hcl rfl (by kernel_rfl) (by kernel_rfl) ⟨rfl, .inl ⟨rfl, Quiet.norm (q_build rfl (.v rfl rfl rfl rfl rfl (.v rfl rfl rfl rfl rfl (.v rfl rfl rfl rfl rfl .nil))))⟩⟩ rfl (fun hcl => ?_)
  refine xq (r := some _) [] 16 hcl rfl (by kernel_rfl) (by kernel_rfl) ⟨rfl, .inl ⟨rfl, Quiet.norm (q_buildSlice (z := 5) (xs := List.map GRead.e ([(⟨a1, a0.day, wr (a0.day + 1)⟩ : GRead)] : List GRead)) (fl := true) rfl rfl rfl rfl (by simp [V.plain, V.cells, GRead.e, vi, vb]) rfl)⟩⟩ rfl (fun hcl => ?_)
  refine xb hcl (l := [17]) (by kernel_rfl) (by simp) (fun i hi hcl => ?_)
  obtain rfl : i = 17 := by simpa using hi
  refine xe rfl (x_appt rfl rfl rfl (fun _ => ⟨rfl, rfl⟩) rfl rfl rfl w2 rfl rfl) ?_; rintro _ ⟨q4, rfl⟩
  refine xq (r := some _) [] 18 hcl rfl (by kernel_rfl) (by kernel_rfl) ⟨rfl, .inl ⟨rfl, Quiet.norm (q_nil rfl)⟩⟩ rfl (fun hcl => ?_)
  refine xq (r := some _) [] 19 hcl rfl (by kernel_rfl) (by kernel_rfl) ⟨rfl, .inl ⟨rfl, Quiet.norm (q_fld_p rfl)⟩⟩ rfl (fun hcl => ?_)
  refine xb hcl (l := [20]) (by kernel_rfl) (by simp) (fun i hi hcl => ?_)
  obtain rfl : i = 20 := by simpa using hi
  refine xe rfl (x_store1 rfl rfl rfl rfl rfl (Nat.le_of_ble_eq_true rfl) rfl rfl) ?_; rintro _ rfl
  refine xn (by kernel_rfl) ?_
  refine ev_seq ?_
  obtain ⟨x5, x5_h, H⟩ := bd_inv H
  refine ev_draw rfl (by kernel_rfl) ?_
  refine qq rfl rfl (q_move rfl) ?_
  refine qq rfl rfl (q_nil rfl) ?_
  refine qq rfl rfl (q_fld_p rfl) ?_
  refine qq rfl rfl (q_fld_p rfl) ?_
  refine qq rfl rfl (q_load1 rfl rfl rfl) ?_
  refine qq rfl rfl (q_loadN rfl rfl rfl rfl) ?_
  refine qq rfl rfl (q_move rfl) ?_
  refine qq rfl rfl (q_nil rfl) ?_
  refine qq rfl rfl (q_fld_p rfl) ?_
  refine qq rfl rfl (q_load1 rfl rfl rfl) ?_
  refine qq rfl rfl (q_move rfl) ?_
  refine qq rfl rfl (q_nil rfl) ?_
  refine qq rfl rfl (q_fld_p rfl) ?_
  refine qq rfl rfl (q_load1 rfl rfl rfl) ?_
  refine qq rfl rfl (q_call rfl (.v _ _ (fun e => nomatch e)) (.v rfl (.v rfl (.v rfl (.v rfl ArgsOk.nil)))) inferInstance (facts_At_c  x5_h)) ?_
  refine qq rfl rfl (q_extract rfl rfl) ?_
  refine qq rfl rfl (q_extract rfl rfl) ?_
  refine qq rfl rfl (q_assign rfl) ?_
  refine qq rfl rfl (q_assign rfl) ?_
  refine qn ?_
  refine ev_ret ?_
  have hr := Option.some.inj H
  exact retR [.v true (vi x5.1), .v true (vb x5.2)] [.e 7000 0 (some (b_a0, 14)) (.row 115 [.v false (V.l 8 (List.map GUnit.e ((⟨a0.w, a0.day, a0.known, a0.reads ++ ([(⟨a1, a0.day, wr (a0.day + 1)⟩ : GRead)] : List GRead)⟩ : GstockLooker).w.tables.source.units))), .v false (V.l 6 (List.map GItem.e ((⟨a0.w, a0.day, a0.known, a0.reads ++ ([(⟨a1, a0.day, wr (a0.day + 1)⟩ : GRead)] : List GRead)⟩ : GstockLooker).w.tables.source.items))), .v false (V.l 1 (List.map V.s ((⟨a0.w, a0.day, a0.known, a0.reads ++ ([(⟨a1, a0.day, wr (a0.day + 1)⟩ : GRead)] : List GRead)⟩ : GstockLooker).w.tables.source.plants))), .v false (V.l 4 (List.map GMachine.e ((⟨a0.w, a0.day, a0.known, a0.reads ++ ([(⟨a1, a0.day, wr (a0.day + 1)⟩ : GRead)] : List GRead)⟩ : GstockLooker).w.tables.source.machines))), .v false (V.l 2 (List.map GOption.e ((⟨a0.w, a0.day, a0.known, a0.reads ++ ([(⟨a1, a0.day, wr (a0.day + 1)⟩ : GRead)] : List GRead)⟩ : GstockLooker).w.tables.source.options))), .v false (V.l 1 (List.map (fun l => V.l 4 (List.map GCond.e l)) ((⟨a0.w, a0.day, a0.known, a0.reads ++ ([(⟨a1, a0.day, wr (a0.day + 1)⟩ : GRead)] : List GRead)⟩ : GstockLooker).w.tables.source.forbids))), .v false (V.l 17 (List.map GRecipe.e ((⟨a0.w, a0.day, a0.known, a0.reads ++ ([(⟨a1, a0.day, wr (a0.day + 1)⟩ : GRead)] : List GRead)⟩ : GstockLooker).w.tables.source.recipes))), .v false (V.l 4 (List.map GSwap.e ((⟨a0.w, a0.day, a0.known, a0.reads ++ ([(⟨a1, a0.day, wr (a0.day + 1)⟩ : GRead)] : List GRead)⟩ : GstockLooker).w.tables.source.swaps))), .v false (V.l 1 (List.map vi ((⟨a0.w, a0.day, a0.known, a0.reads ++ ([(⟨a1, a0.day, wr (a0.day + 1)⟩ : GRead)] : List GRead)⟩ : GstockLooker).w.tables.levels))), .v false (V.l 1 (List.map (fun l => V.l 6 (List.map GInst.e l)) ((⟨a0.w, a0.day, a0.known, a0.reads ++ ([(⟨a1, a0.day, wr (a0.day + 1)⟩ : GRead)] : List GRead)⟩ : GstockLooker).w.tables.codes))), .v false (V.l 8 (List.map GFact.e ((⟨a0.w, a0.day, a0.known, a0.reads ++ ([(⟨a1, a0.day, wr (a0.day + 1)⟩ : GRead)] : List GRead)⟩ : GstockLooker).w.facts))), .v true (vi ((⟨a0.w, a0.day, a0.known, a0.reads ++ ([(⟨a1, a0.day, wr (a0.day + 1)⟩ : GRead)] : List GRead)⟩ : GstockLooker).day)), .v true (vi ((⟨a0.w, a0.day, a0.known, a0.reads ++ ([(⟨a1, a0.day, wr (a0.day + 1)⟩ : GRead)] : List GRead)⟩ : GstockLooker).known)), .o 7004 0 q4 5 0 (((⟨a0.w, a0.day, a0.known, a0.reads ++ ([(⟨a1, a0.day, wr (a0.day + 1)⟩ : GRead)] : List GRead)⟩ : GstockLooker).reads).length)]), .e 7004 0 q4 (.row 100 (els true (List.map GRead.e ((⟨a0.w, a0.day, a0.known, a0.reads ++ ([(⟨a1, a0.day, wr (a0.day + 1)⟩ : GRead)] : List GRead)⟩ : GstockLooker).reads))))] rfl (.cons (.tmp rfl (.flat rfl)) (.cons (.tmp rfl (.flat rfl)) .nil)) ⟨q4, by cases hr; rfl, by cases hr; rfl⟩ ⟨(.w rfl (.cons .old (.cons .old (.cons .old (.cons .old (.cons .old (.cons .old (.cons .old (.cons .old (.cons .old (.cons .old (.cons .old (.cons (.flat rfl) (.cons (.flat rfl) (.cons .rfl .nil))))))))))))))), ⟨(.e rfl), trivial⟩⟩
def stock_looker_many_m (a0 : GstockLooker) : Option (Int × GstockLooker) := bd (stock_head_m) fun x1 => bd (stock_looker_at_m a0 x1) fun x2 => some (max 0 (min x2.1 1024), x2.2.2)
theorem stock_looker_many_c {a0 : GstockLooker} {b_a0 : Nat} {q0_a0 : Pl}  {r : Int × GstockLooker} (H : stock_looker_many_m a0 = some r) : FnR Try.prog 55 [.p 7000 0 b_a0 0] [.e 7000 0 (some (b_a0, 14)) (.row 115 [.v false (V.l 8 (List.map GUnit.e a0.w.tables.source.units)), .v false (V.l 6 (List.map GItem.e a0.w.tables.source.items)), .v false (V.l 1 (List.map V.s a0.w.tables.source.plants)), .v false (V.l 4 (List.map GMachine.e a0.w.tables.source.machines)), .v false (V.l 2 (List.map GOption.e a0.w.tables.source.options)), .v false (V.l 1 (List.map (fun l => V.l 4 (List.map GCond.e l)) a0.w.tables.source.forbids)), .v false (V.l 17 (List.map GRecipe.e a0.w.tables.source.recipes)), .v false (V.l 4 (List.map GSwap.e a0.w.tables.source.swaps)), .v false (V.l 1 (List.map vi a0.w.tables.levels)), .v false (V.l 1 (List.map (fun l => V.l 6 (List.map GInst.e l)) a0.w.tables.codes)), .v false (V.l 8 (List.map GFact.e a0.w.facts)), .v true (vi a0.day), .v true (vi a0.known), .o 7004 0 q0_a0 5 0 a0.reads.length]), .e 7004 0 q0_a0 (.row 100 (els true (List.map GRead.e a0.reads)))] (fun d es' => ∃ (q0_a0' : Pl), d = .v true (vi r.1) ∧ es' = [.e 7000 0 (some (b_a0, 14)) (.row 115 [.v false (V.l 8 (List.map GUnit.e r.2.w.tables.source.units)), .v false (V.l 6 (List.map GItem.e r.2.w.tables.source.items)), .v false (V.l 1 (List.map V.s r.2.w.tables.source.plants)), .v false (V.l 4 (List.map GMachine.e r.2.w.tables.source.machines)), .v false (V.l 2 (List.map GOption.e r.2.w.tables.source.options)), .v false (V.l 1 (List.map (fun l => V.l 4 (List.map GCond.e l)) r.2.w.tables.source.forbids)), .v false (V.l 17 (List.map GRecipe.e r.2.w.tables.source.recipes)), .v false (V.l 4 (List.map GSwap.e r.2.w.tables.source.swaps)), .v false (V.l 1 (List.map vi r.2.w.tables.levels)), .v false (V.l 1 (List.map (fun l => V.l 6 (List.map GInst.e l)) r.2.w.tables.codes)), .v false (V.l 8 (List.map GFact.e r.2.w.facts)), .v true (vi r.2.day), .v true (vi r.2.known), .o 7004 0 q0_a0' 5 0 r.2.reads.length]), .e 7004 0 q0_a0' (.row 100 (els true (List.map GRead.e r.2.reads)))]) := by
  unfold stock_looker_many_m at H
  refine fnr_intro (N := 14) Try.func55 rfl rfl rfl rfl fun C => ?_
  refine ev_shift (shift_mk (fs := [(0, .p 7000 0 b_a0 0)]) (es := [.e 7000 0 (some (b_a0, 14)) (.row 115 [.v false (V.l 8 (List.map GUnit.e a0.w.tables.source.units)), .v false (V.l 6 (List.map GItem.e a0.w.tables.source.items)), .v false (V.l 1 (List.map V.s a0.w.tables.source.plants)), .v false (V.l 4 (List.map GMachine.e a0.w.tables.source.machines)), .v false (V.l 2 (List.map GOption.e a0.w.tables.source.options)), .v false (V.l 1 (List.map (fun l => V.l 4 (List.map GCond.e l)) a0.w.tables.source.forbids)), .v false (V.l 17 (List.map GRecipe.e a0.w.tables.source.recipes)), .v false (V.l 4 (List.map GSwap.e a0.w.tables.source.swaps)), .v false (V.l 1 (List.map vi a0.w.tables.levels)), .v false (V.l 1 (List.map (fun l => V.l 6 (List.map GInst.e l)) a0.w.tables.codes)), .v false (V.l 8 (List.map GFact.e a0.w.facts)), .v true (vi a0.day), .v true (vi a0.known), .o 7004 0 q0_a0 5 0 a0.reads.length]), .e 7004 0 q0_a0 (.row 100 (els true (List.map GRead.e a0.reads)))]) ⟨⟨_, rfl, .rfl⟩, trivial⟩ ⟨(.e rfl), ⟨(.e rfl), trivial⟩⟩ rfl rfl) ?_
  refine ev_seq ?_
  refine ev_region ?_
  refine rq rfl rfl (q_assign rfl) ?_
  refine run_nil ?_
  refine ev_seq ?_
  refine ev_region ?_
  refine rq rfl rfl (q_move rfl) ?_
  obtain ⟨x1, x1_h, H⟩ := bd_inv H
  refine rq rfl rfl (q_call rfl (.v _ _ (fun e => nomatch e)) ArgsOk.nil inferInstance (stock_head_c  x1_h)) ?_
  obtain ⟨x2, x2_h, H⟩ := bd_inv H
  refine re rfl (e_callR [7000, 7004] rfl (.v _ _ []) rfl inferInstance (stock_looker_at_c  x2_h) ⟨(.w rfl (.cons .old (.cons .old (.cons .old (.cons .old (.cons .old (.cons .old (.cons .old (.cons .old (.cons .old (.cons .old (.cons .old (.cons (.flat rfl) (.cons (.flat rfl) (.cons .rfl .nil))))))))))))))), ⟨(.e rfl), trivial⟩⟩ rfl rfl) ?_; rintro _ ⟨_, _, ⟨q3, rfl, rfl⟩, rfl⟩
  refine rq rfl rfl (q_move rfl) ?_
  refine rq rfl rfl (q_extractD rfl rfl) ?_
  refine rq rfl rfl (q_extractD rfl rfl) ?_
  refine rq rfl rfl (q_assign rfl) ?_
  refine rq rfl rfl (q_assign rfl) ?_
  refine run_nil ?_
  refine ev_seq ?_
  refine ev_region ?_
  refine rq rfl rfl (q_move rfl) ?_
  refine rq rfl rfl (q_min rfl rfl) ?_
  refine rq rfl rfl (q_max rfl rfl) ?_
  refine rq rfl rfl (q_assign rfl) ?_
  refine run_nil ?_
  refine ev_ret ?_
  have hr := Option.some.inj H
  exact retR [.v true (vi (max 0 (min x2.1 1024)))] [.e 7000 0 (some (b_a0, 14)) (.row 115 [.v false (V.l 8 (List.map GUnit.e x2.2.2.w.tables.source.units)), .v false (V.l 6 (List.map GItem.e x2.2.2.w.tables.source.items)), .v false (V.l 1 (List.map V.s x2.2.2.w.tables.source.plants)), .v false (V.l 4 (List.map GMachine.e x2.2.2.w.tables.source.machines)), .v false (V.l 2 (List.map GOption.e x2.2.2.w.tables.source.options)), .v false (V.l 1 (List.map (fun l => V.l 4 (List.map GCond.e l)) x2.2.2.w.tables.source.forbids)), .v false (V.l 17 (List.map GRecipe.e x2.2.2.w.tables.source.recipes)), .v false (V.l 4 (List.map GSwap.e x2.2.2.w.tables.source.swaps)), .v false (V.l 1 (List.map vi x2.2.2.w.tables.levels)), .v false (V.l 1 (List.map (fun l => V.l 6 (List.map GInst.e l)) x2.2.2.w.tables.codes)), .v false (V.l 8 (List.map GFact.e x2.2.2.w.facts)), .v true (vi x2.2.2.day), .v true (vi x2.2.2.known), .o 7004 0 q3 5 0 x2.2.2.reads.length]), .e 7004 0 q3 (.row 100 (els true (List.map GRead.e x2.2.2.reads)))] rfl (.cons (.tmp rfl (.flat rfl)) .nil) ⟨q3, by cases hr; rfl, by cases hr; rfl⟩ ⟨(.w rfl (.cons .old (.cons .old (.cons .old (.cons .old (.cons .old (.cons .old (.cons .old (.cons .old (.cons .old (.cons .old (.cons .old (.cons (.flat rfl) (.cons (.flat rfl) (.cons .rfl .nil))))))))))))))), ⟨(.e rfl), trivial⟩⟩
def stock_looker_lot_m (a0 : GstockLooker) (a1 : Int) : Option (GLot × Bool × GstockLooker) := jn (fun (p93 : Int) (p94 : Int) (p95 : Int) (p96 : Int) (p97 : Int) (p98 : Bool) (p99 : List GUnit) (p100 : List GItem) (p101 : List ByteArray) (p102 : List GMachine) (p103 : List GOption) (p104 : List (List GCond)) (p105 : List GRecipe) (p106 : List GSwap) (p107 : List Int) (p108 : List (List GInst)) (p109 : List GFact) (p110 : Int) (p111 : Int) (p112 : List GRead) => bd (stock_right_m (⟨a1, p93, p94, p95, p96, p97⟩ : GLot)) fun x135 => bif !x135 then (some ((⟨0, 0, 0, 0, 0, 0⟩ : GLot), false, (⟨(⟨(⟨(⟨p99, p100, p101, p102, p103, p104, p105, p106⟩ : GSource), p107, p108⟩ : GTables), p109⟩ : GWorld), p110, p111, p112⟩ : GstockLooker))) else (some ((⟨a1, p93, p94, p95, p96, p97⟩ : GLot), true, (⟨(⟨(⟨(⟨p99, p100, p101, p102, p103, p104, p105, p106⟩ : GSource), p107, p108⟩ : GTables), p109⟩ : GWorld), p110, p111, p112⟩ : GstockLooker)))) fun j119 => jn (fun (p70 : Int) (p71 : Int) (p72 : Int) (p73 : Int) (p74 : Bool) (p75 : List GUnit) (p76 : List GItem) (p77 : List ByteArray) (p78 : List GMachine) (p79 : List GOption) (p80 : List (List GCond)) (p81 : List GRecipe) (p82 : List GSwap) (p83 : List Int) (p84 : List (List GInst)) (p85 : List GFact) (p86 : Int) (p87 : Int) (p88 : List GRead) => bd (stock_looker_at_m (⟨(⟨(⟨(⟨p75, p76, p77, p78, p79, p80, p81, p82⟩ : GSource), p83, p84⟩ : GTables), p85⟩ : GWorld), p86, p87, p88⟩ : GstockLooker) (⟨1, a1, 4⟩ : GKey)) fun x133 => bif !x133.2.1 then (some ((⟨0, 0, 0, 0, 0, 0⟩ : GLot), false, x133.2.2)) else (j119 p70 p71 p72 p73 x133.1 x133.2.1 x133.2.2.w.tables.source.units x133.2.2.w.tables.source.items x133.2.2.w.tables.source.plants x133.2.2.w.tables.source.machines x133.2.2.w.tables.source.options x133.2.2.w.tables.source.forbids x133.2.2.w.tables.source.recipes x133.2.2.w.tables.source.swaps x133.2.2.w.tables.levels x133.2.2.w.tables.codes x133.2.2.w.facts x133.2.2.day x133.2.2.known x133.2.2.reads)) fun j118 => jn (fun (p48 : Int) (p49 : Int) (p50 : Int) (p51 : Bool) (p52 : List GUnit) (p53 : List GItem) (p54 : List ByteArray) (p55 : List GMachine) (p56 : List GOption) (p57 : List (List GCond)) (p58 : List GRecipe) (p59 : List GSwap) (p60 : List Int) (p61 : List (List GInst)) (p62 : List GFact) (p63 : Int) (p64 : Int) (p65 : List GRead) => bd (stock_looker_at_m (⟨(⟨(⟨(⟨p52, p53, p54, p55, p56, p57, p58, p59⟩ : GSource), p60, p61⟩ : GTables), p62⟩ : GWorld), p63, p64, p65⟩ : GstockLooker) (⟨1, a1, 3⟩ : GKey)) fun x130 => bif !x130.2.1 then (some ((⟨0, 0, 0, 0, 0, 0⟩ : GLot), false, x130.2.2)) else (j118 p48 p49 p50 x130.1 x130.2.1 x130.2.2.w.tables.source.units x130.2.2.w.tables.source.items x130.2.2.w.tables.source.plants x130.2.2.w.tables.source.machines x130.2.2.w.tables.source.options x130.2.2.w.tables.source.forbids x130.2.2.w.tables.source.recipes x130.2.2.w.tables.source.swaps x130.2.2.w.tables.levels x130.2.2.w.tables.codes x130.2.2.w.facts x130.2.2.day x130.2.2.known x130.2.2.reads)) fun j117 => jn (fun (p27 : Int) (p28 : Int) (p29 : Bool) (p30 : List GUnit) (p31 : List GItem) (p32 : List ByteArray) (p33 : List GMachine) (p34 : List GOption) (p35 : List (List GCond)) (p36 : List GRecipe) (p37 : List GSwap) (p38 : List Int) (p39 : List (List GInst)) (p40 : List GFact) (p41 : Int) (p42 : Int) (p43 : List GRead) => bd (stock_looker_at_m (⟨(⟨(⟨(⟨p30, p31, p32, p33, p34, p35, p36, p37⟩ : GSource), p38, p39⟩ : GTables), p40⟩ : GWorld), p41, p42, p43⟩ : GstockLooker) (⟨1, a1, 2⟩ : GKey)) fun x127 => bif !x127.2.1 then (some ((⟨0, 0, 0, 0, 0, 0⟩ : GLot), false, x127.2.2)) else (j117 p27 p28 x127.1 x127.2.1 x127.2.2.w.tables.source.units x127.2.2.w.tables.source.items x127.2.2.w.tables.source.plants x127.2.2.w.tables.source.machines x127.2.2.w.tables.source.options x127.2.2.w.tables.source.forbids x127.2.2.w.tables.source.recipes x127.2.2.w.tables.source.swaps x127.2.2.w.tables.levels x127.2.2.w.tables.codes x127.2.2.w.facts x127.2.2.day x127.2.2.known x127.2.2.reads)) fun j116 => jn (fun (p7 : Int) (p8 : Bool) (p9 : List GUnit) (p10 : List GItem) (p11 : List ByteArray) (p12 : List GMachine) (p13 : List GOption) (p14 : List (List GCond)) (p15 : List GRecipe) (p16 : List GSwap) (p17 : List Int) (p18 : List (List GInst)) (p19 : List GFact) (p20 : Int) (p21 : Int) (p22 : List GRead) => bd (stock_looker_at_m (⟨(⟨(⟨(⟨p9, p10, p11, p12, p13, p14, p15, p16⟩ : GSource), p17, p18⟩ : GTables), p19⟩ : GWorld), p20, p21, p22⟩ : GstockLooker) (⟨1, a1, 1⟩ : GKey)) fun x124 => bif !x124.2.1 then (some ((⟨0, 0, 0, 0, 0, 0⟩ : GLot), false, x124.2.2)) else (j116 p7 x124.1 x124.2.1 x124.2.2.w.tables.source.units x124.2.2.w.tables.source.items x124.2.2.w.tables.source.plants x124.2.2.w.tables.source.machines x124.2.2.w.tables.source.options x124.2.2.w.tables.source.forbids x124.2.2.w.tables.source.recipes x124.2.2.w.tables.source.swaps x124.2.2.w.tables.levels x124.2.2.w.tables.codes x124.2.2.w.facts x124.2.2.day x124.2.2.known x124.2.2.reads)) fun j115 => jn (fun (_ : Unit) => bd (stock_looker_at_m a0 (⟨1, a1, 0⟩ : GKey)) fun x121 => bif !x121.2.1 then (some ((⟨0, 0, 0, 0, 0, 0⟩ : GLot), false, x121.2.2)) else (j115 x121.1 x121.2.1 x121.2.2.w.tables.source.units x121.2.2.w.tables.source.items x121.2.2.w.tables.source.plants x121.2.2.w.tables.source.machines x121.2.2.w.tables.source.options x121.2.2.w.tables.source.forbids x121.2.2.w.tables.source.recipes x121.2.2.w.tables.source.swaps x121.2.2.w.tables.levels x121.2.2.w.tables.codes x121.2.2.w.facts x121.2.2.day x121.2.2.known x121.2.2.reads)) fun j114 => j114 ()
set_option maxHeartbeats 4000000 in
theorem stock_looker_lot_c {a0 : GstockLooker} {b_a0 : Nat} {q0_a0 : Pl} {a1 : Int} {f_a1 : Bool} {r : GLot × Bool × GstockLooker} (H : stock_looker_lot_m a0 a1 = some r) : FnR Try.prog 56 [.p 7000 0 b_a0 0, .v f_a1 (vi a1)] [.e 7000 0 (some (b_a0, 14)) (.row 115 [.v false (V.l 8 (List.map GUnit.e a0.w.tables.source.units)), .v false (V.l 6 (List.map GItem.e a0.w.tables.source.items)), .v false (V.l 1 (List.map V.s a0.w.tables.source.plants)), .v false (V.l 4 (List.map GMachine.e a0.w.tables.source.machines)), .v false (V.l 2 (List.map GOption.e a0.w.tables.source.options)), .v false (V.l 1 (List.map (fun l => V.l 4 (List.map GCond.e l)) a0.w.tables.source.forbids)), .v false (V.l 17 (List.map GRecipe.e a0.w.tables.source.recipes)), .v false (V.l 4 (List.map GSwap.e a0.w.tables.source.swaps)), .v false (V.l 1 (List.map vi a0.w.tables.levels)), .v false (V.l 1 (List.map (fun l => V.l 6 (List.map GInst.e l)) a0.w.tables.codes)), .v false (V.l 8 (List.map GFact.e a0.w.facts)), .v true (vi a0.day), .v true (vi a0.known), .o 7004 0 q0_a0 5 0 a0.reads.length]), .e 7004 0 q0_a0 (.row 100 (els true (List.map GRead.e a0.reads)))] (fun d es' => ∃ (q0_a0' : Pl), d = .t [.v true (GLot.e r.1), .v true (vb r.2.1)] ∧ es' = [.e 7000 0 (some (b_a0, 14)) (.row 115 [.v false (V.l 8 (List.map GUnit.e r.2.2.w.tables.source.units)), .v false (V.l 6 (List.map GItem.e r.2.2.w.tables.source.items)), .v false (V.l 1 (List.map V.s r.2.2.w.tables.source.plants)), .v false (V.l 4 (List.map GMachine.e r.2.2.w.tables.source.machines)), .v false (V.l 2 (List.map GOption.e r.2.2.w.tables.source.options)), .v false (V.l 1 (List.map (fun l => V.l 4 (List.map GCond.e l)) r.2.2.w.tables.source.forbids)), .v false (V.l 17 (List.map GRecipe.e r.2.2.w.tables.source.recipes)), .v false (V.l 4 (List.map GSwap.e r.2.2.w.tables.source.swaps)), .v false (V.l 1 (List.map vi r.2.2.w.tables.levels)), .v false (V.l 1 (List.map (fun l => V.l 6 (List.map GInst.e l)) r.2.2.w.tables.codes)), .v false (V.l 8 (List.map GFact.e r.2.2.w.facts)), .v true (vi r.2.2.day), .v true (vi r.2.2.known), .o 7004 0 q0_a0' 5 0 r.2.2.reads.length]), .e 7004 0 q0_a0' (.row 100 (els true (List.map GRead.e r.2.2.reads)))]) := by
  unfold stock_looker_lot_m at H
  refine fnr_intro (N := 29) Try.func56 rfl rfl rfl rfl fun C => ?_
  refine ev_shift (shift_mk (fs := [(0, .p 7000 0 b_a0 0), (1, .v true (vi a1))]) (es := [.e 7000 0 (some (b_a0, 14)) (.row 115 [.v false (V.l 8 (List.map GUnit.e a0.w.tables.source.units)), .v false (V.l 6 (List.map GItem.e a0.w.tables.source.items)), .v false (V.l 1 (List.map V.s a0.w.tables.source.plants)), .v false (V.l 4 (List.map GMachine.e a0.w.tables.source.machines)), .v false (V.l 2 (List.map GOption.e a0.w.tables.source.options)), .v false (V.l 1 (List.map (fun l => V.l 4 (List.map GCond.e l)) a0.w.tables.source.forbids)), .v false (V.l 17 (List.map GRecipe.e a0.w.tables.source.recipes)), .v false (V.l 4 (List.map GSwap.e a0.w.tables.source.swaps)), .v false (V.l 1 (List.map vi a0.w.tables.levels)), .v false (V.l 1 (List.map (fun l => V.l 6 (List.map GInst.e l)) a0.w.tables.codes)), .v false (V.l 8 (List.map GFact.e a0.w.facts)), .v true (vi a0.day), .v true (vi a0.known), .o 7004 0 q0_a0 5 0 a0.reads.length]), .e 7004 0 q0_a0 (.row 100 (els true (List.map GRead.e a0.reads)))]) ⟨⟨_, rfl, .rfl⟩, ⟨⟨_, rfl, (.flat rfl)⟩, trivial⟩⟩ ⟨(.e rfl), ⟨(.e rfl), trivial⟩⟩ rfl rfl) ?_
  refine ev_seq ?_
  refine ev_region ?_
  refine re rfl (e_box 2 0 rfl rfl rfl) ?_; rintro _ ⟨b1, rfl⟩
  refine re rfl (e_alloc 4 0 rfl rfl) ?_; rintro _ ⟨b2, rfl⟩
  refine re rfl (e_alloc 5 0 rfl rfl) ?_; rintro _ ⟨b3, rfl⟩
  refine run_nil ?_
  refine ev_seq ?_
  refine ev_region ?_
  refine rq rfl rfl (q_move rfl) ?_
  refine rq rfl rfl (q_fld_p rfl) ?_
  refine re rfl (e_store1 rfl rfl rfl rfl rfl (Nat.le_of_ble_eq_true rfl) rfl) ?_; rintro _ rfl
  refine run_nil ?_
  refine ev_seq ?_
  refine ev_seq ?_
  refine ev_region ?_
  refine rq rfl rfl (q_call rfl (.v _ _ (fun e => nomatch e)) (.cons rfl (.rp _ _ _ _) .nil) inferInstance stock_keys_c) ?_
  refine run_nil ?_
  refine ev_block ?_
  obtain ⟨j119, j119_e, H⟩ := jn_inv H
  obtain ⟨j118, j118_e, H⟩ := jn_inv H
  obtain ⟨j117, j117_e, H⟩ := jn_inv H
  obtain ⟨j116, j116_e, H⟩ := jn_inv H
  obtain ⟨j115, j115_e, H⟩ := jn_inv H
  obtain ⟨j114, j114_e, H⟩ := jn_inv H
  refine ev_shift (σ' := mkS [(2, .p 2 0 b1 0), (4, .p 4 0 b2 0), (5, .p 5 0 b3 0), (10, .v true (.c 96 [.q [rawp b2 0]]))] [.e 2 0 (some (b1, 1)) (.row 113 [.p 7000 0 b_a0 0]), .e 4 0 (some (b2, 6)) (.row 60 [.v true (vi a1), .v true (vi 0), .v true (vi 0), .v true (vi 0), .v true (vi 0), .v true (vi 0)]), .e 5 0 (some (b3, 1)) (.row 4 [.v true (vb false)]), .e 7000 0 (some (b_a0, 14)) (.row 115 [.v false (V.l 8 (List.map GUnit.e a0.w.tables.source.units)), .v false (V.l 6 (List.map GItem.e a0.w.tables.source.items)), .v false (V.l 1 (List.map V.s a0.w.tables.source.plants)), .v false (V.l 4 (List.map GMachine.e a0.w.tables.source.machines)), .v false (V.l 2 (List.map GOption.e a0.w.tables.source.options)), .v false (V.l 1 (List.map (fun l => V.l 4 (List.map GCond.e l)) a0.w.tables.source.forbids)), .v false (V.l 17 (List.map GRecipe.e a0.w.tables.source.recipes)), .v false (V.l 4 (List.map GSwap.e a0.w.tables.source.swaps)), .v false (V.l 1 (List.map vi a0.w.tables.levels)), .v false (V.l 1 (List.map (fun l => V.l 6 (List.map GInst.e l)) a0.w.tables.codes)), .v false (V.l 8 (List.map GFact.e a0.w.facts)), .v true (vi a0.day), .v true (vi a0.known), .o 7004 0 q0_a0 5 0 a0.reads.length]), .e 7004 0 q0_a0 (.row 100 (els true (List.map GRead.e a0.reads)))] [] (0, false)) (shift_mk ⟨⟨_, rfl, .rfl⟩, ⟨⟨_, rfl, .rfl⟩, ⟨⟨_, rfl, .rfl⟩, ⟨⟨_, rfl, .rfl⟩, trivial⟩⟩⟩⟩ ⟨(.e rfl), ⟨(.w rfl (.cons (.flat rfl) (.cons (.flat rfl) (.cons (.flat rfl) (.cons (.flat rfl) (.cons (.flat rfl) (.cons (.flat rfl) .nil))))))), ⟨(.w rfl (.cons (.flat rfl) .nil)), ⟨(.w rfl (.cons .rfl (.cons .rfl (.cons .rfl (.cons .rfl (.cons .rfl (.cons .rfl (.cons .rfl (.cons .rfl (.cons .rfl (.cons .rfl (.cons .rfl (.cons (.flat rfl) (.cons (.flat rfl) (.cons .rfl .nil))))))))))))))), ⟨(.e rfl), trivial⟩⟩⟩⟩⟩ rfl rfl) ?_
  refine ev_rangeR (Rd := RdI b2 (0 + 0) .i64 a1) (els := stock_keys_els b2 0 a1) rfl inferInstance stock_keys_1_c 9004 9005 [2, 4, 5, 10] rfl (by decide) (fun n args h => stock_keys_len h) (fun D2 l2 L2 => ⟨fun n σ' => (n = 0 ∧ j114 () = some r ∧ σ' = mkS [(2, .p 2 0 b1 0), (4, .p 4 0 b2 0), (5, .p 5 0 b3 0), (10, .v true (.c 96 [.q [rawp b2 0]]))] [.e 2 0 (some (b1, 1)) (.row 113 [.p 7000 0 b_a0 0]), .e 4 0 (some (b2, 6)) (.row 60 [.v true (vi a1), .v true (vi 0), .v true (vi 0), .v true (vi 0), .v true (vi 0), .v true (vi 0)]), .e 5 0 (some (b3, 1)) (.row 4 [.v true (vb false)]), .e 7000 0 (some (b_a0, 14)) (.row 115 [.v false (V.l 8 (List.map GUnit.e a0.w.tables.source.units)), .v false (V.l 6 (List.map GItem.e a0.w.tables.source.items)), .v false (V.l 1 (List.map V.s a0.w.tables.source.plants)), .v false (V.l 4 (List.map GMachine.e a0.w.tables.source.machines)), .v false (V.l 2 (List.map GOption.e a0.w.tables.source.options)), .v false (V.l 1 (List.map (fun l => V.l 4 (List.map GCond.e l)) a0.w.tables.source.forbids)), .v false (V.l 17 (List.map GRecipe.e a0.w.tables.source.recipes)), .v false (V.l 4 (List.map GSwap.e a0.w.tables.source.swaps)), .v false (V.l 1 (List.map vi a0.w.tables.levels)), .v false (V.l 1 (List.map (fun l => V.l 6 (List.map GInst.e l)) a0.w.tables.codes)), .v false (V.l 8 (List.map GFact.e a0.w.facts)), .v true (vi a0.day), .v true (vi a0.known), .o 7004 0 q0_a0 5 0 a0.reads.length]), .e 7004 0 q0_a0 (.row 100 (els true (List.map GRead.e a0.reads))), .e 9005 0 (some (l2, 0)) (.obj (L2 .ready none)), .e 9004 0 (some (D2, 0)) (.obj (.deferred (some [])))] ({ target := .collected D2, args := #[] } :: []) (0, false)) ∨ (n = 1 ∧ ∃ (p7 : Int) (p8 : Bool) (p9 : List GUnit) (p10 : List GItem) (p11 : List ByteArray) (p12 : List GMachine) (p13 : List GOption) (p14 : List (List GCond)) (p15 : List GRecipe) (p16 : List GSwap) (p17 : List Int) (p18 : List (List GInst)) (p19 : List GFact) (p20 : Int) (p21 : Int) (p22 : List GRead) (q23 : Pl), j115 p7 p8 p9 p10 p11 p12 p13 p14 p15 p16 p17 p18 p19 p20 p21 p22 = some r ∧ σ' = mkS [(2, .p 2 0 b1 0), (4, .p 4 0 b2 0), (5, .p 5 0 b3 0), (10, .v true (.c 96 [.q [rawp b2 0]]))] [.e 2 0 (some (b1, 1)) (.row 113 [.p 7000 0 b_a0 0]), .e 4 0 (some (b2, 6)) (.row 60 [.v true (vi a1), .v true (vi p7), .v true (vi 0), .v true (vi 0), .v true (vi 0), .v true (vi 0)]), .e 5 0 (some (b3, 1)) (.row 4 [.v true (vb p8)]), .e 7000 0 (some (b_a0, 14)) (.row 115 [.v false (V.l 8 (List.map GUnit.e p9)), .v false (V.l 6 (List.map GItem.e p10)), .v false (V.l 1 (List.map V.s p11)), .v false (V.l 4 (List.map GMachine.e p12)), .v false (V.l 2 (List.map GOption.e p13)), .v false (V.l 1 (List.map (fun l => V.l 4 (List.map GCond.e l)) p14)), .v false (V.l 17 (List.map GRecipe.e p15)), .v false (V.l 4 (List.map GSwap.e p16)), .v false (V.l 1 (List.map vi p17)), .v false (V.l 1 (List.map (fun l => V.l 6 (List.map GInst.e l)) p18)), .v false (V.l 8 (List.map GFact.e p19)), .v true (vi p20), .v true (vi p21), .o 7004 0 q23 5 0 p22.length]), .e 7004 0 q23 (.row 100 (els true (List.map GRead.e p22))), .e 9005 0 (some (l2, 0)) (.obj (L2 .ready none)), .e 9004 0 (some (D2, 0)) (.obj (.deferred (some [])))] ({ target := .collected D2, args := #[] } :: []) (0, false)) ∨ (n = 2 ∧ ∃ (p27 : Int) (p28 : Int) (p29 : Bool) (p30 : List GUnit) (p31 : List GItem) (p32 : List ByteArray) (p33 : List GMachine) (p34 : List GOption) (p35 : List (List GCond)) (p36 : List GRecipe) (p37 : List GSwap) (p38 : List Int) (p39 : List (List GInst)) (p40 : List GFact) (p41 : Int) (p42 : Int) (p43 : List GRead) (q44 : Pl), j116 p27 p28 p29 p30 p31 p32 p33 p34 p35 p36 p37 p38 p39 p40 p41 p42 p43 = some r ∧ σ' = mkS [(2, .p 2 0 b1 0), (4, .p 4 0 b2 0), (5, .p 5 0 b3 0), (10, .v true (.c 96 [.q [rawp b2 0]]))] [.e 2 0 (some (b1, 1)) (.row 113 [.p 7000 0 b_a0 0]), .e 4 0 (some (b2, 6)) (.row 60 [.v true (vi a1), .v true (vi p27), .v true (vi p28), .v true (vi 0), .v true (vi 0), .v true (vi 0)]), .e 5 0 (some (b3, 1)) (.row 4 [.v true (vb p29)]), .e 7000 0 (some (b_a0, 14)) (.row 115 [.v false (V.l 8 (List.map GUnit.e p30)), .v false (V.l 6 (List.map GItem.e p31)), .v false (V.l 1 (List.map V.s p32)), .v false (V.l 4 (List.map GMachine.e p33)), .v false (V.l 2 (List.map GOption.e p34)), .v false (V.l 1 (List.map (fun l => V.l 4 (List.map GCond.e l)) p35)), .v false (V.l 17 (List.map GRecipe.e p36)), .v false (V.l 4 (List.map GSwap.e p37)), .v false (V.l 1 (List.map vi p38)), .v false (V.l 1 (List.map (fun l => V.l 6 (List.map GInst.e l)) p39)), .v false (V.l 8 (List.map GFact.e p40)), .v true (vi p41), .v true (vi p42), .o 7004 0 q44 5 0 p43.length]), .e 7004 0 q44 (.row 100 (els true (List.map GRead.e p43))), .e 9005 0 (some (l2, 0)) (.obj (L2 .ready none)), .e 9004 0 (some (D2, 0)) (.obj (.deferred (some [])))] ({ target := .collected D2, args := #[] } :: []) (0, false)) ∨ (n = 3 ∧ ∃ (p48 : Int) (p49 : Int) (p50 : Int) (p51 : Bool) (p52 : List GUnit) (p53 : List GItem) (p54 : List ByteArray) (p55 : List GMachine) (p56 : List GOption) (p57 : List (List GCond)) (p58 : List GRecipe) (p59 : List GSwap) (p60 : List Int) (p61 : List (List GInst)) (p62 : List GFact) (p63 : Int) (p64 : Int) (p65 : List GRead) (q66 : Pl), j117 p48 p49 p50 p51 p52 p53 p54 p55 p56 p57 p58 p59 p60 p61 p62 p63 p64 p65 = some r ∧ σ' = mkS [(2, .p 2 0 b1 0), (4, .p 4 0 b2 0), (5, .p 5 0 b3 0), (10, .v true (.c 96 [.q [rawp b2 0]]))] [.e 2 0 (some (b1, 1)) (.row 113 [.p 7000 0 b_a0 0]), .e 4 0 (some (b2, 6)) (.row 60 [.v true (vi a1), .v true (vi p48), .v true (vi p49), .v true (vi p50), .v true (vi 0), .v true (vi 0)]), .e 5 0 (some (b3, 1)) (.row 4 [.v true (vb p51)]), .e 7000 0 (some (b_a0, 14)) (.row 115 [.v false (V.l 8 (List.map GUnit.e p52)), .v false (V.l 6 (List.map GItem.e p53)), .v false (V.l 1 (List.map V.s p54)), .v false (V.l 4 (List.map GMachine.e p55)), .v false (V.l 2 (List.map GOption.e p56)), .v false (V.l 1 (List.map (fun l => V.l 4 (List.map GCond.e l)) p57)), .v false (V.l 17 (List.map GRecipe.e p58)), .v false (V.l 4 (List.map GSwap.e p59)), .v false (V.l 1 (List.map vi p60)), .v false (V.l 1 (List.map (fun l => V.l 6 (List.map GInst.e l)) p61)), .v false (V.l 8 (List.map GFact.e p62)), .v true (vi p63), .v true (vi p64), .o 7004 0 q66 5 0 p65.length]), .e 7004 0 q66 (.row 100 (els true (List.map GRead.e p65))), .e 9005 0 (some (l2, 0)) (.obj (L2 .ready none)), .e 9004 0 (some (D2, 0)) (.obj (.deferred (some [])))] ({ target := .collected D2, args := #[] } :: []) (0, false)) ∨ (n = 4 ∧ ∃ (p70 : Int) (p71 : Int) (p72 : Int) (p73 : Int) (p74 : Bool) (p75 : List GUnit) (p76 : List GItem) (p77 : List ByteArray) (p78 : List GMachine) (p79 : List GOption) (p80 : List (List GCond)) (p81 : List GRecipe) (p82 : List GSwap) (p83 : List Int) (p84 : List (List GInst)) (p85 : List GFact) (p86 : Int) (p87 : Int) (p88 : List GRead) (q89 : Pl), j118 p70 p71 p72 p73 p74 p75 p76 p77 p78 p79 p80 p81 p82 p83 p84 p85 p86 p87 p88 = some r ∧ σ' = mkS [(2, .p 2 0 b1 0), (4, .p 4 0 b2 0), (5, .p 5 0 b3 0), (10, .v true (.c 96 [.q [rawp b2 0]]))] [.e 2 0 (some (b1, 1)) (.row 113 [.p 7000 0 b_a0 0]), .e 4 0 (some (b2, 6)) (.row 60 [.v true (vi a1), .v true (vi p70), .v true (vi p71), .v true (vi p72), .v true (vi p73), .v true (vi 0)]), .e 5 0 (some (b3, 1)) (.row 4 [.v true (vb p74)]), .e 7000 0 (some (b_a0, 14)) (.row 115 [.v false (V.l 8 (List.map GUnit.e p75)), .v false (V.l 6 (List.map GItem.e p76)), .v false (V.l 1 (List.map V.s p77)), .v false (V.l 4 (List.map GMachine.e p78)), .v false (V.l 2 (List.map GOption.e p79)), .v false (V.l 1 (List.map (fun l => V.l 4 (List.map GCond.e l)) p80)), .v false (V.l 17 (List.map GRecipe.e p81)), .v false (V.l 4 (List.map GSwap.e p82)), .v false (V.l 1 (List.map vi p83)), .v false (V.l 1 (List.map (fun l => V.l 6 (List.map GInst.e l)) p84)), .v false (V.l 8 (List.map GFact.e p85)), .v true (vi p86), .v true (vi p87), .o 7004 0 q89 5 0 p88.length]), .e 7004 0 q89 (.row 100 (els true (List.map GRead.e p88))), .e 9005 0 (some (l2, 0)) (.obj (L2 .ready none)), .e 9004 0 (some (D2, 0)) (.obj (.deferred (some [])))] ({ target := .collected D2, args := #[] } :: []) (0, false)) ∨ (n = 5 ∧ ∃ (p93 : Int) (p94 : Int) (p95 : Int) (p96 : Int) (p97 : Int) (p98 : Bool) (p99 : List GUnit) (p100 : List GItem) (p101 : List ByteArray) (p102 : List GMachine) (p103 : List GOption) (p104 : List (List GCond)) (p105 : List GRecipe) (p106 : List GSwap) (p107 : List Int) (p108 : List (List GInst)) (p109 : List GFact) (p110 : Int) (p111 : Int) (p112 : List GRead) (q113 : Pl), j119 p93 p94 p95 p96 p97 p98 p99 p100 p101 p102 p103 p104 p105 p106 p107 p108 p109 p110 p111 p112 = some r ∧ σ' = mkS [(2, .p 2 0 b1 0), (4, .p 4 0 b2 0), (5, .p 5 0 b3 0), (10, .v true (.c 96 [.q [rawp b2 0]]))] [.e 2 0 (some (b1, 1)) (.row 113 [.p 7000 0 b_a0 0]), .e 4 0 (some (b2, 6)) (.row 60 [.v true (vi a1), .v true (vi p93), .v true (vi p94), .v true (vi p95), .v true (vi p96), .v true (vi p97)]), .e 5 0 (some (b3, 1)) (.row 4 [.v true (vb p98)]), .e 7000 0 (some (b_a0, 14)) (.row 115 [.v false (V.l 8 (List.map GUnit.e p99)), .v false (V.l 6 (List.map GItem.e p100)), .v false (V.l 1 (List.map V.s p101)), .v false (V.l 4 (List.map GMachine.e p102)), .v false (V.l 2 (List.map GOption.e p103)), .v false (V.l 1 (List.map (fun l => V.l 4 (List.map GCond.e l)) p104)), .v false (V.l 17 (List.map GRecipe.e p105)), .v false (V.l 4 (List.map GSwap.e p106)), .v false (V.l 1 (List.map vi p107)), .v false (V.l 1 (List.map (fun l => V.l 6 (List.map GInst.e l)) p108)), .v false (V.l 8 (List.map GFact.e p109)), .v true (vi p110), .v true (vi p111), .o 7004 0 q113 5 0 p112.length]), .e 7004 0 q113 (.row 100 (els true (List.map GRead.e p112))), .e 9005 0 (some (l2, 0)) (.obj (L2 .ready none)), .e 9004 0 (some (D2, 0)) (.obj (.deferred (some [])))] ({ target := .collected D2, args := #[] } :: []) (0, false)), ?_, ?_, ?_, ?_, ?_⟩)
  · exact ⟨_, (.inl ⟨rfl, H, rfl⟩), le_mk ⟨rfl, ⟨rfl, ⟨rfl, ⟨rfl, trivial⟩⟩⟩⟩ ⟨rfl, ⟨rfl, ⟨rfl, ⟨rfl, ⟨rfl, ⟨rfl, ⟨rfl, trivial⟩⟩⟩⟩⟩⟩⟩ rfl rfl⟩
  · rintro n _ (⟨hn, H, rfl⟩ | ⟨hn, p7, p8, p9, p10, p11, p12, p13, p14, p15, p16, p17, p18, p19, p20, p21, p22, q23, H, rfl⟩ | ⟨hn, p27, p28, p29, p30, p31, p32, p33, p34, p35, p36, p37, p38, p39, p40, p41, p42, p43, q44, H, rfl⟩ | ⟨hn, p48, p49, p50, p51, p52, p53, p54, p55, p56, p57, p58, p59, p60, p61, p62, p63, p64, p65, q66, H, rfl⟩ | ⟨hn, p70, p71, p72, p73, p74, p75, p76, p77, p78, p79, p80, p81, p82, p83, p84, p85, p86, p87, p88, q89, H, rfl⟩ | ⟨hn, p93, p94, p95, p96, p97, p98, p99, p100, p101, p102, p103, p104, p105, p106, p107, p108, p109, p110, p111, p112, q113, H, rfl⟩) C I a w hH
    · exact hH.rdI (k := 4) (i := 0) rfl rfl
    · exact hH.rdI (k := 4) (i := 0) rfl rfl
    · exact hH.rdI (k := 4) (i := 0) rfl rfl
    · exact hH.rdI (k := 4) (i := 0) rfl rfl
    · exact hH.rdI (k := 4) (i := 0) rfl rfl
    · exact hH.rdI (k := 4) (i := 0) rfl rfl
  · rintro n _ (⟨hn, H, rfl⟩ | ⟨hn, p7, p8, p9, p10, p11, p12, p13, p14, p15, p16, p17, p18, p19, p20, p21, p22, q23, H, rfl⟩ | ⟨hn, p27, p28, p29, p30, p31, p32, p33, p34, p35, p36, p37, p38, p39, p40, p41, p42, p43, q44, H, rfl⟩ | ⟨hn, p48, p49, p50, p51, p52, p53, p54, p55, p56, p57, p58, p59, p60, p61, p62, p63, p64, p65, q66, H, rfl⟩ | ⟨hn, p70, p71, p72, p73, p74, p75, p76, p77, p78, p79, p80, p81, p82, p83, p84, p85, p86, p87, p88, q89, H, rfl⟩ | ⟨hn, p93, p94, p95, p96, p97, p98, p99, p100, p101, p102, p103, p104, p105, p106, p107, p108, p109, p110, p111, p112, q113, H, rfl⟩)
    · exact ⟨rfl, rfl, rfl⟩
    · exact ⟨rfl, rfl, rfl⟩
    · exact ⟨rfl, rfl, rfl⟩
    · exact ⟨rfl, rfl, rfl⟩
    · exact ⟨rfl, rfl, rfl⟩
    · exact ⟨rfl, rfl, rfl⟩
  · rintro n args _ val is hN he (⟨rfl, H, rfl⟩ | ⟨rfl, p7, p8, p9, p10, p11, p12, p13, p14, p15, p16, p17, p18, p19, p20, p21, p22, q23, H, rfl⟩ | ⟨rfl, p27, p28, p29, p30, p31, p32, p33, p34, p35, p36, p37, p38, p39, p40, p41, p42, p43, q44, H, rfl⟩ | ⟨rfl, p48, p49, p50, p51, p52, p53, p54, p55, p56, p57, p58, p59, p60, p61, p62, p63, p64, p65, q66, H, rfl⟩ | ⟨rfl, p70, p71, p72, p73, p74, p75, p76, p77, p78, p79, p80, p81, p82, p83, p84, p85, p86, p87, p88, q89, H, rfl⟩ | ⟨rfl, p93, p94, p95, p96, p97, p98, p99, p100, p101, p102, p103, p104, p105, p106, p107, p108, p109, p110, p111, p112, q113, H, rfl⟩) hcl
    · obtain rfl := stock_keys_at0 he
      subst j114_e
      refine ev_shift (shift_wkd (s := 12) (d' := .p 4 0 b2 (0 + 1)) rfl .of_rawp) ?_
      refine ev_seq ?_
      refine ev_region ?_
      refine re rfl (e_alloc 6 0 rfl rfl) ?_; rintro _ ⟨b120, rfl⟩
      refine re rfl (e_store rfl rfl rfl rfl rfl (Nat.le_of_ble_eq_true rfl) rfl) ?_; rintro _ rfl
      refine run_nil ?_
      refine ev_region ?_
      refine rq rfl rfl (q_assign rfl) ?_
      refine run_nil ?_
      refine ⟨rfl, ?_⟩
      refine ev_block ?_
      refine ev_seq ?_
      refine ev_region ?_
      refine rq rfl rfl (q_move rfl) ?_
      refine rq rfl rfl (q_load1 rfl rfl rfl) ?_
      refine rq rfl rfl (q_loadN rfl rfl rfl rfl) ?_
      obtain ⟨x121, x121_h, H⟩ := bd_inv H
      refine re rfl (e_callR [7000, 7004] rfl (.v _ _ []) rfl inferInstance (stock_looker_at_c  x121_h) ⟨(.w rfl (.cons .old (.cons .old (.cons .old (.cons .old (.cons .old (.cons .old (.cons .old (.cons .old (.cons .old (.cons .old (.cons .old (.cons (.flat rfl) (.cons (.flat rfl) (.cons .rfl .nil))))))))))))))), ⟨(.e rfl), trivial⟩⟩ rfl rfl) ?_; rintro _ ⟨_, _, ⟨q122, rfl, rfl⟩, rfl⟩
      refine rq rfl rfl (q_move rfl) ?_
      refine rq rfl rfl (q_extractD rfl rfl) ?_
      refine rq rfl rfl (q_extractD rfl rfl) ?_
      refine rq rfl rfl (q_nil rfl) ?_
      refine re rfl (e_store1 rfl rfl rfl rfl rfl (Nat.le_of_ble_eq_true rfl) rfl) ?_; rintro _ rfl
      refine re rfl (e_store1 rfl rfl rfl rfl rfl (Nat.le_of_ble_eq_true rfl) rfl) ?_; rintro _ rfl
      refine run_nil ?_
      refine ev_seq ?_
      refine ev_region ?_
      refine rq rfl rfl (q_load1 rfl rfl rfl) ?_
      refine rq rfl rfl (q_not rfl) ?_
      refine run_nil ?_
      refine ev_cond rfl (fun hc => ?_) (fun hc => ?_)
      · replace H := ct hc H
        refine ev_seq ?_
        refine ev_region ?_
        refine rq rfl rfl (q_build rfl .nil) ?_
        refine re rfl (e_store rfl rfl rfl rfl rfl (Nat.le_of_ble_eq_true rfl) rfl) ?_; rintro _ rfl
        refine re rfl (e_store1 rfl rfl rfl rfl rfl (Nat.le_of_ble_eq_true rfl) rfl) ?_; rintro _ rfl
        refine run_nil ?_
        refine ev_ret ?_
        refine ⟨rfl, mkS [(2, .p 2 0 b1 0), (4, .p 4 0 b2 0), (5, .p 5 0 b3 0), (10, .v true (.c 96 [.q [rawp b2 0]]))] [.e 2 0 (some (b1, 1)) (.row 113 [.p 7000 0 b_a0 0]), .e 4 0 (some (b2, 6)) (.row 60 [.v true (vi ((⟨0, 0, 0, 0, 0, 0⟩ : GLot).no_)), .v true (vi ((⟨0, 0, 0, 0, 0, 0⟩ : GLot).item)), .v true (vi ((⟨0, 0, 0, 0, 0, 0⟩ : GLot).plant)), .v true (vi ((⟨0, 0, 0, 0, 0, 0⟩ : GLot).amount)), .v true (vi ((⟨0, 0, 0, 0, 0, 0⟩ : GLot).expiry)), .v true (vi ((⟨0, 0, 0, 0, 0, 0⟩ : GLot).state))]), .e 5 0 (some (b3, 1)) (.row 4 [.v true (vb false)]), .e 7000 0 (some (b_a0, 14)) (.row 115 [.v false (V.l 8 (List.map GUnit.e x121.2.2.w.tables.source.units)), .v false (V.l 6 (List.map GItem.e x121.2.2.w.tables.source.items)), .v false (V.l 1 (List.map V.s x121.2.2.w.tables.source.plants)), .v false (V.l 4 (List.map GMachine.e x121.2.2.w.tables.source.machines)), .v false (V.l 2 (List.map GOption.e x121.2.2.w.tables.source.options)), .v false (V.l 1 (List.map (fun l => V.l 4 (List.map GCond.e l)) x121.2.2.w.tables.source.forbids)), .v false (V.l 17 (List.map GRecipe.e x121.2.2.w.tables.source.recipes)), .v false (V.l 4 (List.map GSwap.e x121.2.2.w.tables.source.swaps)), .v false (V.l 1 (List.map vi x121.2.2.w.tables.levels)), .v false (V.l 1 (List.map (fun l => V.l 6 (List.map GInst.e l)) x121.2.2.w.tables.codes)), .v false (V.l 8 (List.map GFact.e x121.2.2.w.facts)), .v true (vi x121.2.2.day), .v true (vi x121.2.2.known), .o 7004 0 q122 5 0 x121.2.2.reads.length]), .e 7004 0 q122 (.row 100 (els true (List.map GRead.e x121.2.2.reads))), .e 9004 0 (some (D2, 0)) (.obj (.deferred (some [])))] ({ target := .collected D2, args := #[] } :: []) (0, false), rfl, cov_mk rfl ⟨rfl, ⟨rfl, ⟨rfl, ⟨rfl, trivial⟩⟩⟩⟩ ⟨rfl, ⟨rfl, ⟨rfl, ⟨rfl, ⟨rfl, ⟨rfl, trivial⟩⟩⟩⟩⟩⟩ rfl, ?_⟩
        have hr := Option.some.inj H
        exact retRm [.v true (GLot.e (⟨0, 0, 0, 0, 0, 0⟩ : GLot)), .v true (vb false)] [.e 7000 0 (some (b_a0, 14)) (.row 115 [.v false (V.l 8 (List.map GUnit.e x121.2.2.w.tables.source.units)), .v false (V.l 6 (List.map GItem.e x121.2.2.w.tables.source.items)), .v false (V.l 1 (List.map V.s x121.2.2.w.tables.source.plants)), .v false (V.l 4 (List.map GMachine.e x121.2.2.w.tables.source.machines)), .v false (V.l 2 (List.map GOption.e x121.2.2.w.tables.source.options)), .v false (V.l 1 (List.map (fun l => V.l 4 (List.map GCond.e l)) x121.2.2.w.tables.source.forbids)), .v false (V.l 17 (List.map GRecipe.e x121.2.2.w.tables.source.recipes)), .v false (V.l 4 (List.map GSwap.e x121.2.2.w.tables.source.swaps)), .v false (V.l 1 (List.map vi x121.2.2.w.tables.levels)), .v false (V.l 1 (List.map (fun l => V.l 6 (List.map GInst.e l)) x121.2.2.w.tables.codes)), .v false (V.l 8 (List.map GFact.e x121.2.2.w.facts)), .v true (vi x121.2.2.day), .v true (vi x121.2.2.known), .o 7004 0 q122 5 0 x121.2.2.reads.length]), .e 7004 0 q122 (.row 100 (els true (List.map GRead.e x121.2.2.reads)))] (.cons 9004 0 D2 0 rfl (.nil _)) (.cons (.cellN (z := 6) rfl rfl rfl rfl rfl rfl (.flat rfl)) (.cons (.cell1 rfl rfl rfl rfl (.flat rfl)) .nil)) ⟨q122, by cases hr; rfl, by cases hr; rfl⟩ ⟨(.w rfl (.cons .old (.cons .old (.cons .old (.cons .old (.cons .old (.cons .old (.cons .old (.cons .old (.cons .old (.cons .old (.cons .old (.cons (.flat rfl) (.cons (.flat rfl) (.cons .rfl .nil))))))))))))))), ⟨(.e rfl), trivial⟩⟩
      · replace H := cf hc H
        refine ev_skip ?_
        exact ⟨rfl, _, (.inr (.inl ⟨rfl, x121.1, x121.2.1, x121.2.2.w.tables.source.units, x121.2.2.w.tables.source.items, x121.2.2.w.tables.source.plants, x121.2.2.w.tables.source.machines, x121.2.2.w.tables.source.options, x121.2.2.w.tables.source.forbids, x121.2.2.w.tables.source.recipes, x121.2.2.w.tables.source.swaps, x121.2.2.w.tables.levels, x121.2.2.w.tables.codes, x121.2.2.w.facts, x121.2.2.day, x121.2.2.known, x121.2.2.reads, q122, H, rfl⟩)), cov_mk rfl ⟨rfl, ⟨rfl, ⟨rfl, ⟨rfl, trivial⟩⟩⟩⟩ ⟨rfl, ⟨rfl, ⟨rfl, ⟨rfl, ⟨rfl, ⟨rfl, ⟨rfl, trivial⟩⟩⟩⟩⟩⟩⟩ rfl⟩
    · obtain rfl := stock_keys_at1 he
      subst j115_e
      refine ev_shift (shift_wkd (s := 12) (d' := .p 4 0 b2 (0 + 2)) rfl .of_rawp) ?_
      refine ev_seq ?_
      refine ev_region ?_
      refine re rfl (e_alloc 6 0 rfl rfl) ?_; rintro _ ⟨b123, rfl⟩
      refine re rfl (e_store rfl rfl rfl rfl rfl (Nat.le_of_ble_eq_true rfl) rfl) ?_; rintro _ rfl
      refine run_nil ?_
      refine ev_region ?_
      refine rq rfl rfl (q_assign rfl) ?_
      refine run_nil ?_
      refine ⟨rfl, ?_⟩
      refine ev_block ?_
      refine ev_seq ?_
      refine ev_region ?_
      refine rq rfl rfl (q_move rfl) ?_
      refine rq rfl rfl (q_load1 rfl rfl rfl) ?_
      refine rq rfl rfl (q_loadN rfl rfl rfl rfl) ?_
      obtain ⟨x124, x124_h, H⟩ := bd_inv H
      refine re rfl (e_callR [7000, 7004] rfl (.v _ _ []) rfl inferInstance (stock_looker_at_c  x124_h) ⟨(.w rfl (.cons .old (.cons .old (.cons .old (.cons .old (.cons .old (.cons .old (.cons .old (.cons .old (.cons .old (.cons .old (.cons .old (.cons (.flat rfl) (.cons (.flat rfl) (.cons .rfl .nil))))))))))))))), ⟨(.e rfl), trivial⟩⟩ rfl rfl) ?_; rintro _ ⟨_, _, ⟨q125, rfl, rfl⟩, rfl⟩
      refine rq rfl rfl (q_move rfl) ?_
      refine rq rfl rfl (q_extractD rfl rfl) ?_
      refine rq rfl rfl (q_extractD rfl rfl) ?_
      refine rq rfl rfl (q_nil rfl) ?_
      refine re rfl (e_store1 rfl rfl rfl rfl rfl (Nat.le_of_ble_eq_true rfl) rfl) ?_; rintro _ rfl
      refine re rfl (e_store1 rfl rfl rfl rfl rfl (Nat.le_of_ble_eq_true rfl) rfl) ?_; rintro _ rfl
      refine run_nil ?_
      refine ev_seq ?_
      refine ev_region ?_
      refine rq rfl rfl (q_load1 rfl rfl rfl) ?_
      refine rq rfl rfl (q_not rfl) ?_
      refine run_nil ?_
      refine ev_cond rfl (fun hc => ?_) (fun hc => ?_)
      · replace H := ct hc H
        refine ev_seq ?_
        refine ev_region ?_
        refine rq rfl rfl (q_build rfl .nil) ?_
        refine re rfl (e_store rfl rfl rfl rfl rfl (Nat.le_of_ble_eq_true rfl) rfl) ?_; rintro _ rfl
        refine re rfl (e_store1 rfl rfl rfl rfl rfl (Nat.le_of_ble_eq_true rfl) rfl) ?_; rintro _ rfl
        refine run_nil ?_
        refine ev_ret ?_
        refine ⟨rfl, mkS [(2, .p 2 0 b1 0), (4, .p 4 0 b2 0), (5, .p 5 0 b3 0), (10, .v true (.c 96 [.q [rawp b2 0]]))] [.e 2 0 (some (b1, 1)) (.row 113 [.p 7000 0 b_a0 0]), .e 4 0 (some (b2, 6)) (.row 60 [.v true (vi ((⟨0, 0, 0, 0, 0, 0⟩ : GLot).no_)), .v true (vi ((⟨0, 0, 0, 0, 0, 0⟩ : GLot).item)), .v true (vi ((⟨0, 0, 0, 0, 0, 0⟩ : GLot).plant)), .v true (vi ((⟨0, 0, 0, 0, 0, 0⟩ : GLot).amount)), .v true (vi ((⟨0, 0, 0, 0, 0, 0⟩ : GLot).expiry)), .v true (vi ((⟨0, 0, 0, 0, 0, 0⟩ : GLot).state))]), .e 5 0 (some (b3, 1)) (.row 4 [.v true (vb false)]), .e 7000 0 (some (b_a0, 14)) (.row 115 [.v false (V.l 8 (List.map GUnit.e x124.2.2.w.tables.source.units)), .v false (V.l 6 (List.map GItem.e x124.2.2.w.tables.source.items)), .v false (V.l 1 (List.map V.s x124.2.2.w.tables.source.plants)), .v false (V.l 4 (List.map GMachine.e x124.2.2.w.tables.source.machines)), .v false (V.l 2 (List.map GOption.e x124.2.2.w.tables.source.options)), .v false (V.l 1 (List.map (fun l => V.l 4 (List.map GCond.e l)) x124.2.2.w.tables.source.forbids)), .v false (V.l 17 (List.map GRecipe.e x124.2.2.w.tables.source.recipes)), .v false (V.l 4 (List.map GSwap.e x124.2.2.w.tables.source.swaps)), .v false (V.l 1 (List.map vi x124.2.2.w.tables.levels)), .v false (V.l 1 (List.map (fun l => V.l 6 (List.map GInst.e l)) x124.2.2.w.tables.codes)), .v false (V.l 8 (List.map GFact.e x124.2.2.w.facts)), .v true (vi x124.2.2.day), .v true (vi x124.2.2.known), .o 7004 0 q125 5 0 x124.2.2.reads.length]), .e 7004 0 q125 (.row 100 (els true (List.map GRead.e x124.2.2.reads))), .e 9004 0 (some (D2, 0)) (.obj (.deferred (some [])))] ({ target := .collected D2, args := #[] } :: []) (0, false), rfl, cov_mk rfl ⟨rfl, ⟨rfl, ⟨rfl, ⟨rfl, trivial⟩⟩⟩⟩ ⟨rfl, ⟨rfl, ⟨rfl, ⟨rfl, ⟨rfl, ⟨rfl, trivial⟩⟩⟩⟩⟩⟩ rfl, ?_⟩
        have hr := Option.some.inj H
        exact retRm [.v true (GLot.e (⟨0, 0, 0, 0, 0, 0⟩ : GLot)), .v true (vb false)] [.e 7000 0 (some (b_a0, 14)) (.row 115 [.v false (V.l 8 (List.map GUnit.e x124.2.2.w.tables.source.units)), .v false (V.l 6 (List.map GItem.e x124.2.2.w.tables.source.items)), .v false (V.l 1 (List.map V.s x124.2.2.w.tables.source.plants)), .v false (V.l 4 (List.map GMachine.e x124.2.2.w.tables.source.machines)), .v false (V.l 2 (List.map GOption.e x124.2.2.w.tables.source.options)), .v false (V.l 1 (List.map (fun l => V.l 4 (List.map GCond.e l)) x124.2.2.w.tables.source.forbids)), .v false (V.l 17 (List.map GRecipe.e x124.2.2.w.tables.source.recipes)), .v false (V.l 4 (List.map GSwap.e x124.2.2.w.tables.source.swaps)), .v false (V.l 1 (List.map vi x124.2.2.w.tables.levels)), .v false (V.l 1 (List.map (fun l => V.l 6 (List.map GInst.e l)) x124.2.2.w.tables.codes)), .v false (V.l 8 (List.map GFact.e x124.2.2.w.facts)), .v true (vi x124.2.2.day), .v true (vi x124.2.2.known), .o 7004 0 q125 5 0 x124.2.2.reads.length]), .e 7004 0 q125 (.row 100 (els true (List.map GRead.e x124.2.2.reads)))] (.cons 9004 0 D2 0 rfl (.nil _)) (.cons (.cellN (z := 6) rfl rfl rfl rfl rfl rfl (.flat rfl)) (.cons (.cell1 rfl rfl rfl rfl (.flat rfl)) .nil)) ⟨q125, by cases hr; rfl, by cases hr; rfl⟩ ⟨(.w rfl (.cons .old (.cons .old (.cons .old (.cons .old (.cons .old (.cons .old (.cons .old (.cons .old (.cons .old (.cons .old (.cons .old (.cons (.flat rfl) (.cons (.flat rfl) (.cons .rfl .nil))))))))))))))), ⟨(.e rfl), trivial⟩⟩
      · replace H := cf hc H
        refine ev_skip ?_
        exact ⟨rfl, _, (.inr (.inr (.inl ⟨rfl, p7, x124.1, x124.2.1, x124.2.2.w.tables.source.units, x124.2.2.w.tables.source.items, x124.2.2.w.tables.source.plants, x124.2.2.w.tables.source.machines, x124.2.2.w.tables.source.options, x124.2.2.w.tables.source.forbids, x124.2.2.w.tables.source.recipes, x124.2.2.w.tables.source.swaps, x124.2.2.w.tables.levels, x124.2.2.w.tables.codes, x124.2.2.w.facts, x124.2.2.day, x124.2.2.known, x124.2.2.reads, q125, H, rfl⟩))), cov_mk rfl ⟨rfl, ⟨rfl, ⟨rfl, ⟨rfl, trivial⟩⟩⟩⟩ ⟨rfl, ⟨rfl, ⟨rfl, ⟨rfl, ⟨rfl, ⟨rfl, ⟨rfl, trivial⟩⟩⟩⟩⟩⟩⟩ rfl⟩
    · obtain rfl := stock_keys_at2 he
      subst j116_e
      refine ev_shift (shift_wkd (s := 12) (d' := .p 4 0 b2 (0 + 3)) rfl .of_rawp) ?_
      refine ev_seq ?_
      refine ev_region ?_
      refine re rfl (e_alloc 6 0 rfl rfl) ?_; rintro _ ⟨b126, rfl⟩
      refine re rfl (e_store rfl rfl rfl rfl rfl (Nat.le_of_ble_eq_true rfl) rfl) ?_; rintro _ rfl
      refine run_nil ?_
      refine ev_region ?_
      refine rq rfl rfl (q_assign rfl) ?_
      refine run_nil ?_
      refine ⟨rfl, ?_⟩
      refine ev_block ?_
      refine ev_seq ?_
      refine ev_region ?_
      refine rq rfl rfl (q_move rfl) ?_
      refine rq rfl rfl (q_load1 rfl rfl rfl) ?_
      refine rq rfl rfl (q_loadN rfl rfl rfl rfl) ?_
      obtain ⟨x127, x127_h, H⟩ := bd_inv H
      refine re rfl (e_callR [7000, 7004] rfl (.v _ _ []) rfl inferInstance (stock_looker_at_c  x127_h) ⟨(.w rfl (.cons .old (.cons .old (.cons .old (.cons .old (.cons .old (.cons .old (.cons .old (.cons .old (.cons .old (.cons .old (.cons .old (.cons (.flat rfl) (.cons (.flat rfl) (.cons .rfl .nil))))))))))))))), ⟨(.e rfl), trivial⟩⟩ rfl rfl) ?_; rintro _ ⟨_, _, ⟨q128, rfl, rfl⟩, rfl⟩
      refine rq rfl rfl (q_move rfl) ?_
      refine rq rfl rfl (q_extractD rfl rfl) ?_
      refine rq rfl rfl (q_extractD rfl rfl) ?_
      refine rq rfl rfl (q_nil rfl) ?_
      refine re rfl (e_store1 rfl rfl rfl rfl rfl (Nat.le_of_ble_eq_true rfl) rfl) ?_; rintro _ rfl
      refine re rfl (e_store1 rfl rfl rfl rfl rfl (Nat.le_of_ble_eq_true rfl) rfl) ?_; rintro _ rfl
      refine run_nil ?_
      refine ev_seq ?_
      refine ev_region ?_
      refine rq rfl rfl (q_load1 rfl rfl rfl) ?_
      refine rq rfl rfl (q_not rfl) ?_
      refine run_nil ?_
      refine ev_cond rfl (fun hc => ?_) (fun hc => ?_)
      · replace H := ct hc H
        refine ev_seq ?_
        refine ev_region ?_
        refine rq rfl rfl (q_build rfl .nil) ?_
        refine re rfl (e_store rfl rfl rfl rfl rfl (Nat.le_of_ble_eq_true rfl) rfl) ?_; rintro _ rfl
        refine re rfl (e_store1 rfl rfl rfl rfl rfl (Nat.le_of_ble_eq_true rfl) rfl) ?_; rintro _ rfl
        refine run_nil ?_
        refine ev_ret ?_
        refine ⟨rfl, mkS [(2, .p 2 0 b1 0), (4, .p 4 0 b2 0), (5, .p 5 0 b3 0), (10, .v true (.c 96 [.q [rawp b2 0]]))] [.e 2 0 (some (b1, 1)) (.row 113 [.p 7000 0 b_a0 0]), .e 4 0 (some (b2, 6)) (.row 60 [.v true (vi ((⟨0, 0, 0, 0, 0, 0⟩ : GLot).no_)), .v true (vi ((⟨0, 0, 0, 0, 0, 0⟩ : GLot).item)), .v true (vi ((⟨0, 0, 0, 0, 0, 0⟩ : GLot).plant)), .v true (vi ((⟨0, 0, 0, 0, 0, 0⟩ : GLot).amount)), .v true (vi ((⟨0, 0, 0, 0, 0, 0⟩ : GLot).expiry)), .v true (vi ((⟨0, 0, 0, 0, 0, 0⟩ : GLot).state))]), .e 5 0 (some (b3, 1)) (.row 4 [.v true (vb false)]), .e 7000 0 (some (b_a0, 14)) (.row 115 [.v false (V.l 8 (List.map GUnit.e x127.2.2.w.tables.source.units)), .v false (V.l 6 (List.map GItem.e x127.2.2.w.tables.source.items)), .v false (V.l 1 (List.map V.s x127.2.2.w.tables.source.plants)), .v false (V.l 4 (List.map GMachine.e x127.2.2.w.tables.source.machines)), .v false (V.l 2 (List.map GOption.e x127.2.2.w.tables.source.options)), .v false (V.l 1 (List.map (fun l => V.l 4 (List.map GCond.e l)) x127.2.2.w.tables.source.forbids)), .v false (V.l 17 (List.map GRecipe.e x127.2.2.w.tables.source.recipes)), .v false (V.l 4 (List.map GSwap.e x127.2.2.w.tables.source.swaps)), .v false (V.l 1 (List.map vi x127.2.2.w.tables.levels)), .v false (V.l 1 (List.map (fun l => V.l 6 (List.map GInst.e l)) x127.2.2.w.tables.codes)), .v false (V.l 8 (List.map GFact.e x127.2.2.w.facts)), .v true (vi x127.2.2.day), .v true (vi x127.2.2.known), .o 7004 0 q128 5 0 x127.2.2.reads.length]), .e 7004 0 q128 (.row 100 (els true (List.map GRead.e x127.2.2.reads))), .e 9004 0 (some (D2, 0)) (.obj (.deferred (some [])))] ({ target := .collected D2, args := #[] } :: []) (0, false), rfl, cov_mk rfl ⟨rfl, ⟨rfl, ⟨rfl, ⟨rfl, trivial⟩⟩⟩⟩ ⟨rfl, ⟨rfl, ⟨rfl, ⟨rfl, ⟨rfl, ⟨rfl, trivial⟩⟩⟩⟩⟩⟩ rfl, ?_⟩
        have hr := Option.some.inj H
        exact retRm [.v true (GLot.e (⟨0, 0, 0, 0, 0, 0⟩ : GLot)), .v true (vb false)] [.e 7000 0 (some (b_a0, 14)) (.row 115 [.v false (V.l 8 (List.map GUnit.e x127.2.2.w.tables.source.units)), .v false (V.l 6 (List.map GItem.e x127.2.2.w.tables.source.items)), .v false (V.l 1 (List.map V.s x127.2.2.w.tables.source.plants)), .v false (V.l 4 (List.map GMachine.e x127.2.2.w.tables.source.machines)), .v false (V.l 2 (List.map GOption.e x127.2.2.w.tables.source.options)), .v false (V.l 1 (List.map (fun l => V.l 4 (List.map GCond.e l)) x127.2.2.w.tables.source.forbids)), .v false (V.l 17 (List.map GRecipe.e x127.2.2.w.tables.source.recipes)), .v false (V.l 4 (List.map GSwap.e x127.2.2.w.tables.source.swaps)), .v false (V.l 1 (List.map vi x127.2.2.w.tables.levels)), .v false (V.l 1 (List.map (fun l => V.l 6 (List.map GInst.e l)) x127.2.2.w.tables.codes)), .v false (V.l 8 (List.map GFact.e x127.2.2.w.facts)), .v true (vi x127.2.2.day), .v true (vi x127.2.2.known), .o 7004 0 q128 5 0 x127.2.2.reads.length]), .e 7004 0 q128 (.row 100 (els true (List.map GRead.e x127.2.2.reads)))] (.cons 9004 0 D2 0 rfl (.nil _)) (.cons (.cellN (z := 6) rfl rfl rfl rfl rfl rfl (.flat rfl)) (.cons (.cell1 rfl rfl rfl rfl (.flat rfl)) .nil)) ⟨q128, by cases hr; rfl, by cases hr; rfl⟩ ⟨(.w rfl (.cons .old (.cons .old (.cons .old (.cons .old (.cons .old (.cons .old (.cons .old (.cons .old (.cons .old (.cons .old (.cons .old (.cons (.flat rfl) (.cons (.flat rfl) (.cons .rfl .nil))))))))))))))), ⟨(.e rfl), trivial⟩⟩
      · replace H := cf hc H
        refine ev_skip ?_
        exact ⟨rfl, _, (.inr (.inr (.inr (.inl ⟨rfl, p27, p28, x127.1, x127.2.1, x127.2.2.w.tables.source.units, x127.2.2.w.tables.source.items, x127.2.2.w.tables.source.plants, x127.2.2.w.tables.source.machines, x127.2.2.w.tables.source.options, x127.2.2.w.tables.source.forbids, x127.2.2.w.tables.source.recipes, x127.2.2.w.tables.source.swaps, x127.2.2.w.tables.levels, x127.2.2.w.tables.codes, x127.2.2.w.facts, x127.2.2.day, x127.2.2.known, x127.2.2.reads, q128, H, rfl⟩)))), cov_mk rfl ⟨rfl, ⟨rfl, ⟨rfl, ⟨rfl, trivial⟩⟩⟩⟩ ⟨rfl, ⟨rfl, ⟨rfl, ⟨rfl, ⟨rfl, ⟨rfl, ⟨rfl, trivial⟩⟩⟩⟩⟩⟩⟩ rfl⟩
    · obtain rfl := stock_keys_at3 he
      subst j117_e
      refine ev_shift (shift_wkd (s := 12) (d' := .p 4 0 b2 (0 + 4)) rfl .of_rawp) ?_
      refine ev_seq ?_
      refine ev_region ?_
      refine re rfl (e_alloc 6 0 rfl rfl) ?_; rintro _ ⟨b129, rfl⟩
      refine re rfl (e_store rfl rfl rfl rfl rfl (Nat.le_of_ble_eq_true rfl) rfl) ?_; rintro _ rfl
      refine run_nil ?_
      refine ev_region ?_
      refine rq rfl rfl (q_assign rfl) ?_
      refine run_nil ?_
      refine ⟨rfl, ?_⟩
      refine ev_block ?_
      refine ev_seq ?_
      refine ev_region ?_
      refine rq rfl rfl (q_move rfl) ?_
      refine rq rfl rfl (q_load1 rfl rfl rfl) ?_
      refine rq rfl rfl (q_loadN rfl rfl rfl rfl) ?_
      obtain ⟨x130, x130_h, H⟩ := bd_inv H
      refine re rfl (e_callR [7000, 7004] rfl (.v _ _ []) rfl inferInstance (stock_looker_at_c  x130_h) ⟨(.w rfl (.cons .old (.cons .old (.cons .old (.cons .old (.cons .old (.cons .old (.cons .old (.cons .old (.cons .old (.cons .old (.cons .old (.cons (.flat rfl) (.cons (.flat rfl) (.cons .rfl .nil))))))))))))))), ⟨(.e rfl), trivial⟩⟩ rfl rfl) ?_; rintro _ ⟨_, _, ⟨q131, rfl, rfl⟩, rfl⟩
      refine rq rfl rfl (q_move rfl) ?_
      refine rq rfl rfl (q_extractD rfl rfl) ?_
      refine rq rfl rfl (q_extractD rfl rfl) ?_
      refine rq rfl rfl (q_nil rfl) ?_
      refine re rfl (e_store1 rfl rfl rfl rfl rfl (Nat.le_of_ble_eq_true rfl) rfl) ?_; rintro _ rfl
      refine re rfl (e_store1 rfl rfl rfl rfl rfl (Nat.le_of_ble_eq_true rfl) rfl) ?_; rintro _ rfl
      refine run_nil ?_
      refine ev_seq ?_
      refine ev_region ?_
      refine rq rfl rfl (q_load1 rfl rfl rfl) ?_
      refine rq rfl rfl (q_not rfl) ?_
      refine run_nil ?_
      refine ev_cond rfl (fun hc => ?_) (fun hc => ?_)
      · replace H := ct hc H
        refine ev_seq ?_
        refine ev_region ?_
        refine rq rfl rfl (q_build rfl .nil) ?_
        refine re rfl (e_store rfl rfl rfl rfl rfl (Nat.le_of_ble_eq_true rfl) rfl) ?_; rintro _ rfl
        refine re rfl (e_store1 rfl rfl rfl rfl rfl (Nat.le_of_ble_eq_true rfl) rfl) ?_; rintro _ rfl
        refine run_nil ?_
        refine ev_ret ?_
        refine ⟨rfl, mkS [(2, .p 2 0 b1 0), (4, .p 4 0 b2 0), (5, .p 5 0 b3 0), (10, .v true (.c 96 [.q [rawp b2 0]]))] [.e 2 0 (some (b1, 1)) (.row 113 [.p 7000 0 b_a0 0]), .e 4 0 (some (b2, 6)) (.row 60 [.v true (vi ((⟨0, 0, 0, 0, 0, 0⟩ : GLot).no_)), .v true (vi ((⟨0, 0, 0, 0, 0, 0⟩ : GLot).item)), .v true (vi ((⟨0, 0, 0, 0, 0, 0⟩ : GLot).plant)), .v true (vi ((⟨0, 0, 0, 0, 0, 0⟩ : GLot).amount)), .v true (vi ((⟨0, 0, 0, 0, 0, 0⟩ : GLot).expiry)), .v true (vi ((⟨0, 0, 0, 0, 0, 0⟩ : GLot).state))]), .e 5 0 (some (b3, 1)) (.row 4 [.v true (vb false)]), .e 7000 0 (some (b_a0, 14)) (.row 115 [.v false (V.l 8 (List.map GUnit.e x130.2.2.w.tables.source.units)), .v false (V.l 6 (List.map GItem.e x130.2.2.w.tables.source.items)), .v false (V.l 1 (List.map V.s x130.2.2.w.tables.source.plants)), .v false (V.l 4 (List.map GMachine.e x130.2.2.w.tables.source.machines)), .v false (V.l 2 (List.map GOption.e x130.2.2.w.tables.source.options)), .v false (V.l 1 (List.map (fun l => V.l 4 (List.map GCond.e l)) x130.2.2.w.tables.source.forbids)), .v false (V.l 17 (List.map GRecipe.e x130.2.2.w.tables.source.recipes)), .v false (V.l 4 (List.map GSwap.e x130.2.2.w.tables.source.swaps)), .v false (V.l 1 (List.map vi x130.2.2.w.tables.levels)), .v false (V.l 1 (List.map (fun l => V.l 6 (List.map GInst.e l)) x130.2.2.w.tables.codes)), .v false (V.l 8 (List.map GFact.e x130.2.2.w.facts)), .v true (vi x130.2.2.day), .v true (vi x130.2.2.known), .o 7004 0 q131 5 0 x130.2.2.reads.length]), .e 7004 0 q131 (.row 100 (els true (List.map GRead.e x130.2.2.reads))), .e 9004 0 (some (D2, 0)) (.obj (.deferred (some [])))] ({ target := .collected D2, args := #[] } :: []) (0, false), rfl, cov_mk rfl ⟨rfl, ⟨rfl, ⟨rfl, ⟨rfl, trivial⟩⟩⟩⟩ ⟨rfl, ⟨rfl, ⟨rfl, ⟨rfl, ⟨rfl, ⟨rfl, trivial⟩⟩⟩⟩⟩⟩ rfl, ?_⟩
        have hr := Option.some.inj H
        exact retRm [.v true (GLot.e (⟨0, 0, 0, 0, 0, 0⟩ : GLot)), .v true (vb false)] [.e 7000 0 (some (b_a0, 14)) (.row 115 [.v false (V.l 8 (List.map GUnit.e x130.2.2.w.tables.source.units)), .v false (V.l 6 (List.map GItem.e x130.2.2.w.tables.source.items)), .v false (V.l 1 (List.map V.s x130.2.2.w.tables.source.plants)), .v false (V.l 4 (List.map GMachine.e x130.2.2.w.tables.source.machines)), .v false (V.l 2 (List.map GOption.e x130.2.2.w.tables.source.options)), .v false (V.l 1 (List.map (fun l => V.l 4 (List.map GCond.e l)) x130.2.2.w.tables.source.forbids)), .v false (V.l 17 (List.map GRecipe.e x130.2.2.w.tables.source.recipes)), .v false (V.l 4 (List.map GSwap.e x130.2.2.w.tables.source.swaps)), .v false (V.l 1 (List.map vi x130.2.2.w.tables.levels)), .v false (V.l 1 (List.map (fun l => V.l 6 (List.map GInst.e l)) x130.2.2.w.tables.codes)), .v false (V.l 8 (List.map GFact.e x130.2.2.w.facts)), .v true (vi x130.2.2.day), .v true (vi x130.2.2.known), .o 7004 0 q131 5 0 x130.2.2.reads.length]), .e 7004 0 q131 (.row 100 (els true (List.map GRead.e x130.2.2.reads)))] (.cons 9004 0 D2 0 rfl (.nil _)) (.cons (.cellN (z := 6) rfl rfl rfl rfl rfl rfl (.flat rfl)) (.cons (.cell1 rfl rfl rfl rfl (.flat rfl)) .nil)) ⟨q131, by cases hr; rfl, by cases hr; rfl⟩ ⟨(.w rfl (.cons .old (.cons .old (.cons .old (.cons .old (.cons .old (.cons .old (.cons .old (.cons .old (.cons .old (.cons .old (.cons .old (.cons (.flat rfl) (.cons (.flat rfl) (.cons .rfl .nil))))))))))))))), ⟨(.e rfl), trivial⟩⟩
      · replace H := cf hc H
        refine ev_skip ?_
        exact ⟨rfl, _, (.inr (.inr (.inr (.inr (.inl ⟨rfl, p48, p49, p50, x130.1, x130.2.1, x130.2.2.w.tables.source.units, x130.2.2.w.tables.source.items, x130.2.2.w.tables.source.plants, x130.2.2.w.tables.source.machines, x130.2.2.w.tables.source.options, x130.2.2.w.tables.source.forbids, x130.2.2.w.tables.source.recipes, x130.2.2.w.tables.source.swaps, x130.2.2.w.tables.levels, x130.2.2.w.tables.codes, x130.2.2.w.facts, x130.2.2.day, x130.2.2.known, x130.2.2.reads, q131, H, rfl⟩))))), cov_mk rfl ⟨rfl, ⟨rfl, ⟨rfl, ⟨rfl, trivial⟩⟩⟩⟩ ⟨rfl, ⟨rfl, ⟨rfl, ⟨rfl, ⟨rfl, ⟨rfl, ⟨rfl, trivial⟩⟩⟩⟩⟩⟩⟩ rfl⟩
    · obtain rfl := stock_keys_at4 he
      subst j118_e
      refine ev_shift (shift_wkd (s := 12) (d' := .p 4 0 b2 (0 + 5)) rfl .of_rawp) ?_
      refine ev_seq ?_
      refine ev_region ?_
      refine re rfl (e_alloc 6 0 rfl rfl) ?_; rintro _ ⟨b132, rfl⟩
      refine re rfl (e_store rfl rfl rfl rfl rfl (Nat.le_of_ble_eq_true rfl) rfl) ?_; rintro _ rfl
      refine run_nil ?_
      refine ev_region ?_
      refine rq rfl rfl (q_assign rfl) ?_
      refine run_nil ?_
      refine ⟨rfl, ?_⟩
      refine ev_block ?_
      refine ev_seq ?_
      refine ev_region ?_
      refine rq rfl rfl (q_move rfl) ?_
      refine rq rfl rfl (q_load1 rfl rfl rfl) ?_
      refine rq rfl rfl (q_loadN rfl rfl rfl rfl) ?_
      obtain ⟨x133, x133_h, H⟩ := bd_inv H
      refine re rfl (e_callR [7000, 7004] rfl (.v _ _ []) rfl inferInstance (stock_looker_at_c  x133_h) ⟨(.w rfl (.cons .old (.cons .old (.cons .old (.cons .old (.cons .old (.cons .old (.cons .old (.cons .old (.cons .old (.cons .old (.cons .old (.cons (.flat rfl) (.cons (.flat rfl) (.cons .rfl .nil))))))))))))))), ⟨(.e rfl), trivial⟩⟩ rfl rfl) ?_; rintro _ ⟨_, _, ⟨q134, rfl, rfl⟩, rfl⟩
      refine rq rfl rfl (q_move rfl) ?_
      refine rq rfl rfl (q_extractD rfl rfl) ?_
      refine rq rfl rfl (q_extractD rfl rfl) ?_
      refine rq rfl rfl (q_nil rfl) ?_
      refine re rfl (e_store1 rfl rfl rfl rfl rfl (Nat.le_of_ble_eq_true rfl) rfl) ?_; rintro _ rfl
      refine re rfl (e_store1 rfl rfl rfl rfl rfl (Nat.le_of_ble_eq_true rfl) rfl) ?_; rintro _ rfl
      refine run_nil ?_
      refine ev_seq ?_
      refine ev_region ?_
      refine rq rfl rfl (q_load1 rfl rfl rfl) ?_
      refine rq rfl rfl (q_not rfl) ?_
      refine run_nil ?_
      refine ev_cond rfl (fun hc => ?_) (fun hc => ?_)
      · replace H := ct hc H
        refine ev_seq ?_
        refine ev_region ?_
        refine rq rfl rfl (q_build rfl .nil) ?_
        refine re rfl (e_store rfl rfl rfl rfl rfl (Nat.le_of_ble_eq_true rfl) rfl) ?_; rintro _ rfl
        refine re rfl (e_store1 rfl rfl rfl rfl rfl (Nat.le_of_ble_eq_true rfl) rfl) ?_; rintro _ rfl
        refine run_nil ?_
        refine ev_ret ?_
        refine ⟨rfl, mkS [(2, .p 2 0 b1 0), (4, .p 4 0 b2 0), (5, .p 5 0 b3 0), (10, .v true (.c 96 [.q [rawp b2 0]]))] [.e 2 0 (some (b1, 1)) (.row 113 [.p 7000 0 b_a0 0]), .e 4 0 (some (b2, 6)) (.row 60 [.v true (vi ((⟨0, 0, 0, 0, 0, 0⟩ : GLot).no_)), .v true (vi ((⟨0, 0, 0, 0, 0, 0⟩ : GLot).item)), .v true (vi ((⟨0, 0, 0, 0, 0, 0⟩ : GLot).plant)), .v true (vi ((⟨0, 0, 0, 0, 0, 0⟩ : GLot).amount)), .v true (vi ((⟨0, 0, 0, 0, 0, 0⟩ : GLot).expiry)), .v true (vi ((⟨0, 0, 0, 0, 0, 0⟩ : GLot).state))]), .e 5 0 (some (b3, 1)) (.row 4 [.v true (vb false)]), .e 7000 0 (some (b_a0, 14)) (.row 115 [.v false (V.l 8 (List.map GUnit.e x133.2.2.w.tables.source.units)), .v false (V.l 6 (List.map GItem.e x133.2.2.w.tables.source.items)), .v false (V.l 1 (List.map V.s x133.2.2.w.tables.source.plants)), .v false (V.l 4 (List.map GMachine.e x133.2.2.w.tables.source.machines)), .v false (V.l 2 (List.map GOption.e x133.2.2.w.tables.source.options)), .v false (V.l 1 (List.map (fun l => V.l 4 (List.map GCond.e l)) x133.2.2.w.tables.source.forbids)), .v false (V.l 17 (List.map GRecipe.e x133.2.2.w.tables.source.recipes)), .v false (V.l 4 (List.map GSwap.e x133.2.2.w.tables.source.swaps)), .v false (V.l 1 (List.map vi x133.2.2.w.tables.levels)), .v false (V.l 1 (List.map (fun l => V.l 6 (List.map GInst.e l)) x133.2.2.w.tables.codes)), .v false (V.l 8 (List.map GFact.e x133.2.2.w.facts)), .v true (vi x133.2.2.day), .v true (vi x133.2.2.known), .o 7004 0 q134 5 0 x133.2.2.reads.length]), .e 7004 0 q134 (.row 100 (els true (List.map GRead.e x133.2.2.reads))), .e 9004 0 (some (D2, 0)) (.obj (.deferred (some [])))] ({ target := .collected D2, args := #[] } :: []) (0, false), rfl, cov_mk rfl ⟨rfl, ⟨rfl, ⟨rfl, ⟨rfl, trivial⟩⟩⟩⟩ ⟨rfl, ⟨rfl, ⟨rfl, ⟨rfl, ⟨rfl, ⟨rfl, trivial⟩⟩⟩⟩⟩⟩ rfl, ?_⟩
        have hr := Option.some.inj H
        exact retRm [.v true (GLot.e (⟨0, 0, 0, 0, 0, 0⟩ : GLot)), .v true (vb false)] [.e 7000 0 (some (b_a0, 14)) (.row 115 [.v false (V.l 8 (List.map GUnit.e x133.2.2.w.tables.source.units)), .v false (V.l 6 (List.map GItem.e x133.2.2.w.tables.source.items)), .v false (V.l 1 (List.map V.s x133.2.2.w.tables.source.plants)), .v false (V.l 4 (List.map GMachine.e x133.2.2.w.tables.source.machines)), .v false (V.l 2 (List.map GOption.e x133.2.2.w.tables.source.options)), .v false (V.l 1 (List.map (fun l => V.l 4 (List.map GCond.e l)) x133.2.2.w.tables.source.forbids)), .v false (V.l 17 (List.map GRecipe.e x133.2.2.w.tables.source.recipes)), .v false (V.l 4 (List.map GSwap.e x133.2.2.w.tables.source.swaps)), .v false (V.l 1 (List.map vi x133.2.2.w.tables.levels)), .v false (V.l 1 (List.map (fun l => V.l 6 (List.map GInst.e l)) x133.2.2.w.tables.codes)), .v false (V.l 8 (List.map GFact.e x133.2.2.w.facts)), .v true (vi x133.2.2.day), .v true (vi x133.2.2.known), .o 7004 0 q134 5 0 x133.2.2.reads.length]), .e 7004 0 q134 (.row 100 (els true (List.map GRead.e x133.2.2.reads)))] (.cons 9004 0 D2 0 rfl (.nil _)) (.cons (.cellN (z := 6) rfl rfl rfl rfl rfl rfl (.flat rfl)) (.cons (.cell1 rfl rfl rfl rfl (.flat rfl)) .nil)) ⟨q134, by cases hr; rfl, by cases hr; rfl⟩ ⟨(.w rfl (.cons .old (.cons .old (.cons .old (.cons .old (.cons .old (.cons .old (.cons .old (.cons .old (.cons .old (.cons .old (.cons .old (.cons (.flat rfl) (.cons (.flat rfl) (.cons .rfl .nil))))))))))))))), ⟨(.e rfl), trivial⟩⟩
      · replace H := cf hc H
        refine ev_skip ?_
        exact ⟨rfl, _, (.inr (.inr (.inr (.inr (.inr ⟨rfl, p70, p71, p72, p73, x133.1, x133.2.1, x133.2.2.w.tables.source.units, x133.2.2.w.tables.source.items, x133.2.2.w.tables.source.plants, x133.2.2.w.tables.source.machines, x133.2.2.w.tables.source.options, x133.2.2.w.tables.source.forbids, x133.2.2.w.tables.source.recipes, x133.2.2.w.tables.source.swaps, x133.2.2.w.tables.levels, x133.2.2.w.tables.codes, x133.2.2.w.facts, x133.2.2.day, x133.2.2.known, x133.2.2.reads, q134, H, rfl⟩))))), cov_mk rfl ⟨rfl, ⟨rfl, ⟨rfl, ⟨rfl, trivial⟩⟩⟩⟩ ⟨rfl, ⟨rfl, ⟨rfl, ⟨rfl, ⟨rfl, ⟨rfl, ⟨rfl, trivial⟩⟩⟩⟩⟩⟩⟩ rfl⟩
    · exact (stock_keys_at5 he).elim
  · rintro _ (⟨hn, H, rfl⟩ | ⟨hn, p7, p8, p9, p10, p11, p12, p13, p14, p15, p16, p17, p18, p19, p20, p21, p22, q23, H, rfl⟩ | ⟨hn, p27, p28, p29, p30, p31, p32, p33, p34, p35, p36, p37, p38, p39, p40, p41, p42, p43, q44, H, rfl⟩ | ⟨hn, p48, p49, p50, p51, p52, p53, p54, p55, p56, p57, p58, p59, p60, p61, p62, p63, p64, p65, q66, H, rfl⟩ | ⟨hn, p70, p71, p72, p73, p74, p75, p76, p77, p78, p79, p80, p81, p82, p83, p84, p85, p86, p87, p88, q89, H, rfl⟩ | ⟨hn, p93, p94, p95, p96, p97, p98, p99, p100, p101, p102, p103, p104, p105, p106, p107, p108, p109, p110, p111, p112, q113, H, rfl⟩)
    · exact absurd hn (by rw [stock_keys_length]; decide)
    · exact absurd hn (by rw [stock_keys_length]; decide)
    · exact absurd hn (by rw [stock_keys_length]; decide)
    · exact absurd hn (by rw [stock_keys_length]; decide)
    · exact absurd hn (by rw [stock_keys_length]; decide)
    · subst j119_e
      refine ev_seq ?_
      refine ev_seq ?_
      refine ev_region ?_
      refine rq rfl rfl (q_loadN rfl rfl rfl rfl) ?_
      obtain ⟨x135, x135_h, H⟩ := bd_inv H
      refine rq rfl rfl (q_call rfl (.v _ _ (fun e => nomatch e)) (.v rfl ArgsOk.nil) inferInstance (stock_right_c  x135_h)) ?_
      refine rq rfl rfl (q_not rfl) ?_
      refine run_nil ?_
      refine ev_cond rfl (fun hc => ?_) (fun hc => ?_)
      · replace H := ct hc H
        refine ev_seq ?_
        refine ev_region ?_
        refine rq rfl rfl (q_build rfl .nil) ?_
        refine re rfl (e_store rfl rfl rfl rfl rfl (Nat.le_of_ble_eq_true rfl) rfl) ?_; rintro _ rfl
        refine re rfl (e_store1 rfl rfl rfl rfl rfl (Nat.le_of_ble_eq_true rfl) rfl) ?_; rintro _ rfl
        refine run_nil ?_
        refine ev_ret ?_
        have hr := Option.some.inj H
        exact retRm [.v true (GLot.e (⟨0, 0, 0, 0, 0, 0⟩ : GLot)), .v true (vb false)] [.e 7000 0 (some (b_a0, 14)) (.row 115 [.v false (V.l 8 (List.map GUnit.e ((⟨(⟨(⟨(⟨p99, p100, p101, p102, p103, p104, p105, p106⟩ : GSource), p107, p108⟩ : GTables), p109⟩ : GWorld), p110, p111, p112⟩ : GstockLooker).w.tables.source.units))), .v false (V.l 6 (List.map GItem.e ((⟨(⟨(⟨(⟨p99, p100, p101, p102, p103, p104, p105, p106⟩ : GSource), p107, p108⟩ : GTables), p109⟩ : GWorld), p110, p111, p112⟩ : GstockLooker).w.tables.source.items))), .v false (V.l 1 (List.map V.s ((⟨(⟨(⟨(⟨p99, p100, p101, p102, p103, p104, p105, p106⟩ : GSource), p107, p108⟩ : GTables), p109⟩ : GWorld), p110, p111, p112⟩ : GstockLooker).w.tables.source.plants))), .v false (V.l 4 (List.map GMachine.e ((⟨(⟨(⟨(⟨p99, p100, p101, p102, p103, p104, p105, p106⟩ : GSource), p107, p108⟩ : GTables), p109⟩ : GWorld), p110, p111, p112⟩ : GstockLooker).w.tables.source.machines))), .v false (V.l 2 (List.map GOption.e ((⟨(⟨(⟨(⟨p99, p100, p101, p102, p103, p104, p105, p106⟩ : GSource), p107, p108⟩ : GTables), p109⟩ : GWorld), p110, p111, p112⟩ : GstockLooker).w.tables.source.options))), .v false (V.l 1 (List.map (fun l => V.l 4 (List.map GCond.e l)) ((⟨(⟨(⟨(⟨p99, p100, p101, p102, p103, p104, p105, p106⟩ : GSource), p107, p108⟩ : GTables), p109⟩ : GWorld), p110, p111, p112⟩ : GstockLooker).w.tables.source.forbids))), .v false (V.l 17 (List.map GRecipe.e ((⟨(⟨(⟨(⟨p99, p100, p101, p102, p103, p104, p105, p106⟩ : GSource), p107, p108⟩ : GTables), p109⟩ : GWorld), p110, p111, p112⟩ : GstockLooker).w.tables.source.recipes))), .v false (V.l 4 (List.map GSwap.e ((⟨(⟨(⟨(⟨p99, p100, p101, p102, p103, p104, p105, p106⟩ : GSource), p107, p108⟩ : GTables), p109⟩ : GWorld), p110, p111, p112⟩ : GstockLooker).w.tables.source.swaps))), .v false (V.l 1 (List.map vi ((⟨(⟨(⟨(⟨p99, p100, p101, p102, p103, p104, p105, p106⟩ : GSource), p107, p108⟩ : GTables), p109⟩ : GWorld), p110, p111, p112⟩ : GstockLooker).w.tables.levels))), .v false (V.l 1 (List.map (fun l => V.l 6 (List.map GInst.e l)) ((⟨(⟨(⟨(⟨p99, p100, p101, p102, p103, p104, p105, p106⟩ : GSource), p107, p108⟩ : GTables), p109⟩ : GWorld), p110, p111, p112⟩ : GstockLooker).w.tables.codes))), .v false (V.l 8 (List.map GFact.e ((⟨(⟨(⟨(⟨p99, p100, p101, p102, p103, p104, p105, p106⟩ : GSource), p107, p108⟩ : GTables), p109⟩ : GWorld), p110, p111, p112⟩ : GstockLooker).w.facts))), .v true (vi ((⟨(⟨(⟨(⟨p99, p100, p101, p102, p103, p104, p105, p106⟩ : GSource), p107, p108⟩ : GTables), p109⟩ : GWorld), p110, p111, p112⟩ : GstockLooker).day)), .v true (vi ((⟨(⟨(⟨(⟨p99, p100, p101, p102, p103, p104, p105, p106⟩ : GSource), p107, p108⟩ : GTables), p109⟩ : GWorld), p110, p111, p112⟩ : GstockLooker).known)), .o 7004 0 q113 5 0 (((⟨(⟨(⟨(⟨p99, p100, p101, p102, p103, p104, p105, p106⟩ : GSource), p107, p108⟩ : GTables), p109⟩ : GWorld), p110, p111, p112⟩ : GstockLooker).reads).length)]), .e 7004 0 q113 (.row 100 (els true (List.map GRead.e ((⟨(⟨(⟨(⟨p99, p100, p101, p102, p103, p104, p105, p106⟩ : GSource), p107, p108⟩ : GTables), p109⟩ : GWorld), p110, p111, p112⟩ : GstockLooker).reads))))] (.cons 9004 0 D2 0 rfl (.nil _)) (.cons (.cellN (z := 6) rfl rfl rfl rfl rfl rfl (.flat rfl)) (.cons (.cell1 rfl rfl rfl rfl (.flat rfl)) .nil)) ⟨q113, by cases hr; rfl, by cases hr; rfl⟩ ⟨(.w rfl (.cons .old (.cons .old (.cons .old (.cons .old (.cons .old (.cons .old (.cons .old (.cons .old (.cons .old (.cons .old (.cons .old (.cons (.flat rfl) (.cons (.flat rfl) (.cons .rfl .nil))))))))))))))), ⟨(.e rfl), trivial⟩⟩
      · replace H := cf hc H
        refine ev_skip ?_
        refine ev_seq ?_
        refine ev_region ?_
        refine rq rfl rfl (q_loadN rfl rfl rfl rfl) ?_
        refine re rfl (e_store rfl rfl rfl rfl rfl (Nat.le_of_ble_eq_true rfl) rfl) ?_; rintro _ rfl
        refine re rfl (e_store1 rfl rfl rfl rfl rfl (Nat.le_of_ble_eq_true rfl) rfl) ?_; rintro _ rfl
        refine run_nil ?_
        refine ev_ret ?_
        have hr := Option.some.inj H
        exact retRm [.v true (GLot.e (⟨a1, p93, p94, p95, p96, p97⟩ : GLot)), .v true (vb true)] [.e 7000 0 (some (b_a0, 14)) (.row 115 [.v false (V.l 8 (List.map GUnit.e ((⟨(⟨(⟨(⟨p99, p100, p101, p102, p103, p104, p105, p106⟩ : GSource), p107, p108⟩ : GTables), p109⟩ : GWorld), p110, p111, p112⟩ : GstockLooker).w.tables.source.units))), .v false (V.l 6 (List.map GItem.e ((⟨(⟨(⟨(⟨p99, p100, p101, p102, p103, p104, p105, p106⟩ : GSource), p107, p108⟩ : GTables), p109⟩ : GWorld), p110, p111, p112⟩ : GstockLooker).w.tables.source.items))), .v false (V.l 1 (List.map V.s ((⟨(⟨(⟨(⟨p99, p100, p101, p102, p103, p104, p105, p106⟩ : GSource), p107, p108⟩ : GTables), p109⟩ : GWorld), p110, p111, p112⟩ : GstockLooker).w.tables.source.plants))), .v false (V.l 4 (List.map GMachine.e ((⟨(⟨(⟨(⟨p99, p100, p101, p102, p103, p104, p105, p106⟩ : GSource), p107, p108⟩ : GTables), p109⟩ : GWorld), p110, p111, p112⟩ : GstockLooker).w.tables.source.machines))), .v false (V.l 2 (List.map GOption.e ((⟨(⟨(⟨(⟨p99, p100, p101, p102, p103, p104, p105, p106⟩ : GSource), p107, p108⟩ : GTables), p109⟩ : GWorld), p110, p111, p112⟩ : GstockLooker).w.tables.source.options))), .v false (V.l 1 (List.map (fun l => V.l 4 (List.map GCond.e l)) ((⟨(⟨(⟨(⟨p99, p100, p101, p102, p103, p104, p105, p106⟩ : GSource), p107, p108⟩ : GTables), p109⟩ : GWorld), p110, p111, p112⟩ : GstockLooker).w.tables.source.forbids))), .v false (V.l 17 (List.map GRecipe.e ((⟨(⟨(⟨(⟨p99, p100, p101, p102, p103, p104, p105, p106⟩ : GSource), p107, p108⟩ : GTables), p109⟩ : GWorld), p110, p111, p112⟩ : GstockLooker).w.tables.source.recipes))), .v false (V.l 4 (List.map GSwap.e ((⟨(⟨(⟨(⟨p99, p100, p101, p102, p103, p104, p105, p106⟩ : GSource), p107, p108⟩ : GTables), p109⟩ : GWorld), p110, p111, p112⟩ : GstockLooker).w.tables.source.swaps))), .v false (V.l 1 (List.map vi ((⟨(⟨(⟨(⟨p99, p100, p101, p102, p103, p104, p105, p106⟩ : GSource), p107, p108⟩ : GTables), p109⟩ : GWorld), p110, p111, p112⟩ : GstockLooker).w.tables.levels))), .v false (V.l 1 (List.map (fun l => V.l 6 (List.map GInst.e l)) ((⟨(⟨(⟨(⟨p99, p100, p101, p102, p103, p104, p105, p106⟩ : GSource), p107, p108⟩ : GTables), p109⟩ : GWorld), p110, p111, p112⟩ : GstockLooker).w.tables.codes))), .v false (V.l 8 (List.map GFact.e ((⟨(⟨(⟨(⟨p99, p100, p101, p102, p103, p104, p105, p106⟩ : GSource), p107, p108⟩ : GTables), p109⟩ : GWorld), p110, p111, p112⟩ : GstockLooker).w.facts))), .v true (vi ((⟨(⟨(⟨(⟨p99, p100, p101, p102, p103, p104, p105, p106⟩ : GSource), p107, p108⟩ : GTables), p109⟩ : GWorld), p110, p111, p112⟩ : GstockLooker).day)), .v true (vi ((⟨(⟨(⟨(⟨p99, p100, p101, p102, p103, p104, p105, p106⟩ : GSource), p107, p108⟩ : GTables), p109⟩ : GWorld), p110, p111, p112⟩ : GstockLooker).known)), .o 7004 0 q113 5 0 (((⟨(⟨(⟨(⟨p99, p100, p101, p102, p103, p104, p105, p106⟩ : GSource), p107, p108⟩ : GTables), p109⟩ : GWorld), p110, p111, p112⟩ : GstockLooker).reads).length)]), .e 7004 0 q113 (.row 100 (els true (List.map GRead.e ((⟨(⟨(⟨(⟨p99, p100, p101, p102, p103, p104, p105, p106⟩ : GSource), p107, p108⟩ : GTables), p109⟩ : GWorld), p110, p111, p112⟩ : GstockLooker).reads))))] (.cons 9004 0 D2 0 rfl (.nil _)) (.cons (.cellN (z := 6) rfl rfl rfl rfl rfl rfl (.flat rfl)) (.cons (.cell1 rfl rfl rfl rfl (.flat rfl)) .nil)) ⟨q113, by cases hr; rfl, by cases hr; rfl⟩ ⟨(.w rfl (.cons .old (.cons .old (.cons .old (.cons .old (.cons .old (.cons .old (.cons .old (.cons .old (.cons .old (.cons .old (.cons .old (.cons (.flat rfl) (.cons (.flat rfl) (.cons .rfl .nil))))))))))))))), ⟨(.e rfl), trivial⟩⟩
def stock_Lot_m (a0 : GWorld) (a1 : Int) (a2 : Int) (a3 : Int) : Option (GLot × (List GRead) × Bool) := bd (stock_isDay_m a2) fun x3 => bif !x3 then (some ((⟨0, 0, 0, 0, 0, 0⟩ : GLot), [], false)) else (jn (fun (p6 : Bool) (p7 : Int) (p8 : Int) (p9 : Int) (p10 : Int) (p11 : Int) (p12 : Int) (p13 : List GUnit) (p14 : List GItem) (p15 : List ByteArray) (p16 : List GMachine) (p17 : List GOption) (p18 : List (List GCond)) (p19 : List GRecipe) (p20 : List GSwap) (p21 : List Int) (p22 : List (List GInst)) (p23 : List GFact) (p24 : Int) (p25 : Int) (p26 : List GRead) => some ((⟨p7, p8, p9, p10, p11, p12⟩ : GLot), p26, p6)) fun j5 => bd (stock_looker_many_m (⟨a0, a2, a3, ([] : List GRead)⟩ : GstockLooker)) fun x28 => bif bif decide (0 ≤ a1) then decide (a1 < x28.1) else false then (bd (stock_looker_lot_m x28.2 a1) fun x30 => j5 x30.2.1 x30.1.no_ x30.1.item x30.1.plant x30.1.amount x30.1.expiry x30.1.state x30.2.2.w.tables.source.units x30.2.2.w.tables.source.items x30.2.2.w.tables.source.plants x30.2.2.w.tables.source.machines x30.2.2.w.tables.source.options x30.2.2.w.tables.source.forbids x30.2.2.w.tables.source.recipes x30.2.2.w.tables.source.swaps x30.2.2.w.tables.levels x30.2.2.w.tables.codes x30.2.2.w.facts x30.2.2.day x30.2.2.known x30.2.2.reads) else (j5 false 0 0 0 0 0 0 x28.2.w.tables.source.units x28.2.w.tables.source.items x28.2.w.tables.source.plants x28.2.w.tables.source.machines x28.2.w.tables.source.options x28.2.w.tables.source.forbids x28.2.w.tables.source.recipes x28.2.w.tables.source.swaps x28.2.w.tables.levels x28.2.w.tables.codes x28.2.w.facts x28.2.day x28.2.known x28.2.reads))
theorem stock_Lot_c {a0 : GWorld} {a1 : Int} {a2 : Int} {a3 : Int} {r : GLot × (List GRead) × Bool} (H : stock_Lot_m a0 a1 a2 a3 = some r) : PureC Try.prog true 27 [GWorld.e a0, vi a1, vi a2, vi a3] (V.t [GLot.e r.1, V.l 5 (List.map GRead.e r.2.1), vb r.2.2]) := by
  unfold stock_Lot_m at H
  refine pure_intro (N := 43) Try.func27 rfl rfl rfl rfl fun C hO => ?_
  refine ev_shift (shift_mk (fs := [(0, .v false (GWorld.e a0)), (1, .v true (vi a1)), (2, .v true (vi a2)), (3, .v true (vi a3))]) (es := []) ⟨⟨_, rfl, .rfl⟩, ⟨⟨_, rfl, (.flat rfl)⟩, ⟨⟨_, rfl, (.flat rfl)⟩, ⟨⟨_, rfl, (.flat rfl)⟩, trivial⟩⟩⟩⟩ trivial rfl rfl) ?_
  refine ev_seq ?_
  refine ev_region ?_
  refine re rfl (e_box 4 0 rfl rfl rfl) ?_; rintro _ ⟨b1, rfl⟩
  refine re rfl (e_alloc 8 0 rfl rfl) ?_; rintro _ ⟨b2, rfl⟩
  refine rq rfl rfl (q_assign rfl) ?_
  refine rq rfl rfl (q_assign rfl) ?_
  refine run_nil ?_
  refine ev_seq ?_
  refine ev_seq ?_
  refine ev_region ?_
  refine rq rfl rfl (q_move rfl) ?_
  obtain ⟨x3, x3_h, H⟩ := bd_inv H
  refine rq rfl rfl (q_call rfl (.v _ _ (fun e => nomatch e)) (.v rfl ArgsOk.nil) inferInstance (stock_isDay_c  x3_h)) ?_
  refine rq rfl rfl (q_not rfl) ?_
  refine run_nil ?_
  refine ev_cond rfl (fun hc => ?_) (fun hc => ?_)
  · replace H := ct hc H
    refine ev_seq ?_
    refine ev_region ?_
    refine rq rfl rfl (q_loadN rfl rfl rfl rfl) ?_
    refine re rfl (e_store rfl rfl rfl rfl rfl (Nat.le_of_ble_eq_true rfl) rfl) ?_; rintro _ rfl
    refine rq rfl rfl (q_assign rfl) ?_
    refine rq rfl rfl (q_assign rfl) ?_
    refine run_nil ?_
    refine ev_ret ?_
    exact ret_ok [GLot.e (⟨0, 0, 0, 0, 0, 0⟩ : GLot), V.l 5 (List.map GRead.e []), vb false] (congrArg (fun r : GLot × (List GRead) × Bool => V.t [GLot.e r.1, V.l 5 (List.map GRead.e r.2.1), vb r.2.2]) (Option.some.inj H)) rfl (.cons (.cellN (z := 6) rfl rfl rfl rfl rfl rfl (.v _ _ (fun _ => rfl))) (.cons (.tmp rfl (.nil _ _)) (.cons (.tmp rfl (.v _ _ (fun _ => rfl))) .nil)))
  · replace H := cf hc H
    refine ev_skip ?_
    refine ev_seq ?_
    refine ev_region ?_
    refine rq rfl rfl (q_loadN rfl rfl rfl rfl) ?_
    refine rq rfl rfl (q_move rfl) ?_
    refine rq rfl rfl (q_move rfl) ?_
    refine rq rfl rfl (q_build (r := [V.l 8 (List.map GUnit.e a0.tables.source.units), V.l 6 (List.map GItem.e a0.tables.source.items), V.l 1 (List.map V.s a0.tables.source.plants), V.l 4 (List.map GMachine.e a0.tables.source.machines), V.l 2 (List.map GOption.e a0.tables.source.options), V.l 1 (List.map (fun l => V.l 4 (List.map GCond.e l)) a0.tables.source.forbids), V.l 17 (List.map GRecipe.e a0.tables.source.recipes), V.l 4 (List.map GSwap.e a0.tables.source.swaps), V.l 1 (List.map vi a0.tables.levels), V.l 1 (List.map (fun l => V.l 6 (List.map GInst.e l)) a0.tables.codes), V.l 8 (List.map GFact.e a0.facts), vi a2, vi a3, .raw (.slice none 0 0)]) rfl (.v rfl rfl rfl rfl rfl (.v rfl rfl rfl rfl rfl (.v rfl rfl rfl rfl rfl .nil)))) ?_
    refine re rfl (e_box 7000 0 rfl rfl rfl) ?_; rintro _ ⟨b4, rfl⟩
    refine run_shift (shift_norow 7004 0 100) ?_
    refine run_shift (shift_wk (k := 7000) (i := 0) (ys := [.v false (V.l 8 (List.map GUnit.e a0.tables.source.units)), .v false (V.l 6 (List.map GItem.e a0.tables.source.items)), .v false (V.l 1 (List.map V.s a0.tables.source.plants)), .v false (V.l 4 (List.map GMachine.e a0.tables.source.machines)), .v false (V.l 2 (List.map GOption.e a0.tables.source.options)), .v false (V.l 1 (List.map (fun l => V.l 4 (List.map GCond.e l)) a0.tables.source.forbids)), .v false (V.l 17 (List.map GRecipe.e a0.tables.source.recipes)), .v false (V.l 4 (List.map GSwap.e a0.tables.source.swaps)), .v false (V.l 1 (List.map vi a0.tables.levels)), .v false (V.l 1 (List.map (fun l => V.l 6 (List.map GInst.e l)) a0.tables.codes)), .v false (V.l 8 (List.map GFact.e a0.facts)), .v true (vi a2), .v true (vi a3), .o 7004 0 none 5 0 (([] : List GRead).length)]) rfl (.cons .rfl (.cons .rfl (.cons .rfl (.cons .rfl (.cons .rfl (.cons .rfl (.cons .rfl (.cons .rfl (.cons .rfl (.cons .rfl (.cons .rfl (.cons (.flat rfl) (.cons (.flat rfl) (.cons .nilo .nil))))))))))))))) ?_
    refine rq rfl rfl (q_assign rfl) ?_
    refine run_nil ?_
    obtain ⟨j5, j5_e, H⟩ := jn_inv H
    refine ev_join (fun σ' => ∃ (p6 : Bool) (p7 : Int) (p8 : Int) (p9 : Int) (p10 : Int) (p11 : Int) (p12 : Int) (p13 : List GUnit) (p14 : List GItem) (p15 : List ByteArray) (p16 : List GMachine) (p17 : List GOption) (p18 : List (List GCond)) (p19 : List GRecipe) (p20 : List GSwap) (p21 : List Int) (p22 : List (List GInst)) (p23 : List GFact) (p24 : Int) (p25 : Int) (p26 : List GRead) (q27 : Pl), j5 p6 p7 p8 p9 p10 p11 p12 p13 p14 p15 p16 p17 p18 p19 p20 p21 p22 p23 p24 p25 p26 = some r ∧ σ' = mkS [(8, .p 8 0 b2 0), (9, .v true (.raw (.slice none 0 0))), (10, .v true (vb p6)), (11, .p 7000 0 b4 0)] [.e 8 0 (some (b2, 6)) (.row 60 [.v true (vi p7), .v true (vi p8), .v true (vi p9), .v true (vi p10), .v true (vi p11), .v true (vi p12)]), .e 7000 0 (some (b4, 14)) (.row 115 [.v false (V.l 8 (List.map GUnit.e p13)), .v false (V.l 6 (List.map GItem.e p14)), .v false (V.l 1 (List.map V.s p15)), .v false (V.l 4 (List.map GMachine.e p16)), .v false (V.l 2 (List.map GOption.e p17)), .v false (V.l 1 (List.map (fun l => V.l 4 (List.map GCond.e l)) p18)), .v false (V.l 17 (List.map GRecipe.e p19)), .v false (V.l 4 (List.map GSwap.e p20)), .v false (V.l 1 (List.map vi p21)), .v false (V.l 1 (List.map (fun l => V.l 6 (List.map GInst.e l)) p22)), .v false (V.l 8 (List.map GFact.e p23)), .v true (vi p24), .v true (vi p25), .o 7004 0 q27 5 0 p26.length]), .e 7004 0 q27 (.row 100 (els true (List.map GRead.e p26)))] [] (0, false)) ?_ ?_
    · rintro _ ⟨p6, p7, p8, p9, p10, p11, p12, p13, p14, p15, p16, p17, p18, p19, p20, p21, p22, p23, p24, p25, p26, q27, H, rfl⟩
      subst j5_e
      refine ev_seq ?_
      refine ev_drawX (fun i => (assocN [(6, [8])] i).getD []) rfl ?_
      refine xq (r := some _) [] 0 (.start _) rfl (by kernel_rfl) (by kernel_rfl) ⟨rfl, .inl ⟨rfl, Quiet.norm (q_loadN rfl rfl rfl rfl)⟩⟩ rfl (fun hcl => ?_)
      refine xq (r := some _) [8] 1 hcl rfl (by kernel_rfl) (by kernel_rfl) ⟨rfl, .inl ⟨rfl, Quiet.norm (q_move rfl)⟩⟩ rfl (fun hcl => ?_)
      refine xq (r := some _) [8] 2 hcl rfl (by kernel_rfl) (by kernel_rfl) ⟨rfl, .inl ⟨rfl, Quiet.norm (q_nil rfl)⟩⟩ rfl (fun hcl => ?_)
      refine xq (r := some _) [8] 3 hcl rfl (by kernel_rfl) (by kernel_rfl) ⟨rfl, .inl ⟨rfl, Quiet.norm (q_fld_p rfl)⟩⟩ rfl (fun hcl => ?_)
      refine xq (r := some _) [8] 4 hcl rfl (by kernel_rfl) (by kernel_rfl) ⟨rfl, .inl ⟨rfl, Quiet.norm (q_load1 rfl rfl rfl)⟩⟩ rfl (fun hcl => ?_)
      refine xq (r := some _) [8] 5 hcl rfl (by kernel_rfl) (by kernel_rfl) ⟨rfl, .inl ⟨rfl, Quiet.norm (q_move rfl)⟩⟩ rfl (fun hcl => ?_)
      refine xb hcl (l := [6]) (by kernel_rfl) (by simp) (fun i hi hcl => ?_)
      obtain rfl : i = 6 := by simpa using hi
      refine xe rfl (x_store rfl rfl rfl rfl rfl (Nat.le_of_ble_eq_true rfl) rfl rfl) ?_; rintro _ rfl
      refine xq (r := some _) [] 7 hcl rfl (by kernel_rfl) (by kernel_rfl) ⟨rfl, .inl ⟨rfl, Quiet.norm (q_assign rfl)⟩⟩ rfl (fun hcl => ?_)
      refine xq (r := some _) [] 8 hcl rfl (by kernel_rfl) (by kernel_rfl) ⟨rfl, .inl ⟨rfl, Quiet.norm (q_assign rfl)⟩⟩ rfl (fun hcl => ?_)
      refine xn (by kernel_rfl) ?_
      refine ev_ret ?_
      exact ret_ok [GLot.e (⟨p7, p8, p9, p10, p11, p12⟩ : GLot), V.l 5 (List.map GRead.e p26), vb p6] (congrArg (fun r : GLot × (List GRead) × Bool => V.t [GLot.e r.1, V.l 5 (List.map GRead.e r.2.1), vb r.2.2]) (Option.some.inj H)) rfl (.cons (.cellN (z := 6) rfl rfl rfl rfl rfl rfl (.v _ _ (fun _ => rfl))) (.cons (.tmp rfl (.all rfl (List.length_map _) (els_plain fun _ => ⟨rfl, rfl⟩) (fun _ => rfl))) (.cons (.tmp rfl (.v _ _ (fun _ => rfl))) .nil)))
    · clear j5_e
      refine ev_seq ?_
      refine ev_region ?_
      refine rq rfl rfl (q_move rfl) ?_
      obtain ⟨x28, x28_h, H⟩ := bd_inv H
      refine re rfl (e_callR [7000, 7004] rfl (.v _ _ []) rfl inferInstance (stock_looker_many_c  x28_h) ⟨(.w rfl (.cons .old (.cons .old (.cons .old (.cons .old (.cons .old (.cons .old (.cons .old (.cons .old (.cons .old (.cons .old (.cons .old (.cons (.flat rfl) (.cons (.flat rfl) (.cons .rfl .nil))))))))))))))), ⟨(.e rfl), trivial⟩⟩ rfl rfl) ?_; rintro _ ⟨_, _, ⟨q29, rfl, rfl⟩, rfl⟩
      refine rq rfl rfl (q_assign rfl) ?_
      refine run_nil ?_
      refine ev_seq ?_
      refine ev_region ?_
      refine rq rfl rfl (q_move rfl) ?_
      refine rq rfl rfl (q_geq rfl rfl) ?_
      refine rq rfl rfl (q_move rfl) ?_
      refine rqc (l := []) ⟨⟨_, _, _, rfl, rfl, rfl, rfl⟩, rfl, fun hc => q_move rfl, trivial⟩ rfl ?_
      refine rqc (l := []) ⟨⟨_, _, _, rfl, rfl, rfl, rfl⟩, rfl, fun hc => q_move rfl, trivial⟩ rfl ?_
      refine rqc (l := [27, 28]) ⟨⟨_, _, _, rfl, rfl, rfl, rfl⟩, rfl, fun hc => q_lss rfl rfl, ⟨fun h => h, ⟨fun h => h, trivial⟩⟩⟩ rfl ?_
      refine rq rfl rfl (q_pickb rfl rfl rfl (PB.c (fun hp => hp)) PB.v) ?_
      refine run_nil ?_
      refine ev_cond rfl (fun hc => ?_) (fun hc => ?_)
      · replace H := ct hc H
        refine ev_region ?_
        refine rq rfl rfl (q_move rfl) ?_
        refine rq rfl rfl (q_move rfl) ?_
        obtain ⟨x30, x30_h, H⟩ := bd_inv H
        refine re rfl (e_callR [7000, 7004] rfl (.v _ _ []) rfl inferInstance (stock_looker_lot_c  x30_h) ⟨(.w rfl (.cons .old (.cons .old (.cons .old (.cons .old (.cons .old (.cons .old (.cons .old (.cons .old (.cons .old (.cons .old (.cons .old (.cons (.flat rfl) (.cons (.flat rfl) (.cons .rfl .nil))))))))))))))), ⟨(.e rfl), trivial⟩⟩ rfl rfl) ?_; rintro _ ⟨_, _, ⟨q31, rfl, rfl⟩, rfl⟩
        refine rq rfl rfl (q_move rfl) ?_
        refine rq rfl rfl (q_extractD rfl rfl) ?_
        refine rq rfl rfl (q_extractD rfl rfl) ?_
        refine re rfl (e_store rfl rfl rfl rfl rfl (Nat.le_of_ble_eq_true rfl) rfl) ?_; rintro _ rfl
        refine rq rfl rfl (q_assign rfl) ?_
        refine run_nil ?_
        exact ⟨_, ⟨x30.2.1, x30.1.no_, x30.1.item, x30.1.plant, x30.1.amount, x30.1.expiry, x30.1.state, x30.2.2.w.tables.source.units, x30.2.2.w.tables.source.items, x30.2.2.w.tables.source.plants, x30.2.2.w.tables.source.machines, x30.2.2.w.tables.source.options, x30.2.2.w.tables.source.forbids, x30.2.2.w.tables.source.recipes, x30.2.2.w.tables.source.swaps, x30.2.2.w.tables.levels, x30.2.2.w.tables.codes, x30.2.2.w.facts, x30.2.2.day, x30.2.2.known, x30.2.2.reads, q31, H, rfl⟩, shift_mk ⟨⟨_, rfl, .rfl⟩, ⟨⟨_, rfl, .rfl⟩, ⟨⟨_, rfl, (.flat rfl)⟩, ⟨⟨_, rfl, .rfl⟩, trivial⟩⟩⟩⟩ ⟨(.w rfl (.cons (.flat rfl) (.cons (.flat rfl) (.cons (.flat rfl) (.cons (.flat rfl) (.cons (.flat rfl) (.cons (.flat rfl) .nil))))))), ⟨(.w rfl (.cons .rfl (.cons .rfl (.cons .rfl (.cons .rfl (.cons .rfl (.cons .rfl (.cons .rfl (.cons .rfl (.cons .rfl (.cons .rfl (.cons .rfl (.cons (.flat rfl) (.cons (.flat rfl) (.cons .rfl .nil))))))))))))))), ⟨(.e rfl), trivial⟩⟩⟩ rfl rfl⟩
      · replace H := cf hc H
        refine ev_skip ?_
        exact ⟨_, ⟨false, 0, 0, 0, 0, 0, 0, x28.2.w.tables.source.units, x28.2.w.tables.source.items, x28.2.w.tables.source.plants, x28.2.w.tables.source.machines, x28.2.w.tables.source.options, x28.2.w.tables.source.forbids, x28.2.w.tables.source.recipes, x28.2.w.tables.source.swaps, x28.2.w.tables.levels, x28.2.w.tables.codes, x28.2.w.facts, x28.2.day, x28.2.known, x28.2.reads, q29, H, rfl⟩, shift_mk ⟨⟨_, rfl, .rfl⟩, ⟨⟨_, rfl, .rfl⟩, ⟨⟨_, rfl, (.flat rfl)⟩, ⟨⟨_, rfl, .rfl⟩, trivial⟩⟩⟩⟩ ⟨(.w rfl (.cons (.flat rfl) (.cons (.flat rfl) (.cons (.flat rfl) (.cons (.flat rfl) (.cons (.flat rfl) (.cons (.flat rfl) .nil))))))), ⟨(.w rfl (.cons .rfl (.cons .rfl (.cons .rfl (.cons .rfl (.cons .rfl (.cons .rfl (.cons .rfl (.cons .rfl (.cons .rfl (.cons .rfl (.cons .rfl (.cons (.flat rfl) (.cons (.flat rfl) (.cons .rfl .nil))))))))))))))), ⟨(.e rfl), trivial⟩⟩⟩ rfl rfl⟩
def stock_Lots_m (a0 : GWorld) (a1 : Int) (a2 : Int) : Option ((List GLot) × (List GRead)) := bd (stock_isDay_m a1) fun x2 => bif !x2 then (some ([], [])) else (bd (stock_looker_many_m (⟨a0, a1, a2, ([] : List GRead)⟩ : GstockLooker)) fun x4 => forN 0 x4.1 (fun (k8 : Int) (s6 : (List GLot) × (List GUnit) × (List GItem) × (List ByteArray) × (List GMachine) × (List GOption) × (List (List GCond)) × (List GRecipe) × (List GSwap) × (List Int) × (List (List GInst)) × (List GFact) × Int × Int × (List GRead)) loop7 => jn (fun (p35 : List GLot) (p37 : List GUnit) (p38 : List GItem) (p39 : List ByteArray) (p40 : List GMachine) (p41 : List GOption) (p42 : List (List GCond)) (p43 : List GRecipe) (p44 : List GSwap) (p45 : List Int) (p46 : List (List GInst)) (p47 : List GFact) (p48 : Int) (p49 : Int) (p50 : List GRead) => loop7 (p35, p37, p38, p39, p40, p41, p42, p43, p44, p45, p46, p47, p48, p49, p50)) fun j34 => bd (stock_looker_lot_m (⟨(⟨(⟨(⟨s6.2.1, s6.2.2.1, s6.2.2.2.1, s6.2.2.2.2.1, s6.2.2.2.2.2.1, s6.2.2.2.2.2.2.1, s6.2.2.2.2.2.2.2.1, s6.2.2.2.2.2.2.2.2.1⟩ : GSource), s6.2.2.2.2.2.2.2.2.2.1, s6.2.2.2.2.2.2.2.2.2.2.1⟩ : GTables), s6.2.2.2.2.2.2.2.2.2.2.2.1⟩ : GWorld), s6.2.2.2.2.2.2.2.2.2.2.2.2.1, s6.2.2.2.2.2.2.2.2.2.2.2.2.2.1, s6.2.2.2.2.2.2.2.2.2.2.2.2.2.2⟩ : GstockLooker) k8) fun x52 => bif x52.2.1 then (gd (decide ((s6.1.length + ([x52.1] : List GLot).length) * 49 ≤ 140737488355328)) <| j34 (s6.1 ++ ([x52.1] : List GLot)) x52.2.2.w.tables.source.units x52.2.2.w.tables.source.items x52.2.2.w.tables.source.plants x52.2.2.w.tables.source.machines x52.2.2.w.tables.source.options x52.2.2.w.tables.source.forbids x52.2.2.w.tables.source.recipes x52.2.2.w.tables.source.swaps x52.2.2.w.tables.levels x52.2.2.w.tables.codes x52.2.2.w.facts x52.2.2.day x52.2.2.known x52.2.2.reads) else (j34 s6.1 x52.2.2.w.tables.source.units x52.2.2.w.tables.source.items x52.2.2.w.tables.source.plants x52.2.2.w.tables.source.machines x52.2.2.w.tables.source.options x52.2.2.w.tables.source.forbids x52.2.2.w.tables.source.recipes x52.2.2.w.tables.source.swaps x52.2.2.w.tables.levels x52.2.2.w.tables.codes x52.2.2.w.facts x52.2.2.day x52.2.2.known x52.2.2.reads)) (fun (s6 : (List GLot) × (List GUnit) × (List GItem) × (List ByteArray) × (List GMachine) × (List GOption) × (List (List GCond)) × (List GRecipe) × (List GSwap) × (List Int) × (List (List GInst)) × (List GFact) × Int × Int × (List GRead)) => some (s6.1, s6.2.2.2.2.2.2.2.2.2.2.2.2.2.2)) (([] : List GLot), x4.2.w.tables.source.units, x4.2.w.tables.source.items, x4.2.w.tables.source.plants, x4.2.w.tables.source.machines, x4.2.w.tables.source.options, x4.2.w.tables.source.forbids, x4.2.w.tables.source.recipes, x4.2.w.tables.source.swaps, x4.2.w.tables.levels, x4.2.w.tables.codes, x4.2.w.facts, x4.2.day, x4.2.known, x4.2.reads))
theorem stock_Lots_c {a0 : GWorld} {a1 : Int} {a2 : Int} {r : (List GLot) × (List GRead)} (H : stock_Lots_m a0 a1 a2 = some r) : PureC Try.prog true 33 [GWorld.e a0, vi a1, vi a2] (V.t [V.l 6 (List.map GLot.e r.1), V.l 5 (List.map GRead.e r.2)]) := by
  unfold stock_Lots_m at H
  refine pure_intro (N := 42) Try.func33 rfl rfl rfl rfl fun C hO => ?_
  refine ev_shift (shift_mk (fs := [(0, .v false (GWorld.e a0)), (1, .v true (vi a1)), (2, .v true (vi a2))]) (es := []) ⟨⟨_, rfl, .rfl⟩, ⟨⟨_, rfl, (.flat rfl)⟩, ⟨⟨_, rfl, (.flat rfl)⟩, trivial⟩⟩⟩ trivial rfl rfl) ?_
  refine ev_seq ?_
  refine ev_region ?_
  refine re rfl (e_box 3 0 rfl rfl rfl) ?_; rintro _ ⟨b1, rfl⟩
  refine rq rfl rfl (q_assign rfl) ?_
  refine rq rfl rfl (q_assign rfl) ?_
  refine run_nil ?_
  refine ev_seq ?_
  refine ev_seq ?_
  refine ev_region ?_
  refine rq rfl rfl (q_move rfl) ?_
  obtain ⟨x2, x2_h, H⟩ := bd_inv H
  refine rq rfl rfl (q_call rfl (.v _ _ (fun e => nomatch e)) (.v rfl ArgsOk.nil) inferInstance (stock_isDay_c  x2_h)) ?_
  refine rq rfl rfl (q_not rfl) ?_
  refine run_nil ?_
  refine ev_cond rfl (fun hc => ?_) (fun hc => ?_)
  · replace H := ct hc H
    refine ev_seq ?_
    refine ev_region ?_
    refine rq rfl rfl (q_assign rfl) ?_
    refine rq rfl rfl (q_assign rfl) ?_
    refine run_nil ?_
    refine ev_ret ?_
    exact ret_ok [V.l 6 (List.map GLot.e []), V.l 5 (List.map GRead.e [])] (congrArg (fun r : (List GLot) × (List GRead) => V.t [V.l 6 (List.map GLot.e r.1), V.l 5 (List.map GRead.e r.2)]) (Option.some.inj H)) rfl (.cons (.tmp rfl (.nil _ _)) (.cons (.tmp rfl (.nil _ _)) .nil))
  · replace H := cf hc H
    refine ev_skip ?_
    refine ev_seq ?_
    refine ev_region ?_
    refine rq rfl rfl (q_loadN rfl rfl rfl rfl) ?_
    refine rq rfl rfl (q_move rfl) ?_
    refine rq rfl rfl (q_move rfl) ?_
    refine rq rfl rfl (q_build (r := [V.l 8 (List.map GUnit.e a0.tables.source.units), V.l 6 (List.map GItem.e a0.tables.source.items), V.l 1 (List.map V.s a0.tables.source.plants), V.l 4 (List.map GMachine.e a0.tables.source.machines), V.l 2 (List.map GOption.e a0.tables.source.options), V.l 1 (List.map (fun l => V.l 4 (List.map GCond.e l)) a0.tables.source.forbids), V.l 17 (List.map GRecipe.e a0.tables.source.recipes), V.l 4 (List.map GSwap.e a0.tables.source.swaps), V.l 1 (List.map vi a0.tables.levels), V.l 1 (List.map (fun l => V.l 6 (List.map GInst.e l)) a0.tables.codes), V.l 8 (List.map GFact.e a0.facts), vi a1, vi a2, .raw (.slice none 0 0)]) rfl (.v rfl rfl rfl rfl rfl (.v rfl rfl rfl rfl rfl (.v rfl rfl rfl rfl rfl .nil)))) ?_
    refine re rfl (e_box 7000 0 rfl rfl rfl) ?_; rintro _ ⟨b3, rfl⟩
    refine run_shift (shift_norow 7004 0 100) ?_
    refine run_shift (shift_wk (k := 7000) (i := 0) (ys := [.v false (V.l 8 (List.map GUnit.e a0.tables.source.units)), .v false (V.l 6 (List.map GItem.e a0.tables.source.items)), .v false (V.l 1 (List.map V.s a0.tables.source.plants)), .v false (V.l 4 (List.map GMachine.e a0.tables.source.machines)), .v false (V.l 2 (List.map GOption.e a0.tables.source.options)), .v false (V.l 1 (List.map (fun l => V.l 4 (List.map GCond.e l)) a0.tables.source.forbids)), .v false (V.l 17 (List.map GRecipe.e a0.tables.source.recipes)), .v false (V.l 4 (List.map GSwap.e a0.tables.source.swaps)), .v false (V.l 1 (List.map vi a0.tables.levels)), .v false (V.l 1 (List.map (fun l => V.l 6 (List.map GInst.e l)) a0.tables.codes)), .v false (V.l 8 (List.map GFact.e a0.facts)), .v true (vi a1), .v true (vi a2), .o 7004 0 none 5 0 (([] : List GRead).length)]) rfl (.cons .rfl (.cons .rfl (.cons .rfl (.cons .rfl (.cons .rfl (.cons .rfl (.cons .rfl (.cons .rfl (.cons .rfl (.cons .rfl (.cons .rfl (.cons (.flat rfl) (.cons (.flat rfl) (.cons .nilo .nil))))))))))))))) ?_
    refine rq rfl rfl (q_assign rfl) ?_
    refine run_nil ?_
    refine ev_seq ?_
    refine ev_seq ?_
    refine ev_region ?_
    refine rq rfl rfl (q_move rfl) ?_
    obtain ⟨x4, x4_h, H⟩ := bd_inv H
    refine re rfl (e_callR [7000, 7004] rfl (.v _ _ []) rfl inferInstance (stock_looker_many_c  x4_h) ⟨(.w rfl (.cons .old (.cons .old (.cons .old (.cons .old (.cons .old (.cons .old (.cons .old (.cons .old (.cons .old (.cons .old (.cons .old (.cons (.flat rfl) (.cons (.flat rfl) (.cons .rfl .nil))))))))))))))), ⟨(.e rfl), trivial⟩⟩ rfl rfl) ?_; rintro _ ⟨_, _, ⟨q5, rfl, rfl⟩, rfl⟩
    refine rq rfl rfl (q_move rfl) ?_
    refine run_nil ?_
    refine ev_block ?_
    refine ev_forN H (fun k8 s6 σ' => ∃ (q11 : Pl) (q26 : Pl), σ' = mkS [(6, .o 35 0 q11 6 0 s6.1.length), (7, .v true (.raw (.slice none 0 0))), (8, .p 7000 0 b3 0), (21, .v true (vi x4.1)), (22, .v true (vi k8))] [.e 35 0 q11 (.row 60 (els true (List.map GLot.e s6.1))), .e 7000 0 (some (b3, 14)) (.row 115 [.v false (V.l 8 (List.map GUnit.e s6.2.1)), .v false (V.l 6 (List.map GItem.e s6.2.2.1)), .v false (V.l 1 (List.map V.s s6.2.2.2.1)), .v false (V.l 4 (List.map GMachine.e s6.2.2.2.2.1)), .v false (V.l 2 (List.map GOption.e s6.2.2.2.2.2.1)), .v false (V.l 1 (List.map (fun l => V.l 4 (List.map GCond.e l)) s6.2.2.2.2.2.2.1)), .v false (V.l 17 (List.map GRecipe.e s6.2.2.2.2.2.2.2.1)), .v false (V.l 4 (List.map GSwap.e s6.2.2.2.2.2.2.2.2.1)), .v false (V.l 1 (List.map vi s6.2.2.2.2.2.2.2.2.2.1)), .v false (V.l 1 (List.map (fun l => V.l 6 (List.map GInst.e l)) s6.2.2.2.2.2.2.2.2.2.2.1)), .v false (V.l 8 (List.map GFact.e s6.2.2.2.2.2.2.2.2.2.2.2.1)), .v true (vi s6.2.2.2.2.2.2.2.2.2.2.2.2.1), .v true (vi s6.2.2.2.2.2.2.2.2.2.2.2.2.2.1), .o 7004 0 q26 5 0 s6.2.2.2.2.2.2.2.2.2.2.2.2.2.2.length]), .e 7004 0 q26 (.row 100 (els true (List.map GRead.e s6.2.2.2.2.2.2.2.2.2.2.2.2.2.2)))] [] (0, false)) ⟨_, ⟨none, q5, rfl⟩, shift_mk ⟨⟨_, rfl, .nilo⟩, ⟨⟨_, rfl, .rfl⟩, ⟨⟨_, rfl, .rfl⟩, ⟨⟨_, rfl, (.flat rfl)⟩, ⟨⟨_, rfl, .rfl⟩, trivial⟩⟩⟩⟩⟩ ⟨(.nn rfl), ⟨(.w rfl (.cons .rfl (.cons .rfl (.cons .rfl (.cons .rfl (.cons .rfl (.cons .rfl (.cons .rfl (.cons .rfl (.cons .rfl (.cons .rfl (.cons .rfl (.cons (.flat rfl) (.cons (.flat rfl) (.cons .rfl .nil))))))))))))))), ⟨(.e rfl), trivial⟩⟩⟩ rfl rfl⟩ ?_
    rintro n27 k8 s6 _ ⟨q11, q26, rfl⟩ w28 w29 w30 w31 H
    refine ev_seq ?_
    refine ev_region ?_
    refine rq rfl rfl (q_lss rfl rfl) ?_
    refine run_nil ?_
    refine ev_seq ?_
    refine ev_cond rfl (fun hc => ?_) (fun hc => ?_)
    · obtain ⟨n33, n33_e, w32, H⟩ := forN_in hc w28 H
      refine ev_skip ?_
      obtain ⟨j34, j34_e, H⟩ := jn_inv H
      refine ev_join (fun σ' => ∃ (p35 : List GLot) (p37 : List GUnit) (p38 : List GItem) (p39 : List ByteArray) (p40 : List GMachine) (p41 : List GOption) (p42 : List (List GCond)) (p43 : List GRecipe) (p44 : List GSwap) (p45 : List Int) (p46 : List (List GInst)) (p47 : List GFact) (p48 : Int) (p49 : Int) (p50 : List GRead) (q36 : Pl) (q51 : Pl), j34 p35 p37 p38 p39 p40 p41 p42 p43 p44 p45 p46 p47 p48 p49 p50 = some r ∧ σ' = mkS [(6, .o 35 0 q36 6 0 p35.length), (7, .v true (.raw (.slice none 0 0))), (8, .p 7000 0 b3 0), (21, .v true (vi x4.1)), (22, .v true (vi k8))] [.e 35 0 q36 (.row 60 (els true (List.map GLot.e p35))), .e 7000 0 (some (b3, 14)) (.row 115 [.v false (V.l 8 (List.map GUnit.e p37)), .v false (V.l 6 (List.map GItem.e p38)), .v false (V.l 1 (List.map V.s p39)), .v false (V.l 4 (List.map GMachine.e p40)), .v false (V.l 2 (List.map GOption.e p41)), .v false (V.l 1 (List.map (fun l => V.l 4 (List.map GCond.e l)) p42)), .v false (V.l 17 (List.map GRecipe.e p43)), .v false (V.l 4 (List.map GSwap.e p44)), .v false (V.l 1 (List.map vi p45)), .v false (V.l 1 (List.map (fun l => V.l 6 (List.map GInst.e l)) p46)), .v false (V.l 8 (List.map GFact.e p47)), .v true (vi p48), .v true (vi p49), .o 7004 0 q51 5 0 p50.length]), .e 7004 0 q51 (.row 100 (els true (List.map GRead.e p50)))] [] (0, false)) ?_ ?_
      · rintro _ ⟨p35, p37, p38, p39, p40, p41, p42, p43, p44, p45, p46, p47, p48, p49, p50, q36, q51, H, rfl⟩
        subst j34_e
        refine ev_region ?_
        refine rq rfl rfl (q_add rfl rfl) ?_
        refine rq rfl rfl (q_move rfl) ?_
        refine run_nil ?_
        exact ⟨_, _, _, n33_e, H, ⟨q36, q51, rfl⟩, shift_mk ⟨⟨_, rfl, .rfl⟩, ⟨⟨_, rfl, .rfl⟩, ⟨⟨_, rfl, .rfl⟩, ⟨⟨_, rfl, (.flat rfl)⟩, ⟨⟨_, rfl, (.eq (congrArg (fun n => D.v true (vi n)) (wrap_succ' (by omega) w32 w31)))⟩, trivial⟩⟩⟩⟩⟩ ⟨(.e rfl), ⟨(.w rfl (.cons .rfl (.cons .rfl (.cons .rfl (.cons .rfl (.cons .rfl (.cons .rfl (.cons .rfl (.cons .rfl (.cons .rfl (.cons .rfl (.cons .rfl (.cons (.flat rfl) (.cons (.flat rfl) (.cons .rfl .nil))))))))))))))), ⟨(.e rfl), trivial⟩⟩⟩ rfl rfl⟩
      · clear j34_e
        refine ev_block ?_
        refine ev_seq ?_
        refine ev_region ?_
        refine rq rfl rfl (q_move rfl) ?_
        refine rq rfl rfl (q_assign rfl) ?_
        refine run_nil ?_
        refine ev_seq ?_
        refine ev_region ?_
        refine rq rfl rfl (q_move rfl) ?_
        refine rq rfl rfl (q_move rfl) ?_
        obtain ⟨x52, x52_h, H⟩ := bd_inv H
        refine re rfl (e_callR [7000, 7004] rfl (.v _ _ []) rfl inferInstance (stock_looker_lot_c  x52_h) ⟨(.w rfl (.cons .old (.cons .old (.cons .old (.cons .old (.cons .old (.cons .old (.cons .old (.cons .old (.cons .old (.cons .old (.cons .old (.cons (.flat rfl) (.cons (.flat rfl) (.cons .rfl .nil))))))))))))))), ⟨(.e rfl), trivial⟩⟩ rfl rfl) ?_; rintro _ ⟨_, _, ⟨q53, rfl, rfl⟩, rfl⟩
        refine rq rfl rfl (q_move rfl) ?_
        refine rq rfl rfl (q_extractD rfl rfl) ?_
        refine rq rfl rfl (q_extractD rfl rfl) ?_
        refine re rfl (e_alloc 10 0 rfl rfl) ?_; rintro _ ⟨b54, rfl⟩
        refine re rfl (e_store rfl rfl rfl rfl rfl (Nat.le_of_ble_eq_true rfl) rfl) ?_; rintro _ rfl
        refine rq rfl rfl (q_assign rfl) ?_
        refine run_nil ?_
        refine ev_seq ?_
        refine ev_region ?_
        refine rq rfl rfl (q_move rfl) ?_
        refine run_nil ?_
        refine ev_cond rfl (fun hc => ?_) (fun hc => ?_)
        · replace H := ct hc H
          refine ev_region ?_
          refine rq rfl rfl (q_move rfl) ?_
          refine rq rfl rfl (q_loadN rfl rfl rfl rfl) ?_
          refine rq rfl rfl (q_buildSlice (z := 6) (xs := List.map GLot.e ([x52.1] : List GLot)) (fl := true) rfl rfl rfl rfl (by simp [V.plain, V.cells, GLot.e, vi, vb]) rfl) ?_
          obtain ⟨w55, H⟩ := gdd_inv H
          refine re rfl (e_appt rfl rfl rfl (fun _ => ⟨rfl, rfl⟩) rfl rfl rfl w55 rfl) ?_; rintro _ ⟨q56, rfl⟩
          refine rq rfl rfl (q_assign rfl) ?_
          refine run_nil ?_
          exact ⟨_, ⟨s6.1 ++ ([x52.1] : List GLot), x52.2.2.w.tables.source.units, x52.2.2.w.tables.source.items, x52.2.2.w.tables.source.plants, x52.2.2.w.tables.source.machines, x52.2.2.w.tables.source.options, x52.2.2.w.tables.source.forbids, x52.2.2.w.tables.source.recipes, x52.2.2.w.tables.source.swaps, x52.2.2.w.tables.levels, x52.2.2.w.tables.codes, x52.2.2.w.facts, x52.2.2.day, x52.2.2.known, x52.2.2.reads, q56, q53, H, rfl⟩, shift_mk ⟨⟨_, rfl, .rfl⟩, ⟨⟨_, rfl, .rfl⟩, ⟨⟨_, rfl, .rfl⟩, ⟨⟨_, rfl, (.flat rfl)⟩, ⟨⟨_, rfl, (.flat rfl)⟩, trivial⟩⟩⟩⟩⟩ ⟨(.e rfl), ⟨(.w rfl (.cons .rfl (.cons .rfl (.cons .rfl (.cons .rfl (.cons .rfl (.cons .rfl (.cons .rfl (.cons .rfl (.cons .rfl (.cons .rfl (.cons .rfl (.cons (.flat rfl) (.cons (.flat rfl) (.cons .rfl .nil))))))))))))))), ⟨(.e rfl), trivial⟩⟩⟩ rfl rfl⟩
        · replace H := cf hc H
          refine ev_skip ?_
          exact ⟨_, ⟨s6.1, x52.2.2.w.tables.source.units, x52.2.2.w.tables.source.items, x52.2.2.w.tables.source.plants, x52.2.2.w.tables.source.machines, x52.2.2.w.tables.source.options, x52.2.2.w.tables.source.forbids, x52.2.2.w.tables.source.recipes, x52.2.2.w.tables.source.swaps, x52.2.2.w.tables.levels, x52.2.2.w.tables.codes, x52.2.2.w.facts, x52.2.2.day, x52.2.2.known, x52.2.2.reads, q11, q53, H, rfl⟩, shift_mk ⟨⟨_, rfl, .rfl⟩, ⟨⟨_, rfl, .rfl⟩, ⟨⟨_, rfl, .rfl⟩, ⟨⟨_, rfl, (.flat rfl)⟩, ⟨⟨_, rfl, (.flat rfl)⟩, trivial⟩⟩⟩⟩⟩ ⟨(.e rfl), ⟨(.w rfl (.cons .rfl (.cons .rfl (.cons .rfl (.cons .rfl (.cons .rfl (.cons .rfl (.cons .rfl (.cons .rfl (.cons .rfl (.cons .rfl (.cons .rfl (.cons (.flat rfl) (.cons (.flat rfl) (.cons .rfl .nil))))))))))))))), ⟨(.e rfl), trivial⟩⟩⟩ rfl rfl⟩
    · replace H := forN_out hc w28 H
      refine ev_exit ?_
      refine ev_seq ?_
      refine ev_draw rfl (by kernel_rfl) ?_
      refine qq rfl rfl (q_move rfl) ?_
      refine qq rfl rfl (q_move rfl) ?_
      refine qq rfl rfl (q_nil rfl) ?_
      refine qq rfl rfl (q_fld_p rfl) ?_
      refine qq rfl rfl (q_load1 rfl rfl rfl) ?_
      refine qq rfl rfl (q_assign rfl) ?_
      refine qq rfl rfl (q_assign rfl) ?_
      refine qn ?_
      refine ev_ret ?_
      exact ret_ok [V.l 6 (List.map GLot.e s6.1), V.l 5 (List.map GRead.e s6.2.2.2.2.2.2.2.2.2.2.2.2.2.2)] (congrArg (fun r : (List GLot) × (List GRead) => V.t [V.l 6 (List.map GLot.e r.1), V.l 5 (List.map GRead.e r.2)]) (Option.some.inj H)) rfl (.cons (.tmp rfl (.all rfl (List.length_map _) (els_plain fun _ => ⟨rfl, rfl⟩) (fun _ => rfl))) (.cons (.tmp rfl (.all rfl (List.length_map _) (els_plain fun _ => ⟨rfl, rfl⟩) (fun _ => rfl))) .nil))
def slices_insertionSortCmpFunc_Lot_m (a0 : List GLot) (a1 : Int) (a2 : Int) (a3 : GLot → GLot → Option Int) : Option (List GLot) := forN (wr (a1 + 1)) a2 (fun (k3 : Int) (s1 : (List GLot)) loop2 => iter (fun (s13 : Int × (List GLot)) loop14 => bdc (decide (a1 < s13.1)) (idx s13.2 s13.1) fun x17 => bdc (decide (a1 < s13.1)) (idx s13.2 (wr (s13.1 - 1))) fun x18 => bdc (decide (a1 < s13.1)) (a3 x17 x18) fun x19 => bif bif decide (a1 < s13.1) then decide (x19 < 0) else false then (bd (idx s13.2 (wr (s13.1 - 1))) fun x20 => bd (idx s13.2 s13.1) fun x21 => bd (idx ((s13.2).set (s13.1).toNat x20) (wr (s13.1 - 1))) fun x22 => loop14 (wr (s13.1 - 1), ((s13.2).set (s13.1).toNat x20).set (wr (s13.1 - 1)).toNat x21)) else (loop2 s13.2)) 1048576 (k3, s1)) (fun (s1 : (List GLot)) => some s1) a0
theorem slices_insertionSortCmpFunc_Lot_c {a0 : List GLot} {q_a0 : Pl} {a1 : Int} {a2 : Int} {a3_g : Nat} {a3_k : List V} {a3 : GLot → GLot → Option Int} [TFn Try.prog a3_g] (a3_h : ∀ y0 y1 r, a3 y0 y1 = some r → PureC Try.prog true a3_g ([GLot.e y0, GLot.e y1] ++ a3_k) (vi r)) {f_a1 : Bool} {f_a2 : Bool} {f_a3 : Bool} {r : (List GLot)} (H : slices_insertionSortCmpFunc_Lot_m a0 a1 a2 a3 = some r) : FnR Try.prog 101 [.o 8000 0 q_a0 6 0 a0.length, .v f_a1 (vi a1), .v f_a2 (vi a2), .v f_a3 (.c a3_g a3_k)] [.e 8000 0 q_a0 (.row 60 (els true (List.map GLot.e a0)))] (fun d es' => d = .t [] ∧ es' = [.e 8000 0 q_a0 (.row 60 (els true (List.map GLot.e r)))]) := by
  unfold slices_insertionSortCmpFunc_Lot_m at H
  refine fnr_intro (N := 53) Try.func101 rfl rfl rfl rfl fun C => ?_
  refine ev_shift (shift_mk (fs := [(0, .o 8000 0 q_a0 6 0 a0.length), (1, .v true (vi a1)), (2, .v true (vi a2)), (3, .v false (.c a3_g a3_k))]) (es := [.e 8000 0 q_a0 (.row 60 (els true (List.map GLot.e a0)))]) ⟨⟨_, rfl, .rfl⟩, ⟨⟨_, rfl, (.flat rfl)⟩, ⟨⟨_, rfl, (.flat rfl)⟩, ⟨⟨_, rfl, .old⟩, trivial⟩⟩⟩⟩ ⟨(.e rfl), trivial⟩ rfl rfl) ?_
  refine ev_seq ?_
  refine ev_region ?_
  refine rq rfl rfl (q_move rfl) ?_
  refine rq rfl rfl (q_add rfl rfl) ?_
  refine rq rfl rfl (q_assign rfl) ?_
  refine run_nil ?_
  refine ev_block ?_
  refine ev_forN H (fun k3 s1 σ' => σ' = mkS [(0, .o 8000 0 q_a0 6 0 s1.length), (1, .v true (vi a1)), (2, .v true (vi a2)), (3, .v false (.c a3_g a3_k)), (8, .v true (vi k3))] [.e 8000 0 q_a0 (.row 60 (els true (List.map GLot.e s1)))] [] (0, false)) ⟨_, rfl, shift_mk ⟨⟨_, rfl, .rfl⟩, ⟨⟨_, rfl, (.flat rfl)⟩, ⟨⟨_, rfl, (.flat rfl)⟩, ⟨⟨_, rfl, .rfl⟩, ⟨⟨_, rfl, .rfl⟩, trivial⟩⟩⟩⟩⟩ ⟨(.e rfl), trivial⟩ rfl rfl⟩ ?_
  rintro n6 k3 s1 _ rfl w7 w8 w9 w10 H
  refine ev_seq ?_
  refine ev_seq ?_
  refine ev_region ?_
  refine rq rfl rfl (q_move rfl) ?_
  refine rq rfl rfl (q_move rfl) ?_
  refine rq rfl rfl (q_lss rfl rfl) ?_
  refine run_nil ?_
  refine ev_cond rfl (fun hc => ?_) (fun hc => ?_)
  · obtain ⟨n12, n12_e, w11, H⟩ := forN_in hc w7 H
    refine ev_skip ?_
    refine ev_seq ?_
    refine ev_block ?_
    refine ev_seq ?_
    refine ev_region ?_
    refine rq rfl rfl (q_move rfl) ?_
    refine rq rfl rfl (q_assign rfl) ?_
    refine run_nil ?_
    refine ev_block ?_
    refine ev_iter H (fun s13 σ' => σ' = mkS [(0, .o 8000 0 q_a0 6 0 s13.2.length), (1, .v true (vi a1)), (2, .v true (vi a2)), (3, .v false (.c a3_g a3_k)), (8, .v true (vi k3)), (9, .v true (vi s13.1))] [.e 8000 0 q_a0 (.row 60 (els true (List.map GLot.e s13.2)))] [] (0, false)) ⟨_, rfl, shift_mk ⟨⟨_, rfl, .rfl⟩, ⟨⟨_, rfl, (.flat rfl)⟩, ⟨⟨_, rfl, (.flat rfl)⟩, ⟨⟨_, rfl, .rfl⟩, ⟨⟨_, rfl, (.flat rfl)⟩, ⟨⟨_, rfl, (.flat rfl)⟩, trivial⟩⟩⟩⟩⟩⟩ ⟨(.e rfl), trivial⟩ rfl rfl⟩ ?_
    rintro n23 s13 _ rfl H
    refine ev_seq ?_
    refine ev_seq ?_
    obtain ⟨x17, x17_h, _, H⟩ := bdc_inv H
    obtain ⟨x18, x18_h, _, H⟩ := bdc_inv H
    obtain ⟨x19, x19_h, _, H⟩ := bdc_inv H
    refine ev_draw rfl (by kernel_rfl) ?_
    refine qq rfl rfl (q_move rfl) ?_
    refine qq rfl rfl (q_move rfl) ?_
    refine qq rfl rfl (q_gtr rfl rfl) ?_
    refine qq rfl rfl (q_move rfl) ?_
    refine qc (l := []) ⟨⟨_, _, _, rfl, rfl, rfl, rfl⟩, rfl, fun hc => q_move rfl, trivial⟩ rfl rfl ?_
    refine qc (l := []) ⟨⟨_, _, _, rfl, rfl, rfl, rfl⟩, rfl, fun hc => q_move rfl, trivial⟩ rfl rfl ?_
    refine qc (l := []) ⟨⟨_, _, _, rfl, rfl, rfl, rfl⟩, rfl, fun hc => q_move rfl, trivial⟩ rfl rfl ?_
    refine qc (l := [23, 24]) ⟨⟨_, _, _, rfl, rfl, rfl, rfl⟩, rfl, fun hc => q_idx_pl rfl rfl (idx_inv (x17_h hc)).1 (idx_inv (x17_h hc)).2.2.2, ⟨fun h => h, ⟨fun h => h, trivial⟩⟩⟩ rfl rfl ?_
    refine qc (l := [25]) ⟨⟨_, _, _, rfl, rfl, rfl, rfl⟩, rfl, fun hc => q_load_eep (E := GLot.e) (z := 6) (fun _ => ⟨rfl, rfl⟩) rfl rfl rfl (idx_inv (x17_h hc)).2.1, ⟨fun h => h, trivial⟩⟩ rfl rfl ?_
    refine qc (l := []) ⟨⟨_, _, _, rfl, rfl, rfl, rfl⟩, rfl, fun hc => q_move rfl, trivial⟩ rfl rfl ?_
    refine qc (l := []) ⟨⟨_, _, _, rfl, rfl, rfl, rfl⟩, rfl, fun hc => q_move rfl, trivial⟩ rfl rfl ?_
    refine qc (l := [28]) ⟨⟨_, _, _, rfl, rfl, rfl, rfl⟩, rfl, fun hc => q_sub rfl rfl, ⟨fun h => h, trivial⟩⟩ rfl rfl ?_
    refine qc (l := [27, 29]) ⟨⟨_, _, _, rfl, rfl, rfl, rfl⟩, rfl, fun hc => q_idx_pl rfl rfl (idx_inv (x18_h hc)).1 (idx_inv (x18_h hc)).2.2.2, ⟨fun h => h, ⟨fun h => h, trivial⟩⟩⟩ rfl rfl ?_
    refine qc (l := [30]) ⟨⟨_, _, _, rfl, rfl, rfl, rfl⟩, rfl, fun hc => q_load_eep (E := GLot.e) (z := 6) (fun _ => ⟨rfl, rfl⟩) rfl rfl rfl (idx_inv (x18_h hc)).2.1, ⟨fun h => h, trivial⟩⟩ rfl rfl ?_
    refine qc (l := [22, 26, 31]) ⟨⟨_, _, _, rfl, rfl, rfl, rfl⟩, rfl, fun hc => q_call rfl (.v _ _ (fun e => nomatch e)) (.v rfl (.v rfl ArgsOk.nil)) inferInstance (a3_h _ _ _ (x19_h hc)), ⟨fun h => h, ⟨fun h => h, ⟨fun h => h, trivial⟩⟩⟩⟩ rfl rfl ?_
    refine qc (l := [32]) ⟨⟨_, _, _, rfl, rfl, rfl, rfl⟩, rfl, fun hc => q_lss rfl rfl, ⟨fun h => h, trivial⟩⟩ rfl rfl ?_
    refine qq rfl rfl (q_pickb rfl rfl rfl (PB.c (fun hp => hp)) PB.v) ?_
    refine qn ?_
    refine ev_cond rfl (fun hc => ?_) (fun hc => ?_)
    · replace H := ct hc H
      refine ev_skip ?_
      refine ev_seq ?_
      refine ev_block ?_
      obtain ⟨x20, x20_h, H⟩ := bd_inv H
      obtain ⟨x21, x21_h, H⟩ := bd_inv H
      obtain ⟨x22, x22_h, H⟩ := bd_inv H
      refine ev_drawX (fun i => (assocN [(15, [8000]), (17, [8000])] i).getD []) rfl ?_
      refine xq (r := some _) [] 0 (.start _) rfl (by kernel_rfl) (by kernel_rfl) ⟨rfl, .inl ⟨rfl, Quiet.norm (q_move rfl)⟩⟩ rfl (fun hcl => ?_)
      refine xq (r := some _) [] 1 hcl rfl (by kernel_rfl) (by kernel_rfl) ⟨rfl, .inl ⟨rfl, Quiet.norm (q_move rfl)⟩⟩ rfl (fun hcl => ?_)
      refine xq (r := some _) [8000] 2 hcl rfl (by kernel_rfl) (by kernel_rfl) ⟨rfl, .inl ⟨rfl, Quiet.norm (q_move rfl)⟩⟩ rfl (fun hcl => ?_)
      refine xq (r := some _) [8000] 3 hcl rfl (by kernel_rfl) (by kernel_rfl) ⟨rfl, .inl ⟨rfl, Quiet.norm (q_move rfl)⟩⟩ rfl (fun hcl => ?_)
      refine xq (r := some _) [8000] 4 hcl rfl (by kernel_rfl) (by kernel_rfl) ⟨rfl, .inl ⟨rfl, Quiet.norm (q_sub rfl rfl)⟩⟩ rfl (fun hcl => ?_)
      refine xq (r := some _) [] 5 hcl rfl (by kernel_rfl) (by kernel_rfl) ⟨rfl, .inl ⟨rfl, Quiet.norm (q_move rfl)⟩⟩ rfl (fun hcl => ?_)
      refine xq (r := some _) [] 6 hcl rfl (by kernel_rfl) (by kernel_rfl) ⟨rfl, .inl ⟨rfl, Quiet.norm (q_move rfl)⟩⟩ rfl (fun hcl => ?_)
      refine xq (r := some _) [] 7 hcl rfl (by kernel_rfl) (by kernel_rfl) ⟨rfl, .inl ⟨rfl, Quiet.norm (q_sub rfl rfl)⟩⟩ rfl (fun hcl => ?_)
      refine xq (r := some _) [] 8 hcl rfl (by kernel_rfl) (by kernel_rfl) ⟨rfl, .inl ⟨rfl, Quiet.norm (q_idx_pl rfl rfl (idx_inv x20_h).1 (idx_inv x20_h).2.2.2)⟩⟩ rfl (fun hcl => ?_)
      refine xq (r := some _) [] 9 hcl rfl (by kernel_rfl) (by kernel_rfl) ⟨rfl, .inl ⟨rfl, Quiet.norm (q_load_eep (E := GLot.e) (z := 6) (fun _ => ⟨rfl, rfl⟩) rfl rfl rfl (idx_inv x20_h).2.1)⟩⟩ rfl (fun hcl => ?_)
      refine xq (r := some _) [] 10 hcl rfl (by kernel_rfl) (by kernel_rfl) ⟨rfl, .inl ⟨rfl, Quiet.norm (q_move rfl)⟩⟩ rfl (fun hcl => ?_)
      refine xq (r := some _) [] 11 hcl rfl (by kernel_rfl) (by kernel_rfl) ⟨rfl, .inl ⟨rfl, Quiet.norm (q_move rfl)⟩⟩ rfl (fun hcl => ?_)
      refine xq (r := some _) [] 12 hcl rfl (by kernel_rfl) (by kernel_rfl) ⟨rfl, .inl ⟨rfl, Quiet.norm (q_idx_pl rfl rfl (idx_inv x21_h).1 (idx_inv x21_h).2.2.2)⟩⟩ rfl (fun hcl => ?_)
      refine xq (r := some _) [] 13 hcl rfl (by kernel_rfl) (by kernel_rfl) ⟨rfl, .inl ⟨rfl, Quiet.norm (q_load_eep (E := GLot.e) (z := 6) (fun _ => ⟨rfl, rfl⟩) rfl rfl rfl (idx_inv x21_h).2.1)⟩⟩ rfl (fun hcl => ?_)
      refine xq (r := some _) [] 14 hcl rfl (by kernel_rfl) (by kernel_rfl) ⟨rfl, .inl ⟨rfl, Quiet.norm (q_idx_pl rfl rfl (idx_inv x21_h).1 (idx_inv x21_h).2.2.2)⟩⟩ rfl (fun hcl => ?_)
      refine xb hcl (l := [15]) (by kernel_rfl) (by simp) (fun i hi hcl => ?_)
      obtain rfl : i = 15 := by simpa using hi
      refine xe rfl (x_store_eep (E := GLot.e) (z := 6) rfl rfl rfl (fun _ => ⟨rfl, rfl⟩) (idx_inv x21_h).2.2.1 rfl rfl rfl) ?_; rintro _ rfl
      refine xq (r := some _) [] 16 hcl rfl (by kernel_rfl) (by kernel_rfl) ⟨rfl, .inl ⟨rfl, Quiet.norm (q_idx_pl rfl rfl (idx_inv x22_h).1 (by simpa using (idx_inv x22_h).2.2.2))⟩⟩ rfl (fun hcl => ?_)
      refine xb hcl (l := [17]) (by kernel_rfl) (by simp) (fun i hi hcl => ?_)
      obtain rfl : i = 17 := by simpa using hi
      refine xe rfl (x_store_eep (E := GLot.e) (z := 6) rfl rfl rfl (fun _ => ⟨rfl, rfl⟩) (idx_inv x22_h).2.2.1 rfl rfl rfl) ?_; rintro _ rfl
      refine xn (by kernel_rfl) ?_
      refine ev_region ?_
      refine rq rfl rfl (q_move rfl) ?_
      refine rq rfl rfl (q_sub rfl rfl) ?_
      refine rq rfl rfl (q_assign rfl) ?_
      refine run_nil ?_
      exact ⟨_, _, H, rfl, shift_mk ⟨⟨_, rfl, (.eq (by simp))⟩, ⟨⟨_, rfl, (.flat rfl)⟩, ⟨⟨_, rfl, (.flat rfl)⟩, ⟨⟨_, rfl, .rfl⟩, ⟨⟨_, rfl, (.flat rfl)⟩, ⟨⟨_, rfl, (.flat rfl)⟩, trivial⟩⟩⟩⟩⟩⟩ ⟨(.e rfl), trivial⟩ rfl rfl⟩
    · replace H := cf hc H
      refine ev_exit ?_
      refine ev_region ?_
      refine rq rfl rfl (q_move rfl) ?_
      refine rq rfl rfl (q_add rfl rfl) ?_
      refine rq rfl rfl (q_assign rfl) ?_
      refine run_nil ?_
      exact ⟨_, _, _, n12_e, H, rfl, shift_mk ⟨⟨_, rfl, .rfl⟩, ⟨⟨_, rfl, (.flat rfl)⟩, ⟨⟨_, rfl, (.flat rfl)⟩, ⟨⟨_, rfl, .rfl⟩, ⟨⟨_, rfl, (.eq (congrArg (fun n => D.v true (vi n)) (wrap_succ' (by omega) w11 w10)))⟩, trivial⟩⟩⟩⟩⟩ ⟨(.e rfl), trivial⟩ rfl rfl⟩
  · replace H := forN_out hc w7 H
    refine ev_exit ?_
    have hr := Option.some.inj H
    exact endR [] [.e 8000 0 q_a0 (.row 60 (els true (List.map GLot.e s1)))] rfl .nil ⟨by cases hr; rfl, by cases hr; rfl⟩ ⟨(.e rfl), trivial⟩
def slices_swapRangeCmpFunc_Lot_m (a0 : List GLot) (a1 : Int) (a2 : Int) (a3 : Int) (a4 : GLot → GLot → Option Int) : Option (List GLot) := forN 0 a3 (fun (k3 : Int) (s1 : (List GLot)) loop2 => bd (idx s1 (wr (a2 + k3))) fun x13 => bd (idx s1 (wr (a1 + k3))) fun x14 => bd (idx ((s1).set (wr (a1 + k3)).toNat x13) (wr (a2 + k3))) fun x15 => loop2 (((s1).set (wr (a1 + k3)).toNat x13).set (wr (a2 + k3)).toNat x14)) (fun (s1 : (List GLot)) => some s1) a0
theorem slices_swapRangeCmpFunc_Lot_c {a0 : List GLot} {q_a0 : Pl} {a1 : Int} {a2 : Int} {a3 : Int} {a4_g : Nat} {a4_k : List V} {a4 : GLot → GLot → Option Int} [TFn Try.prog a4_g] (a4_h : ∀ y0 y1 r, a4 y0 y1 = some r → PureC Try.prog true a4_g ([GLot.e y0, GLot.e y1] ++ a4_k) (vi r)) {f_a1 : Bool} {f_a2 : Bool} {f_a3 : Bool} {f_a4 : Bool} {r : (List GLot)} (H : slices_swapRangeCmpFunc_Lot_m a0 a1 a2 a3 a4 = some r) : FnR Try.prog 109 [.o 8000 0 q_a0 6 0 a0.length, .v f_a1 (vi a1), .v f_a2 (vi a2), .v f_a3 (vi a3), .v f_a4 (.c a4_g a4_k)] [.e 8000 0 q_a0 (.row 60 (els true (List.map GLot.e a0)))] (fun d es' => d = .t [] ∧ es' = [.e 8000 0 q_a0 (.row 60 (els true (List.map GLot.e r)))]) := by
  unfold slices_swapRangeCmpFunc_Lot_m at H
  refine fnr_intro (N := 38) Try.func109 rfl rfl rfl rfl fun C => ?_
  refine ev_shift (shift_mk (fs := [(0, .o 8000 0 q_a0 6 0 a0.length), (1, .v true (vi a1)), (2, .v true (vi a2)), (3, .v true (vi a3)), (4, .v false (.c a4_g a4_k))]) (es := [.e 8000 0 q_a0 (.row 60 (els true (List.map GLot.e a0)))]) ⟨⟨_, rfl, .rfl⟩, ⟨⟨_, rfl, (.flat rfl)⟩, ⟨⟨_, rfl, (.flat rfl)⟩, ⟨⟨_, rfl, (.flat rfl)⟩, ⟨⟨_, rfl, .old⟩, trivial⟩⟩⟩⟩⟩ ⟨(.e rfl), trivial⟩ rfl rfl) ?_
  refine ev_seq ?_
  refine ev_region ?_
  refine rq rfl rfl (q_assign rfl) ?_
  refine run_nil ?_
  refine ev_block ?_
  refine ev_forN H (fun k3 s1 σ' => σ' = mkS [(0, .o 8000 0 q_a0 6 0 s1.length), (1, .v true (vi a1)), (2, .v true (vi a2)), (3, .v true (vi a3)), (10, .v true (vi k3))] [.e 8000 0 q_a0 (.row 60 (els true (List.map GLot.e s1)))] [] (0, false)) ⟨_, rfl, shift_mk ⟨⟨_, rfl, .rfl⟩, ⟨⟨_, rfl, (.flat rfl)⟩, ⟨⟨_, rfl, (.flat rfl)⟩, ⟨⟨_, rfl, (.flat rfl)⟩, ⟨⟨_, rfl, .rfl⟩, trivial⟩⟩⟩⟩⟩ ⟨(.e rfl), trivial⟩ rfl rfl⟩ ?_
  rintro n6 k3 s1 _ rfl w7 w8 w9 w10 H
  refine ev_seq ?_
  refine ev_seq ?_
  refine ev_region ?_
  refine rq rfl rfl (q_move rfl) ?_
  refine rq rfl rfl (q_move rfl) ?_
  refine rq rfl rfl (q_lss rfl rfl) ?_
  refine run_nil ?_
  refine ev_cond rfl (fun hc => ?_) (fun hc => ?_)
  · obtain ⟨n12, n12_e, w11, H⟩ := forN_in hc w7 H
    refine ev_skip ?_
    refine ev_seq ?_
    refine ev_block ?_
    obtain ⟨x13, x13_h, H⟩ := bd_inv H
    obtain ⟨x14, x14_h, H⟩ := bd_inv H
    obtain ⟨x15, x15_h, H⟩ := bd_inv H
    refine ev_drawX (fun i => (assocN [(21, [8000]), (23, [8000])] i).getD []) rfl ?_
    refine xq (r := some _) [] 0 (.start _) rfl (by kernel_rfl) (by kernel_rfl) ⟨rfl, .inl ⟨rfl, Quiet.norm (q_move rfl)⟩⟩ rfl (fun hcl => ?_)
    refine xq (r := some _) [] 1 hcl rfl (by kernel_rfl) (by kernel_rfl) ⟨rfl, .inl ⟨rfl, Quiet.norm (q_move rfl)⟩⟩ rfl (fun hcl => ?_)
    refine xq (r := some _) [] 2 hcl rfl (by kernel_rfl) (by kernel_rfl) ⟨rfl, .inl ⟨rfl, Quiet.norm (q_move rfl)⟩⟩ rfl (fun hcl => ?_)
    refine xq (r := some _) [] 3 hcl rfl (by kernel_rfl) (by kernel_rfl) ⟨rfl, .inl ⟨rfl, Quiet.norm (q_add rfl rfl)⟩⟩ rfl (fun hcl => ?_)
    refine xq (r := some _) [8000] 4 hcl rfl (by kernel_rfl) (by kernel_rfl) ⟨rfl, .inl ⟨rfl, Quiet.norm (q_move rfl)⟩⟩ rfl (fun hcl => ?_)
    refine xq (r := some _) [8000] 5 hcl rfl (by kernel_rfl) (by kernel_rfl) ⟨rfl, .inl ⟨rfl, Quiet.norm (q_move rfl)⟩⟩ rfl (fun hcl => ?_)
    refine xq (r := some _) [8000] 6 hcl rfl (by kernel_rfl) (by kernel_rfl) ⟨rfl, .inl ⟨rfl, Quiet.norm (q_move rfl)⟩⟩ rfl (fun hcl => ?_)
    refine xq (r := some _) [8000] 7 hcl rfl (by kernel_rfl) (by kernel_rfl) ⟨rfl, .inl ⟨rfl, Quiet.norm (q_add rfl rfl)⟩⟩ rfl (fun hcl => ?_)
    refine xq (r := some _) [] 8 hcl rfl (by kernel_rfl) (by kernel_rfl) ⟨rfl, .inl ⟨rfl, Quiet.norm (q_move rfl)⟩⟩ rfl (fun hcl => ?_)
    refine xq (r := some _) [] 9 hcl rfl (by kernel_rfl) (by kernel_rfl) ⟨rfl, .inl ⟨rfl, Quiet.norm (q_move rfl)⟩⟩ rfl (fun hcl => ?_)
    refine xq (r := some _) [] 10 hcl rfl (by kernel_rfl) (by kernel_rfl) ⟨rfl, .inl ⟨rfl, Quiet.norm (q_move rfl)⟩⟩ rfl (fun hcl => ?_)
    refine xq (r := some _) [] 11 hcl rfl (by kernel_rfl) (by kernel_rfl) ⟨rfl, .inl ⟨rfl, Quiet.norm (q_add rfl rfl)⟩⟩ rfl (fun hcl => ?_)
    refine xq (r := some _) [] 12 hcl rfl (by kernel_rfl) (by kernel_rfl) ⟨rfl, .inl ⟨rfl, Quiet.norm (q_idx_pl rfl rfl (idx_inv x13_h).1 (idx_inv x13_h).2.2.2)⟩⟩ rfl (fun hcl => ?_)
    refine xq (r := some _) [] 13 hcl rfl (by kernel_rfl) (by kernel_rfl) ⟨rfl, .inl ⟨rfl, Quiet.norm (q_load_eep (E := GLot.e) (z := 6) (fun _ => ⟨rfl, rfl⟩) rfl rfl rfl (idx_inv x13_h).2.1)⟩⟩ rfl (fun hcl => ?_)
    refine xq (r := some _) [] 14 hcl rfl (by kernel_rfl) (by kernel_rfl) ⟨rfl, .inl ⟨rfl, Quiet.norm (q_move rfl)⟩⟩ rfl (fun hcl => ?_)
    refine xq (r := some _) [] 15 hcl rfl (by kernel_rfl) (by kernel_rfl) ⟨rfl, .inl ⟨rfl, Quiet.norm (q_move rfl)⟩⟩ rfl (fun hcl => ?_)
    refine xq (r := some _) [] 16 hcl rfl (by kernel_rfl) (by kernel_rfl) ⟨rfl, .inl ⟨rfl, Quiet.norm (q_move rfl)⟩⟩ rfl (fun hcl => ?_)
    refine xq (r := some _) [] 17 hcl rfl (by kernel_rfl) (by kernel_rfl) ⟨rfl, .inl ⟨rfl, Quiet.norm (q_add rfl rfl)⟩⟩ rfl (fun hcl => ?_)
    refine xq (r := some _) [] 18 hcl rfl (by kernel_rfl) (by kernel_rfl) ⟨rfl, .inl ⟨rfl, Quiet.norm (q_idx_pl rfl rfl (idx_inv x14_h).1 (idx_inv x14_h).2.2.2)⟩⟩ rfl (fun hcl => ?_)
    refine xq (r := some _) [] 19 hcl rfl (by kernel_rfl) (by kernel_rfl) ⟨rfl, .inl ⟨rfl, Quiet.norm (q_load_eep (E := GLot.e) (z := 6) (fun _ => ⟨rfl, rfl⟩) rfl rfl rfl (idx_inv x14_h).2.1)⟩⟩ rfl (fun hcl => ?_)
    refine xq (r := some _) [] 20 hcl rfl (by kernel_rfl) (by kernel_rfl) ⟨rfl, .inl ⟨rfl, Quiet.norm (q_idx_pl rfl rfl (idx_inv x14_h).1 (idx_inv x14_h).2.2.2)⟩⟩ rfl (fun hcl => ?_)
    refine xb hcl (l := [21]) (by kernel_rfl) (by simp) (fun i hi hcl => ?_)
    obtain rfl : i = 21 := by simpa using hi
    refine xe rfl (x_store_eep (E := GLot.e) (z := 6) rfl rfl rfl (fun _ => ⟨rfl, rfl⟩) (idx_inv x14_h).2.2.1 rfl rfl rfl) ?_; rintro _ rfl
    refine xq (r := some _) [] 22 hcl rfl (by kernel_rfl) (by kernel_rfl) ⟨rfl, .inl ⟨rfl, Quiet.norm (q_idx_pl rfl rfl (idx_inv x15_h).1 (by simpa using (idx_inv x15_h).2.2.2))⟩⟩ rfl (fun hcl => ?_)
    refine xb hcl (l := [23]) (by kernel_rfl) (by simp) (fun i hi hcl => ?_)
    obtain rfl : i = 23 := by simpa using hi
    refine xe rfl (x_store_eep (E := GLot.e) (z := 6) rfl rfl rfl (fun _ => ⟨rfl, rfl⟩) (idx_inv x15_h).2.2.1 rfl rfl rfl) ?_; rintro _ rfl
    refine xn (by kernel_rfl) ?_
    refine ev_region ?_
    refine rq rfl rfl (q_move rfl) ?_
    refine rq rfl rfl (q_add rfl rfl) ?_
    refine rq rfl rfl (q_assign rfl) ?_
    refine run_nil ?_
    exact ⟨_, _, _, n12_e, H, rfl, shift_mk ⟨⟨_, rfl, (.eq (by simp))⟩, ⟨⟨_, rfl, (.flat rfl)⟩, ⟨⟨_, rfl, (.flat rfl)⟩, ⟨⟨_, rfl, (.flat rfl)⟩, ⟨⟨_, rfl, (.eq (congrArg (fun n => D.v true (vi n)) (wrap_succ' (by omega) w11 w10)))⟩, trivial⟩⟩⟩⟩⟩ ⟨(.e rfl), trivial⟩ rfl rfl⟩
  · replace H := forN_out hc w7 H
    refine ev_exit ?_
    have hr := Option.some.inj H
    exact endR [] [.e 8000 0 q_a0 (.row 60 (els true (List.map GLot.e s1)))] rfl .nil ⟨by cases hr; rfl, by cases hr; rfl⟩ ⟨(.e rfl), trivial⟩
def slices_rotateCmpFunc_Lot_m (a0 : List GLot) (a1 : Int) (a2 : Int) (a3 : Int) (a4 : GLot → GLot → Option Int) : Option (List GLot) := iter (fun (s1 : Int × Int × (List GLot)) loop2 => bif s1.1 != s1.2.1 then (bif decide (s1.2.1 < s1.1) then (bd (slices_swapRangeCmpFunc_Lot_m s1.2.2 (wr (a2 - s1.1)) a2 s1.2.1 a4) fun x6 => gd (decide (x6.length = s1.2.2.length)) <| loop2 (wr (s1.1 - s1.2.1), s1.2.1, x6)) else (bd (slices_swapRangeCmpFunc_Lot_m s1.2.2 (wr (a2 - s1.1)) (wr ((wr (a2 + s1.2.1)) - s1.1)) s1.1 a4) fun x8 => gd (decide (x8.length = s1.2.2.length)) <| loop2 (s1.1, wr (s1.2.1 - s1.1), x8))) else (bd (slices_swapRangeCmpFunc_Lot_m s1.2.2 (wr (a2 - s1.1)) a2 s1.1 a4) fun x10 => gd (decide (x10.length = s1.2.2.length)) <| some x10)) 1048576 (wr (a2 - a1), wr (a3 - a2), a0)
theorem slices_rotateCmpFunc_Lot_c {a0 : List GLot} {q_a0 : Pl} {a1 : Int} {a2 : Int} {a3 : Int} {a4_g : Nat} {a4_k : List V} {a4 : GLot → GLot → Option Int} [TFn Try.prog a4_g] (a4_h : ∀ y0 y1 r, a4 y0 y1 = some r → PureC Try.prog true a4_g ([GLot.e y0, GLot.e y1] ++ a4_k) (vi r)) {f_a1 : Bool} {f_a2 : Bool} {f_a3 : Bool} {f_a4 : Bool} {r : (List GLot)} (H : slices_rotateCmpFunc_Lot_m a0 a1 a2 a3 a4 = some r) : FnR Try.prog 108 [.o 8000 0 q_a0 6 0 a0.length, .v f_a1 (vi a1), .v f_a2 (vi a2), .v f_a3 (vi a3), .v f_a4 (.c a4_g a4_k)] [.e 8000 0 q_a0 (.row 60 (els true (List.map GLot.e a0)))] (fun d es' => d = .t [] ∧ es' = [.e 8000 0 q_a0 (.row 60 (els true (List.map GLot.e r)))]) := by
  unfold slices_rotateCmpFunc_Lot_m at H
  refine fnr_intro (N := 58) Try.func108 rfl rfl rfl rfl fun C => ?_
  refine ev_shift (shift_mk (fs := [(0, .o 8000 0 q_a0 6 0 a0.length), (1, .v true (vi a1)), (2, .v true (vi a2)), (3, .v true (vi a3)), (4, .v false (.c a4_g a4_k))]) (es := [.e 8000 0 q_a0 (.row 60 (els true (List.map GLot.e a0)))]) ⟨⟨_, rfl, .rfl⟩, ⟨⟨_, rfl, (.flat rfl)⟩, ⟨⟨_, rfl, (.flat rfl)⟩, ⟨⟨_, rfl, (.flat rfl)⟩, ⟨⟨_, rfl, .old⟩, trivial⟩⟩⟩⟩⟩ ⟨(.e rfl), trivial⟩ rfl rfl) ?_
  refine ev_seq ?_
  refine ev_region ?_
  refine rq rfl rfl (q_move rfl) ?_
  refine rq rfl rfl (q_move rfl) ?_
  refine rq rfl rfl (q_sub rfl rfl) ?_
  refine rq rfl rfl (q_assign rfl) ?_
  refine run_nil ?_
  refine ev_seq ?_
  refine ev_region ?_
  refine rq rfl rfl (q_move rfl) ?_
  refine rq rfl rfl (q_move rfl) ?_
  refine rq rfl rfl (q_sub rfl rfl) ?_
  refine rq rfl rfl (q_assign rfl) ?_
  refine run_nil ?_
  refine ev_seq ?_
  refine ev_block ?_
  refine ev_iter H (fun s1 σ' => σ' = mkS [(0, .o 8000 0 q_a0 6 0 s1.2.2.length), (2, .v true (vi a2)), (4, .v false (.c a4_g a4_k)), (10, .v true (vi s1.1)), (11, .v true (vi s1.2.1))] [.e 8000 0 q_a0 (.row 60 (els true (List.map GLot.e s1.2.2)))] [] (0, false)) ⟨_, rfl, shift_mk ⟨⟨_, rfl, .rfl⟩, ⟨⟨_, rfl, (.flat rfl)⟩, ⟨⟨_, rfl, .rfl⟩, ⟨⟨_, rfl, (.flat rfl)⟩, ⟨⟨_, rfl, (.flat rfl)⟩, trivial⟩⟩⟩⟩⟩ ⟨(.e rfl), trivial⟩ rfl rfl⟩ ?_
  rintro n12 s1 _ rfl H
  refine ev_seq ?_
  refine ev_seq ?_
  refine ev_region ?_
  refine rq rfl rfl (q_move rfl) ?_
  refine rq rfl rfl (q_move rfl) ?_
  refine rq rfl rfl (q_nei rfl rfl) ?_
  refine run_nil ?_
  refine ev_cond rfl (fun hc => ?_) (fun hc => ?_)
  · replace H := ct hc H
    refine ev_skip ?_
    refine ev_block ?_
    refine ev_seq ?_
    refine ev_region ?_
    refine rq rfl rfl (q_move rfl) ?_
    refine rq rfl rfl (q_move rfl) ?_
    refine rq rfl rfl (q_gtr rfl rfl) ?_
    refine run_nil ?_
    refine ev_cond rfl (fun hc => ?_) (fun hc => ?_)
    · replace H := ct hc H
      refine ev_seq ?_
      refine ev_region ?_
      refine rq rfl rfl (q_move rfl) ?_
      refine rq rfl rfl (q_move rfl) ?_
      refine rq rfl rfl (q_move rfl) ?_
      refine rq rfl rfl (q_sub rfl rfl) ?_
      refine rq rfl rfl (q_move rfl) ?_
      refine rq rfl rfl (q_move rfl) ?_
      refine rq rfl rfl (q_move rfl) ?_
      obtain ⟨x6, x6_h, H⟩ := bd_inv H
      obtain ⟨w7, H⟩ := gdd_inv H
      refine re rfl (e_callR [8000] rfl (.v _ _ []) rfl inferInstance (slices_swapRangeCmpFunc_Lot_c (a4_h := a4_h) x6_h) ⟨(.e rfl), trivial⟩ rfl rfl) ?_; rintro _ ⟨_, _, ⟨rfl, rfl⟩, rfl⟩
      refine run_shift (shift_as (s := 0) (d' := .o 8000 0 q_a0 6 0 x6.length) rfl (by rw [w7]; first | done | rfl | simp [normD])) ?_
      refine run_shift (shift_as (s := 24) (d' := .o 8000 0 q_a0 6 0 x6.length) rfl (by rw [w7]; first | done | rfl | simp [normD])) ?_
      refine run_nil ?_
      refine ev_region ?_
      refine rq rfl rfl (q_move rfl) ?_
      refine rq rfl rfl (q_move rfl) ?_
      refine rq rfl rfl (q_sub rfl rfl) ?_
      refine rq rfl rfl (q_assign rfl) ?_
      refine run_nil ?_
      exact ⟨_, _, H, rfl, shift_mk ⟨⟨_, rfl, .rfl⟩, ⟨⟨_, rfl, (.flat rfl)⟩, ⟨⟨_, rfl, .rfl⟩, ⟨⟨_, rfl, (.flat rfl)⟩, ⟨⟨_, rfl, (.flat rfl)⟩, trivial⟩⟩⟩⟩⟩ ⟨(.e rfl), trivial⟩ rfl rfl⟩
    · replace H := cf hc H
      refine ev_seq ?_
      refine ev_region ?_
      refine rq rfl rfl (q_move rfl) ?_
      refine rq rfl rfl (q_move rfl) ?_
      refine rq rfl rfl (q_move rfl) ?_
      refine rq rfl rfl (q_sub rfl rfl) ?_
      refine rq rfl rfl (q_move rfl) ?_
      refine rq rfl rfl (q_move rfl) ?_
      refine rq rfl rfl (q_add rfl rfl) ?_
      refine rq rfl rfl (q_move rfl) ?_
      refine rq rfl rfl (q_sub rfl rfl) ?_
      refine rq rfl rfl (q_move rfl) ?_
      refine rq rfl rfl (q_move rfl) ?_
      obtain ⟨x8, x8_h, H⟩ := bd_inv H
      obtain ⟨w9, H⟩ := gdd_inv H
      refine re rfl (e_callR [8000] rfl (.v _ _ []) rfl inferInstance (slices_swapRangeCmpFunc_Lot_c (a4_h := a4_h) x8_h) ⟨(.e rfl), trivial⟩ rfl rfl) ?_; rintro _ ⟨_, _, ⟨rfl, rfl⟩, rfl⟩
      refine run_shift (shift_as (s := 0) (d' := .o 8000 0 q_a0 6 0 x8.length) rfl (by rw [w9]; first | done | rfl | simp [normD])) ?_
      refine run_shift (shift_as (s := 35) (d' := .o 8000 0 q_a0 6 0 x8.length) rfl (by rw [w9]; first | done | rfl | simp [normD])) ?_
      refine run_nil ?_
      refine ev_region ?_
      refine rq rfl rfl (q_move rfl) ?_
      refine rq rfl rfl (q_move rfl) ?_
      refine rq rfl rfl (q_sub rfl rfl) ?_
      refine rq rfl rfl (q_assign rfl) ?_
      refine run_nil ?_
      exact ⟨_, _, H, rfl, shift_mk ⟨⟨_, rfl, .rfl⟩, ⟨⟨_, rfl, (.flat rfl)⟩, ⟨⟨_, rfl, .rfl⟩, ⟨⟨_, rfl, (.flat rfl)⟩, ⟨⟨_, rfl, (.flat rfl)⟩, trivial⟩⟩⟩⟩⟩ ⟨(.e rfl), trivial⟩ rfl rfl⟩
  · replace H := cf hc H
    refine ev_exit ?_
    refine ev_region ?_
    refine rq rfl rfl (q_move rfl) ?_
    refine rq rfl rfl (q_move rfl) ?_
    refine rq rfl rfl (q_move rfl) ?_
    refine rq rfl rfl (q_sub rfl rfl) ?_
    refine rq rfl rfl (q_move rfl) ?_
    refine rq rfl rfl (q_move rfl) ?_
    refine rq rfl rfl (q_move rfl) ?_
    obtain ⟨x10, x10_h, H⟩ := bd_inv H
    obtain ⟨w11, H⟩ := gdd_inv H
    refine re rfl (e_callR [8000] rfl (.v _ _ []) rfl inferInstance (slices_swapRangeCmpFunc_Lot_c (a4_h := a4_h) x10_h) ⟨(.e rfl), trivial⟩ rfl rfl) ?_; rintro _ ⟨_, _, ⟨rfl, rfl⟩, rfl⟩
    refine run_shift (shift_as (s := 0) (d' := .o 8000 0 q_a0 6 0 x10.length) rfl (by rw [w11]; first | done | rfl | simp [normD])) ?_
    refine run_shift (shift_as (s := 50) (d' := .o 8000 0 q_a0 6 0 x10.length) rfl (by rw [w11]; first | done | rfl | simp [normD])) ?_
    refine run_nil ?_
    have hr := Option.some.inj H
    exact endR [] [.e 8000 0 q_a0 (.row 60 (els true (List.map GLot.e x10)))] rfl .nil ⟨by cases hr; rfl, by cases hr; rfl⟩ ⟨(.e rfl), trivial⟩
end Bf
