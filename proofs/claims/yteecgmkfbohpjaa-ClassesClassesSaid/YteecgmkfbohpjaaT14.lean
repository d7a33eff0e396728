import Derived.Test.YteecgmkfbohpjaaT13
namespace Bf
open Go Go.RowKit Go.Proofs
attribute [local irreducible] Quiet Effect RunS Ev PureC Shift RunQ HasF SameF

def nilV : V := .raw (.slice none 0 0)
def sampleW : Wld := ⟨fun _ => nilV, [⟨⟨#[97]⟩, ⟨#[98]⟩, 0, 1⟩], nilV, nilV, [⟨⟨7, 3, 0⟩, 1, 5, 9, 10, 0⟩]⟩
theorem sample_c : PureC Try.prog true 27 [] sampleW.enc := by
  refine pure_intro (N := 10) Try.func27 rfl rfl rfl rfl fun C hO => ?_
  repeat' (first | ((apply rq; (focus exact rfl); (focus exact rfl); (focus (apply q_buildSlice; (focus repeat (first | exact ElsOk.nil | (apply ElsOk.v; (focus exact rfl); (focus exact rfl); (focus exact rfl)) | (apply ElsOk.s; (focus exact rfl); (focus exact rfl)))); (focus exact rfl); (focus exact rfl))))) | (show RunS _ _ _ _ _ _ _; first | refine wq (h := ?_) | refine we (h := ?_) | refine ws (h := ?_) | refine rg rfl rfl (fun _ => ?_) (fun _ => ?_)) | (show RunQ _ _ _ _ _ _; first | refine wqb (ht := ?_) (hf := ?_) | refine wqq (h := ?_) | refine wqs (h := ?_)) | refine ev_seq ?_ | refine ev_region ?_ | refine ev_draw (by kernel_rfl) (by kernel_rfl) ?_ | refine qn ?_ | refine run_nil ?_ | refine ev_block ?_ | refine ev_skip ?_ | refine ev_exit ?_ | refine ev_ret ?_ | refine ev_condt rfl ?_ | refine ev_condf rfl ?_ | refine ev_cond rfl (fun _ => ?_) (fun _ => ?_) | (intro h; exfalso; simp at h; done) | (intro _))
  exact ret_ok [sampleW.enc] rfl rfl (.cons (.cellN (z := 11) (f := true) (by kernel_rfl) (by kernel_rfl) rfl rfl rfl (by kernel_rfl) (fun _ => rfl)) .nil)
end Bf
