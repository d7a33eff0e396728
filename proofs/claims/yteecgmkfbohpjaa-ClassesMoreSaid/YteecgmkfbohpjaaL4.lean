/- The statement ClassesMoreSaid: for all worlds, supplies, requests, times, swaps and numbers, the law's function returns true. No condition of its own. -/
import Derived.Test.YteecgmkfbohpjaaB3
import Derived.Test.YteecgmkfbohpjaaT25
namespace Bf
open Go Go.RowKit Go.Proofs Go.ChangeShapes Go.WideShapes Go.ChangeAt Go.Proofs.Yteecgmkfbohpjaa
abbrev sup1S : Bool × List Sh := (true, [iS, iS, iS, iS, iS, iS])
abbrev swap1S : Bool × List Sh := (true, [.str, .str, iS, iS])
abbrev u8S : Bool × List Sh := (false, [.int .u8])
theorem dec_sup1 {x : V} (h : argOk sup1S x) : ∃ s : Supply, x = s.enc := by
  obtain ⟨ys, rfl, h⟩ := h
  simp only [Sh.okVs, Sh.okV] at h
  obtain ⟨_, _, rfl, ⟨n1, rfl, _⟩, _, _, rfl, ⟨n2, rfl, _⟩, _, _, rfl, ⟨n3, rfl, _⟩, _, _, rfl, ⟨n4, rfl, _⟩, _, _, rfl, ⟨n5, rfl, _⟩, _, _, rfl, ⟨n6, rfl, _⟩, rfl⟩ := h
  exact ⟨⟨n1, n2, n3, n4, n5, n6⟩, rfl⟩
theorem dec_req1 {x : V} (h : argOk sup1S x) : ∃ s : Request, x = s.enc := by
  obtain ⟨ys, rfl, h⟩ := h
  simp only [Sh.okVs, Sh.okV] at h
  obtain ⟨_, _, rfl, ⟨n1, rfl, _⟩, _, _, rfl, ⟨n2, rfl, _⟩, _, _, rfl, ⟨n3, rfl, _⟩, _, _, rfl, ⟨n4, rfl, _⟩, _, _, rfl, ⟨n5, rfl, _⟩, _, _, rfl, ⟨n6, rfl, _⟩, rfl⟩ := h
  exact ⟨⟨n1, n2, n3, n4, n5, n6⟩, rfl⟩
theorem dec_swap1 {x : V} (h : argOk swap1S x) : ∃ s : Swap, x = s.enc := by
  obtain ⟨ys, rfl, h⟩ := h
  simp only [Sh.okVs, Sh.okV] at h
  obtain ⟨_, _, rfl, ⟨n1, rfl⟩, _, _, rfl, ⟨n2, rfl⟩, _, _, rfl, ⟨n3, rfl, _⟩, _, _, rfl, ⟨n4, rfl, _⟩, rfl⟩ := h
  exact ⟨⟨n1, n2, n3, n4⟩, rfl⟩
theorem dec_u8 {x : V} (h : argOk u8S x) : ∃ n, x = .i .u8 n ∧ 0 ≤ n ∧ n < 256 := by
  have h1 := dec_arg h
  clear h
  simp only [Sh.okV] at h1
  obtain ⟨n, rfl, h2⟩ := h1
  simp only [Lit.wf, Bool.and_eq_true, decide_eq_true_eq] at h2
  have e1 : IntKind.u8.min = 0 := rfl
  have e2 : IntKind.u8.max = 255 := rfl
  rw [e1, e2] at h2
  exact ⟨n, rfl, by omega, by omega⟩
set_option maxRecDepth 100000 in
theorem moreL_lifted (hlaw : ∀ xs : List V, xs.length = ([worldS, sup1S, sup1S, intS, swap1S, u8S, u8S]).length → (∀ (i : Nat) p x, ([worldS, sup1S, sup1S, intS, swap1S, u8S, u8S])[i]? = some p → xs[i]? = some x → argOk p x) → PureC Try.prog false 6 xs (.b true)) (os : Os) (started : os.Started) (H : Type) (enc : TypeId × Value → H) :
    ReturnsInHanded {} Try.checked os 6 .any (Rows.classesMoreSpec.pre6 enc Try.prog Try.f6 Rows.classesMoreRow.domain false) (Rows.classesMoreSpec.post enc Try.prog Try.f6 false true false false) := by
  refine returnsInHanded_of_change (C := Try.checked) own_knob started (by kernel_rfl) Try.func6
    (ChangeSpec.witness6 (enc := enc) (C := Try.checked) false ⟨#[], #[.agg #[.slice none 0 0, .slice none 0 0, .slice none 0 0, .slice none 0 0, .slice none 0 0, .slice none 0 0, .slice none 0 0, .slice none 0 0, .slice none 0 0, .slice none 0 0, .slice none 0 0], .agg #[.int .i64 0, .int .i64 0, .int .i64 0, .int .i64 0, .int .i64 0, .int .i64 0], .agg #[.int .i64 0, .int .i64 0, .int .i64 0, .int .i64 0, .int .i64 0, .int .i64 0], .int .i64 0, .agg #[.string ⟨#[]⟩, .string ⟨#[]⟩, .int .i64 0, .int .i64 0], .int .u8 0, .int .u8 0], []⟩ 8 (by kernel_rfl) (by kernel_rfl) (by kernel_rfl) (by kernel_rfl)) ?_
  intro W base args ds gs before hval0 hW hcnd _
  have hrd : (Try.f6.params.toList.all fun t => Try.prog.readableRec t && Nat.blt t Try.prog.types.size) = true := by kernel_rfl
  have hrd' : ∀ t ∈ Try.f6.params.toList, Try.prog.readableRec t = true ∧ t < Try.prog.types.size := fun t ht => by
    have := List.all_eq_true.1 hrd t ht
    simp only [Bool.and_eq_true] at this
    exact ⟨this.1, by simpa using this.2⟩
  exact law_calls (P := Try.prog) (fn := Try.f6) (shs := [worldS, sup1S, sup1S, intS, swap1S, u8S, u8S]) (tb := 4) laid_out hrd' (by kernel_rfl) rfl (by kernel_rfl) rfl (by
      obtain ⟨hl, rfl⟩ := whole_len hW
      match ds, hl with
      | [d1, d2, d3, d4, d5, d6, d7], _ => rfl) hval0 hW hlaw
theorem moreL_holds (hlaw : ∀ xs : List V, xs.length = ([worldS, sup1S, sup1S, intS, swap1S, u8S, u8S]).length → (∀ (i : Nat) p x, ([worldS, sup1S, sup1S, intS, swap1S, u8S, u8S])[i]? = some p → xs[i]? = some x → argOk p x) → PureC Try.prog false 6 xs (.b true)) : Rows.ClassesMoreSaid :=
  OpenClaim.holds_of_wide 6 Try.f6 rfl rfl rfl rfl rfl rfl rfl ⟨rfl, rfl, rfl, rfl, rfl⟩ rfl rfl rfl rfl rfl (by kernel_rfl) Try.func6 (by kernel_rfl)
    (of_decide_eq_true (by kernel_rfl)) (by unfold Func.isWrapper; rw [if_neg (by decide +kernel)]; exact ⟨rfl, rfl⟩)
    (fun os started H enc _ => moreL_lifted hlaw os started H enc)
theorem args7 {p q r s t u v : Bool × List Sh} {xs : List V} (hl : xs.length = [p, q, r, s, t, u, v].length) (h : ∀ (i : Nat) p' x, [p, q, r, s, t, u, v][i]? = some p' → xs[i]? = some x → argOk p' x) : ∃ a b c d e f g, xs = [a, b, c, d, e, f, g] ∧ argOk p a ∧ argOk q b ∧ argOk r c ∧ argOk s d ∧ argOk t e ∧ argOk u f ∧ argOk v g := by
  match xs, hl with
  | [a, b, c, d, e, f, g], _ => exact ⟨a, b, c, d, e, f, g, rfl, h 0 _ _ rfl rfl, h 1 _ _ rfl rfl, h 2 _ _ rfl rfl, h 3 _ _ rfl rfl, h 4 _ _ rfl rfl, h 5 _ _ rfl rfl, h 6 _ _ rfl rfl⟩
end Bf
namespace Go.Proofs.Yteecgmkfbohpjaa
theorem classesMore_said : Rows.ClassesMoreSaid := Bf.moreL_holds fun xs hl h => by
  obtain ⟨a, b, c, d, e, f, g, rfl, ha, hb, hc, hd, he, hf, hg⟩ := Bf.args7 hl h
  obtain ⟨w, rfl⟩ := Bf.dec_world ha
  obtain ⟨s, rfl⟩ := Bf.dec_sup1 hb
  obtain ⟨r, rfl⟩ := Bf.dec_req1 hc
  obtain ⟨n, rfl⟩ := Bf.dec_int hd
  obtain ⟨x, rfl⟩ := Bf.dec_swap1 he
  obtain ⟨m, rfl, hm⟩ := Bf.dec_u8 hf
  obtain ⟨k, rfl, hk⟩ := Bf.dec_u8 hg
  exact Bf.more_c w s r n x m k hm hk
end Go.Proofs.Yteecgmkfbohpjaa
