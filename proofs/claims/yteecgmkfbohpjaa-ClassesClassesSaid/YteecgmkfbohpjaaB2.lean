import Derived.Test.YteecgmkfbohpjaaE17
import Derived.Test.YteecgmkfbohpjaaT22
namespace Bf
open Go Go.RowKit Go.Proofs

/-- Data of a shape, read as a structure's. -/
theorem dec_sl {α : Type} {enc : α → V} {z : Nat} {agg : Bool} {es : List Sh} (h : ∀ ys, Sh.okVs es ys → ∃ a : α, packV agg ys = enc a) {x : V} (hx : Sh.okV (.sl z agg es) x) : ∃ l : List α, x = .l z (l.map enc) := by
  simp only [Sh.okV] at hx
  obtain ⟨xs, rfl, hx⟩ := hx
  have key : ∀ xs : List V, (∀ y ∈ xs, ∃ ys, y = packV agg ys ∧ Sh.okVs es ys) → ∃ l : List α, xs = l.map enc := by
    intro xs
    induction xs with
    | nil => exact fun _ => ⟨[], rfl⟩
    | cons y xs ih =>
      intro hx
      obtain ⟨l, hl⟩ := ih fun z hz => hx z (List.mem_cons_of_mem _ hz)
      obtain ⟨ys, rfl, hy⟩ := hx y (List.mem_cons_self ..)
      obtain ⟨a, ha⟩ := h ys hy
      exact ⟨a :: l, by rw [hl, ha]; rfl⟩
  obtain ⟨l, hl⟩ := key xs hx
  exact ⟨l, by rw [hl]⟩
theorem dec_arg {s : Sh} {x : V} (h : argOk (false, [s]) x) : Sh.okV s x := by
  obtain ⟨ys, rfl, h⟩ := h
  simp only [Sh.okVs] at h
  obtain ⟨y, r, rfl, h, rfl⟩ := h
  exact h
abbrev iS : Sh := .int .i64
abbrev supS : Bool × List Sh := (false, [.sl 6 true [iS, iS, iS, iS, iS, iS]])
abbrev reqS : Bool × List Sh := (false, [.sl 6 true [iS, iS, iS, iS, iS, iS]])
abbrev tabS : Bool × List Sh := (false, [.sl 1 false [.sl 1 false [.bool]]])
abbrev intS : Bool × List Sh := (false, [iS])
theorem dec_supply {x : V} (h : argOk supS x) : ∃ l : List Supply, x = .l 6 (l.map Supply.enc) := dec_sl (fun ys h => by
  simp only [Sh.okVs, Sh.okV] at h
  obtain ⟨_, _, rfl, ⟨n1, rfl, _⟩, _, _, rfl, ⟨n2, rfl, _⟩, _, _, rfl, ⟨n3, rfl, _⟩, _, _, rfl, ⟨n4, rfl, _⟩, _, _, rfl, ⟨n5, rfl, _⟩, _, _, rfl, ⟨n6, rfl, _⟩, rfl⟩ := h
  exact ⟨⟨n1, n2, n3, n4, n5, n6⟩, rfl⟩) (dec_arg h)
theorem dec_request {x : V} (h : argOk reqS x) : ∃ l : List Request, x = .l 6 (l.map Request.enc) := dec_sl (fun ys h => by
  simp only [Sh.okVs, Sh.okV] at h
  obtain ⟨_, _, rfl, ⟨n1, rfl, _⟩, _, _, rfl, ⟨n2, rfl, _⟩, _, _, rfl, ⟨n3, rfl, _⟩, _, _, rfl, ⟨n4, rfl, _⟩, _, _, rfl, ⟨n5, rfl, _⟩, _, _, rfl, ⟨n6, rfl, _⟩, rfl⟩ := h
  exact ⟨⟨n1, n2, n3, n4, n5, n6⟩, rfl⟩) (dec_arg h)
theorem dec_table {x : V} (h : argOk tabS x) : ∃ l : List (List Bool), x = .l 1 (l.map rowE) := dec_sl (fun ys h => by
  simp only [Sh.okVs] at h
  obtain ⟨y, _, rfl, h, rfl⟩ := h
  obtain ⟨l, rfl⟩ := dec_sl (enc := vb) (fun ys h => by
    simp only [Sh.okVs, Sh.okV] at h
    obtain ⟨_, _, rfl, ⟨b, rfl⟩, rfl⟩ := h
    exact ⟨b, rfl⟩) h
  exact ⟨l, rfl⟩) (dec_arg h)
theorem dec_int {x : V} (h : argOk intS x) : ∃ n, x = vi n := by
  have h := dec_arg h
  simp only [Sh.okV] at h
  obtain ⟨n, rfl, _⟩ := h
  exact ⟨n, rfl⟩
abbrev worldS : Bool × List Sh := (true, [.sl 8 true [.str, .str, (.int .i64), (.int .i64), (.int .i64), .bool, .str, .str], .sl 6 true [.str, .str, (.int .i64), (.int .i64), (.int .i64), (.int .i64)], .sl 1 false [.str], .sl 4 true [.str, .str, (.int .i64), (.int .i64)], .sl 2 true [.str, (.sl 1 false [.str])], .sl 1 false [(.sl 4 true [.str, .str, (.int .i64), (.int .i64)])], .sl 17 true [.str, .str, (.int .i64), (.int .i64), (.sl 4 true [.str, .str, (.int .i64), (.int .i64)]), (.sl 7 true [(.int .i64), (.int .i64), .str, .str, .bool, (.int .i64), (.int .i64)]), (.sl 7 true [(.int .i64), (.int .i64), .str, .str, .bool, (.int .i64), (.int .i64)]), (.int .i64), (.int .i64), (.int .i64), (.int .i64), (.int .i64), (.int .i64), (.int .i64), (.sl 3 true [.str, (.int .i64), (.int .i64)]), (.int .i64), (.int .i64)], .sl 4 true [.str, .str, (.int .i64), (.int .i64)], .sl 1 false [(.int .i64)], .sl 1 false [(.sl 6 true [(.int .i64), (.int .i64), (.int .i64), .bool, .str, .str])], .sl 8 true [(.int .i64), (.int .i64), (.int .i64), (.int .i64), (.int .i64), (.int .i64), (.int .i64), (.int .i64)]])
theorem dec_swap {x : V} (h : Sh.okV (.sl 4 true [.str, .str, .int .i64, .int .i64]) x) : ∃ l : List Swap, x = .l 4 (l.map Swap.enc) := dec_sl (fun ys h => by
  simp only [Sh.okVs, Sh.okV] at h
  obtain ⟨_, _, rfl, ⟨n1, rfl⟩, _, _, rfl, ⟨n2, rfl⟩, _, _, rfl, ⟨n3, rfl, _⟩, _, _, rfl, ⟨n4, rfl, _⟩, rfl⟩ := h
  exact ⟨⟨n1, n2, n3, n4⟩, rfl⟩) h
theorem dec_fact {x : V} (h : Sh.okV (.sl 8 true [iS, iS, iS, iS, iS, iS, iS, iS]) x) : ∃ l : List Fact, x = .l 8 (l.map Fact.enc) := dec_sl (fun ys h => by
  simp only [Sh.okVs, Sh.okV] at h
  obtain ⟨_, _, rfl, ⟨n1, rfl, _⟩, _, _, rfl, ⟨n2, rfl, _⟩, _, _, rfl, ⟨n3, rfl, _⟩, _, _, rfl, ⟨n4, rfl, _⟩, _, _, rfl, ⟨n5, rfl, _⟩, _, _, rfl, ⟨n6, rfl, _⟩, _, _, rfl, ⟨n7, rfl, _⟩, _, _, rfl, ⟨n8, rfl, _⟩, rfl⟩ := h
  exact ⟨⟨⟨n1, n2, n3⟩, n4, n5, n6, n7, n8⟩, rfl⟩) h
theorem dec_world {x : V} (h : argOk worldS x) : ∃ w : Wld, x = w.enc := by
  obtain ⟨ys, rfl, h⟩ := h
  unfold Sh.okVs at h; obtain ⟨u0, r0, rfl, _, h⟩ := h
  unfold Sh.okVs at h; obtain ⟨u1, r1, rfl, _, h⟩ := h
  unfold Sh.okVs at h; obtain ⟨u2, r2, rfl, _, h⟩ := h
  unfold Sh.okVs at h; obtain ⟨u3, r3, rfl, _, h⟩ := h
  unfold Sh.okVs at h; obtain ⟨u4, r4, rfl, _, h⟩ := h
  unfold Sh.okVs at h; obtain ⟨u5, r5, rfl, _, h⟩ := h
  unfold Sh.okVs at h; obtain ⟨u6, r6, rfl, _, h⟩ := h
  unfold Sh.okVs at h; obtain ⟨u7, r7, rfl, h7, h⟩ := h
  unfold Sh.okVs at h; obtain ⟨u8, r8, rfl, _, h⟩ := h
  unfold Sh.okVs at h; obtain ⟨u9, r9, rfl, _, h⟩ := h
  unfold Sh.okVs at h; obtain ⟨u10, r10, rfl, h10, h⟩ := h
  unfold Sh.okVs at h
  subst h
  obtain ⟨sw, rfl⟩ := dec_swap h7
  obtain ⟨fa, rfl⟩ := dec_fact h10
  exact ⟨⟨fun i => match i with | 0 => u0 | 1 => u1 | 2 => u2 | 3 => u3 | 4 => u4 | 5 => u5 | 6 => u6, sw, u8, u9, fa⟩, rfl⟩
theorem args2 {p q : Bool × List Sh} {xs : List V} (hl : xs.length = [p, q].length) (h : ∀ (i : Nat) p' x, [p, q][i]? = some p' → xs[i]? = some x → argOk p' x) : ∃ x y, xs = [x, y] ∧ argOk p x ∧ argOk q y := by
  match xs, hl with
  | [x, y], _ => exact ⟨x, y, rfl, h 0 _ _ rfl rfl, h 1 _ _ rfl rfl⟩
theorem args4 {p q r s : Bool × List Sh} {xs : List V} (hl : xs.length = [p, q, r, s].length) (h : ∀ (i : Nat) p' x, [p, q, r, s][i]? = some p' → xs[i]? = some x → argOk p' x) : ∃ x y z u, xs = [x, y, z, u] ∧ argOk p x ∧ argOk q y ∧ argOk r z ∧ argOk s u := by
  match xs, hl with
  | [x, y, z, u], _ => exact ⟨x, y, z, u, rfl, h 0 _ _ rfl rfl, h 1 _ _ rfl rfl, h 2 _ _ rfl rfl, h 3 _ _ rfl rfl⟩
theorem args5 {p q r s t : Bool × List Sh} {xs : List V} (hl : xs.length = [p, q, r, s, t].length) (h : ∀ (i : Nat) p' x, [p, q, r, s, t][i]? = some p' → xs[i]? = some x → argOk p' x) : ∃ x y z u v, xs = [x, y, z, u, v] ∧ argOk p x ∧ argOk q y ∧ argOk r z ∧ argOk s u ∧ argOk t v := by
  match xs, hl with
  | [x, y, z, u, v], _ => exact ⟨x, y, z, u, v, rfl, h 0 _ _ rfl rfl, h 1 _ _ rfl rfl, h 2 _ _ rfl rfl, h 3 _ _ rfl rfl, h 4 _ _ rfl rfl⟩
end Bf
