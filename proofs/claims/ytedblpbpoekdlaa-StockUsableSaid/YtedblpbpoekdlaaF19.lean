/- The engine, part 19: rules that a printed walk leans on. No program is named here. -/
import Derived.Test.YtedblpbpoekdlaaF18
namespace Bf
open Go Go.RowKit

/-! #### Joins -/
def jn {α β : Type} (k : α) (a : α → β) : β := a k
theorem jn_inv {α β : Type} {k : α} {a : α → β} {r : β} (h : jn k a = r) : ∃ j, j = k ∧ a j = r := ⟨k, rfl, h⟩

section
variable {X : Cx} {rd : Option Nat} {P : Program} {σ : St} {Q : Exit → St → Prop}
theorem ev_join {a b : Code} (S : St → Prop) (hb : ∀ σ', S σ' → Ev X rd P b σ' Q) (ha : Ev X rd P a σ (thenQ (fun σ' => ∃ σ0, S σ0 ∧ Shift X σ' σ0) Q)) : Ev X rd P (.seq a b) σ Q := by
  refine ev_seq (ev_mono ha fun e σ' h => ?_)
  cases e <;> try exact h
  obtain ⟨σ0, h1, h2⟩ := h
  exact ev_shift h2 (hb σ0 h1)
theorem ev_len_l {s z : Nat} {f : Bool} {xs : List V} {c : Code} (hs : σ.fr s = some (.v f (.l z xs))) (h : xs.length ≤ maxLen → Ev X rd P c σ Q) : Ev X rd P c σ Q := fun C I a w hC hh =>
  h (VRep.len_le (hh.fr s _ hs).v_inv) C I a w hC hh
theorem ev_len_o {s k i z off len : Nat} {pl : Pl} {c : Code} (hs : σ.fr s = some (.o k i pl z off len)) (h : len ≤ maxLen → Ev X rd P c σ Q) : Ev X rd P c σ Q := fun C I a w hC hh =>
  h (by
    rcases (hh.fr s _ hs).o_inv with ⟨_, _, h3, _⟩ | ⟨_, _, cap, _, _, h1, h2, _⟩
    · omega
    · omega) C I a w hC hh
theorem ev_os {s k i z off len : Nat} {pl : Pl} {c : Code} (hs : σ.fr s = some (.o k i pl z off len)) (hl : 0 < len) (h : ∀ b n, pl = some (b, n) → Ev X rd P c σ Q) : Ev X rd P c σ Q := fun C I a w hC hh => by
  rcases (hh.fr s _ hs).o_inv with ⟨_, _, h3, _⟩ | ⟨b, n, _, h1, _, _, _, _⟩
  · omega
  · exact h b n h1 C I a w hC hh
theorem run_os {s k i z off len : Nat} {pl : Pl} {ops : Array Oper} {rest : List Oper} (hs : σ.fr s = some (.o k i pl z off len)) (hl : 0 < len) (h : ∀ b n, pl = some (b, n) → RunS X rd P ops rest σ Q) : RunS X rd P ops rest σ Q := fun C I a w hC hh => by
  rcases (hh.fr s _ hs).o_inv with ⟨_, _, h3, _⟩ | ⟨b, n, _, h1, _, _, _, _⟩
  · omega
  · exact h b n h1 C I a w hC hh
end

theorem wrap64 {n : Int} (h1 : -9223372036854775808 ≤ n) (h2 : n ≤ 9223372036854775807) : IntKind.i64.wrap n = n := by
  rw [IntKind.wrap_i64]; omega
theorem wrap_succ {k : Nat} {n : Nat} (h : k < n) (hn : n ≤ maxLen) : IntKind.i64.wrap ((k : Int) + 1) = ((k + 1 : Nat) : Int) := by
  have hm : maxLen = 2 ^ 63 - 1 := by rfl
  rw [wrap64 (by omega) (by omega)]; omega
theorem wrap_succ' {i hi : Int} (h0 : -9223372036854775808 ≤ i) (h : i < hi) (hn : hi ≤ 9223372036854775807) : IntKind.i64.wrap (i + 1) = i + 1 := wrap64 (by omega) (by omega)

/-! #### Quiet rules -/
section
variable {P : Program} {hp : Hp} {ev : Operand → Option D} {dst : Option Nat} {t tt ty : TypeId} {pos : String} {af : Array Edge} {g : Option (Nat × Bool)} {x y c : Operand} {d : D} {f f1 f2 : Bool}
theorem Quiet.wk {o : Oper} {d' : D} (h : Quiet P hp ev o d') (hw : Wk d' d) : Quiet P hp ev o d :=
  ⟨h.1, fun C I w ρ hw' hρ => by
    have := h.2 C I w ρ hw' hρ
    generalize (execOp ρ o).run P w = r at this ⊢
    cases r with
    | halt x w' => exact this
    | ok n w' =>
      cases n <;> try exact this
      case value v => obtain ⟨hk, I', h1, h2, hd⟩ := this; exact ⟨hk, I', h1, h2, hw _ _ _ _ hd⟩
      case enter f args =>
        obtain ⟨he, hc⟩ := this
        refine ⟨he, hc.mono ?_⟩
        rintro e w'' ⟨v, rfl, hk, I', h1, h2, hd⟩
        exact ⟨v, rfl, hk, I', h1, h2, hw _ _ _ _ hd⟩⟩
theorem q_nilq {ys : List V} (hx : ev x = some (.v f (.q ys))) : Quiet P hp ev ⟨dst, .nilCheck x, tt, pos, af, g⟩ (.v f (.q ys)) :=
  Quiet.of ⟨rfl, fun C I w ρ _ hρ => by
    have h0 := hρ x (by simp [Op.operands]) _ hx
    obtain ⟨b, o, vs, h1, _⟩ := h0.v_inv.q_inv
    rw [h1] at h0
    simp only [execOp, h1]
    exact ⟨rfl, h0⟩⟩
theorem q_extractD {xs : List D} {i : Nat} (hx : ev x = some (.t xs)) (hz : xs[i]? = some d) : Quiet P hp ev ⟨dst, .extract x i, tt, pos, af, g⟩ d :=
  Quiet.of ⟨rfl, fun C I w ρ _ hρ => by
    have h0 := hρ x (by simp [Op.operands]) _ hx
    generalize hu : ρ x = u at h0
    cases h0 with
    | t _ vs hl h =>
      have hlt : i < vs.length := by rw [← hl]; exact (List.getElem?_eq_some_iff.1 hz).1
      have he : vs[i]? = some vs[i] := List.getElem?_eq_getElem hlt
      have he' : vs.toArray[i]? = some vs[i] := by simp
      simp only [execOp, hu, Instr.extract, he', Sem.run_bind, Sem.run_pure, Result.andThen_ok]
      exact ⟨rfl, h _ _ _ hz he⟩⟩

/-! #### Typed elements of own rows -/
variable {α : Type} {E : α → V} {z : Nat}
theorem q_load_el {k i b n e j ty' : Nat} {xs : List α} {a : α} {c : V} [ha : TAgg P t false] (hz : ∀ x, (V.cells (E x)).length = z) (hx : ev x = some (.p k i b (0 + e * z + j))) (hk : hp k i = some (some (b, n), .row ty' (els f (xs.map E)))) (ha' : xs[e]? = some a) (hc : (V.cells (E a))[j]? = some c) :
    Quiet P hp ev ⟨dst, .load t x, tt, pos, af, g⟩ (.v f c) := q_load1 hx hk (by rw [Nat.zero_add]; exact els_get f hz ha' hc)
theorem q_load_el0 {k i b n e ty' : Nat} {xs : List α} {a : α} [ha : TAgg P t false] (hz : ∀ x, V.cells (E x) = [E x]) (hx : ev x = some (.p k i b (0 + e * 1))) (hk : hp k i = some (some (b, n), .row ty' (els f (xs.map E)))) (ha' : xs[e]? = some a) :
    Quiet P hp ev ⟨dst, .load t x, tt, pos, af, g⟩ (.v f (E a)) := q_load1 hx hk (by rw [Nat.zero_add]; exact els_get (z := 1) (j := 0) f (fun x => by rw [hz x]; rfl) ha' (by rw [hz a]; rfl))
theorem q_load_ee {k i b n e ty' : Nat} {xs : List α} {a : α} [ha : TAgg P t true] [hs : TSz P t z] (hz : ∀ x, (V.cells (E x)).length = z ∧ (E x).isSt = true) (hne : Nat.blt 0 z = true) (hx : ev x = some (.p k i b (0 + e * z))) (hk : hp k i = some (some (b, n), .row ty' (els f (xs.map E)))) (ha' : xs[e]? = some a) :
    Quiet P hp ev ⟨dst, .load t x, tt, pos, af, g⟩ (.v f (E a)) := q_loadE hx hk (by rw [Nat.zero_add]; exact els_seg f (fun x => (hz x).1) ha') (hz a).2 (hz a).1 hne
end

section
variable {P : Program} {N : Rm} {σ : St} {dst : Nat} {t tt : TypeId} {pos : String} {af : Array Edge} {g : Option (Nat × Bool)} {x y : Operand} {d : D} {f f1 f2 : Bool}
variable {α : Type} {E : α → V} {z : Nat}
/-- 'append' to a slice of the call's own, of typed data. -/
theorem e_appt {k i e bytes : Nat} {zv : Value} {pl : Pl} {xs ys zs : List α} [ht : TSl P t e] [hz : TSz P e z] [hzv : TZero P e zv] [hby : TBytes P e bytes]
    (hx : σ.ev x = some (.o k i pl z 0 xs.length)) (hk : σ.hp k i = some (pl, .row e (els f (xs.map E)))) (hy : σ.ev y = some (.v f (.l z (ys.map E)))) (hE : ∀ x, (E x).plain = true ∧ (V.cells (E x)).length = z) (he : xs ++ ys = zs) (hz1 : oneAll zv = true) (hzs : zv.cells.size = z)
    (hb : (xs.length + ys.length) * (bytes + 1) ≤ 140737488355328) (hN : N.can dst = true) :
    Eff P N ⟨some dst, .call { callee := .builtin .append, args := #[x, y], argTypes := #[t, t] }, tt, pos, af, g⟩ σ (grew σ dst k i e z zs.length (els f (zs.map E))) := by
  subst he
  have h1 : xs.length * z = (els f (xs.map E)).length := (els_len f fun x => (hE x).2).symm
  have := e_append (P := P) (N := N) (t := t) (tt := tt) (pos := pos) (af := af) (g := g) (dst := dst) (m := (ys.map E).length) (cs := els f (ys.map E)) hx hk h1 hy (.l f _ (els_plain hE)) hz1 hzs (by simpa using hb) hN
  rw [els_app, List.length_map, ← List.length_append] at this
  exact this
theorem e_appt_nil {e bytes : Nat} {zv : Value} {ys : List α} (k i : Nat) [ht : TSl P t e] [hz : TSz P e z] [hzv : TZero P e zv] [hby : TBytes P e bytes]
    (hx : σ.ev x = some (.v f1 (.raw (.slice none 0 0)))) (hy : σ.ev y = some (.v f (.l z (ys.map E)))) (hE : ∀ x, (E x).plain = true ∧ (V.cells (E x)).length = z) (hz1 : oneAll zv = true) (hzs : zv.cells.size = z)
    (hb : ys.length * (bytes + 1) ≤ 140737488355328) (hN : N.can dst = true) :
    Eff P N ⟨some dst, .call { callee := .builtin .append, args := #[x, y], argTypes := #[t, t] }, tt, pos, af, g⟩ σ (grew σ dst k i e z ys.length (els f (ys.map E))) := by
  have := e_append_nil (P := P) (N := N) (t := t) (tt := tt) (pos := pos) (af := af) (g := g) (dst := dst) (m := (ys.map E).length) (cs := els f (ys.map E)) k i hx hy (.l f _ (els_plain hE)) (fun _ _ _ => .inr trivial) hz1 hzs (by simpa using hb) hN
  rw [List.length_map] at this
  exact this
theorem e_maket {e bytes : Nat} {zv : Value} {n : Nat} {k1 k2 : IntKind} {x0 : α} (k i : Nat) [ht : TSl P t e] [hz : TSz P e z] [hzv : TZero P e zv] [hby : TBytes P e bytes] (h1 : oneAll zv = true) (hzs : zv.cells.size = z)
    (hx : σ.ev x = some (.v f1 (.i k1 (n : Nat)))) (hy : σ.ev y = some (.v f2 (.i k2 (n : Nat)))) (hb : n * (bytes + 1) ≤ 281474976710656) (hN : N.can dst = true) (h0 : zeroE zv = E x0) :
    Eff P N ⟨some dst, .makeSlice t x y, tt, pos, af, g⟩ σ (laid σ dst k i (n * z) (.row e (els true ((List.replicate n x0).map E))) (fun b => .o k i (some (b, n * z)) z 0 (List.replicate n x0).length)) := by
  have := e_make (P := P) (N := N) (t := t) (tt := tt) (pos := pos) (af := af) (g := g) (dst := dst) k i h1 hzs hx hy hb hN
  rw [h0, els_rep] at this
  rw [List.length_replicate]
  exact this
/-- A whole element is turned. -/
theorem e_store_ee {k i b n e ty' : Nat} {xs : List α} {a : α} {dd : Option Nat} [hz : TSz P t z] (hx : σ.ev x = some (.p k i b (0 + e * z))) (hk : σ.hp k i = some (some (b, n), .row ty' (els f (xs.map E)))) (hE : ∀ x, (E x).plain = true ∧ (V.cells (E x)).length = z) (hlt : e < xs.length) (hy : σ.ev y = some (.v f (E a))) (hd : dd = none) :
    Eff P N ⟨dd, .store t x y, tt, pos, af, g⟩ σ (fun σ' => σ' = σ.setH k i (some (some (b, n), .row ty' (els f ((xs.set e a).map E))))) := by
  have hl : (els f (xs.map E)).length = xs.length * z := els_len f fun x => (hE x).2
  have hle : e * z + z ≤ xs.length * z := by have := Nat.mul_le_mul_right z (show e + 1 ≤ xs.length from hlt); rwa [Nat.add_mul, Nat.one_mul] at this
  have := e_store (P := P) (N := N) (t := t) (tt := tt) (pos := pos) (af := af) (g := g) (dd := dd) (z := z) hx hk hy (hE a).1 (by simp [D.cells, cellsD, (hE a).2]) (by rw [hl]; omega) hd
  rw [Nat.zero_add] at this
  rw [← els_splice f (fun x => (hE x).2) a hlt]
  exact this
/-- One cell of an element is turned. -/
theorem e_store_ef {k i b n e j ty' : Nat} {xs : List α} {a a' : α} {c : V} {dd : Option Nat} [hz : TSz P t 1] (hx : σ.ev x = some (.p k i b (0 + e * z + j))) (hk : σ.hp k i = some (some (b, n), .row ty' (els f (xs.map E)))) (hE : ∀ x, (E x).plain = true ∧ (V.cells (E x)).length = z) (ha : xs[e]? = some a) (hy : σ.ev y = some (.v f c)) (hpl : c.plain = true) (hc : V.cells c = [c])
    (hj : j < z) (hs : (V.cells (E a)).set j c = V.cells (E a')) (hd : dd = none) :
    Eff P N ⟨dd, .store t x y, tt, pos, af, g⟩ σ (fun σ' => σ' = σ.setH k i (some (some (b, n), .row ty' (els f ((xs.set e a').map E))))) := by
  have hlt : e < xs.length := (List.getElem?_eq_some_iff.1 ha).1
  have hl : (els f (xs.map E)).length = xs.length * z := els_len f fun x => (hE x).2
  have hle : e * z + z ≤ xs.length * z := by have := Nat.mul_le_mul_right z (show e + 1 ≤ xs.length from hlt); rwa [Nat.add_mul, Nat.one_mul] at this
  have := e_store1 (P := P) (N := N) (t := t) (tt := tt) (pos := pos) (af := af) (g := g) (dd := dd) hx hk hy hpl (by simp [D.cells, cellsD, hc]) (by rw [hl]; omega) hd
  rw [Nat.zero_add] at this
  rw [← els_splice f (fun x => (hE x).2) a' hlt, show splice (els f (xs.map E)) (e * z) (cellsD f (E a')) = (els f (xs.map E)).set (e * z + j) (.v f c) from ?_]
  · exact this
  · have hseg := els_seg f (fun x => (hE x).2) ha
    have hcz : (V.cells (E a)).length = z := (hE a).2
    refine List.ext_getElem? fun m => ?_
    have hlen' : (cellsD f (E a')).length = z := by simp [cellsD, (hE a').2]
    rw [splice_get (by rw [hlen', hl]; exact hle), List.getElem?_set, hlen']
    by_cases h1 : m < e * z
    · rw [if_pos h1, if_neg (by omega)]
    · rw [if_neg h1]
      by_cases h2 : m < e * z + z
      · rw [if_pos h2]
        have hcd : cellsD f (E a') = (cellsD f (E a)).set j (.v f c) := by simp only [cellsD, ← hs, List.map_set]
        have hcl : (cellsD f (E a)).length = z := by simp [cellsD, hcz]
        rw [hcd, List.getElem?_set]
        by_cases h3 : j = m - e * z
        · rw [if_pos h3, if_pos (by omega), if_pos (by omega), if_pos (by omega)]
        · rw [if_neg h3, if_neg (by omega), ← hseg, List.getElem?_take, if_pos (by omega), List.getElem?_drop]; congr 1; omega
      · rw [if_neg h2, if_neg (by omega)]
end

/-! #### A nil slice within data is the empty list -/
mutual
/-- Where one has nil, the other has the empty list. -/
inductive NilLe : V → V → Prop
  | refl (x : V) : NilLe x x
  | nil (z : Nat) : NilLe (.raw (.slice none 0 0)) (.l z [])
  | st {xs ys : List V} (h : NilLes xs ys) : NilLe (.st xs) (.st ys)
  | l (z : Nat) {xs ys : List V} (h : NilLes xs ys) : NilLe (.l z xs) (.l z ys)
inductive NilLes : List V → List V → Prop
  | nil : NilLes [] []
  | cons {x y : V} {xs ys : List V} (h : NilLe x y) (t : NilLes xs ys) : NilLes (x :: xs) (y :: ys)
end
theorem NilLes.len : ∀ {xs ys : List V}, NilLes xs ys → xs.length = ys.length
  | _, _, .nil => rfl
  | _, _, .cons _ t => by simp [t.len]
theorem NilLes.get : ∀ {xs ys : List V}, NilLes xs ys → ∀ {i : Nat} {y : V}, ys[i]? = some y → ∃ x, xs[i]? = some x ∧ NilLe x y
  | _, _, .nil, i, y, h => by simp at h
  | _, _, .cons h t, 0, y, hy => by simp at hy; subst hy; exact ⟨_, rfl, h⟩
  | _, _, .cons h t, i + 1, y, hy => by
    obtain ⟨x, h1, h2⟩ := t.get (i := i) (by simpa using hy)
    exact ⟨x, by simpa using h1, h2⟩
theorem NilLe.rep {w : World} {I : Nat → Prop} {x y : V} {v : Value} (h : VRep w I x v) (hn : NilLe x y) : VRep w I y v := by
  induction h generalizing y with
  | raw v h =>
    cases hn with
    | refl => exact .raw v h
    | nil z => exact .nil_slice z
  | st xs vs hl h1 h ih =>
    cases hn with
    | refl => exact .st xs vs hl h1 h
    | st hs => exact .st _ vs (hs.len ▸ hl) h1 fun i x v hx hv => by obtain ⟨x', h2, h3⟩ := hs.get hx; exact ih i x' v h2 hv h3
  | l z xs A c hc hm val b o hA h hz hcell ih =>
    cases hn with
    | refl => exact .l z xs A c hc hm val b o hA h hz hcell
    | l _ hs =>
      rw [hs.len]
      refine .l z _ A c (hs.len ▸ hc) hm val b o (fun hp => hA (hs.len ▸ hp)) (fun i x hx => ?_) (fun i x hx => ?_) (fun i j x u hx hu => ?_)
      · obtain ⟨x', h2, h3⟩ := hs.get hx; exact ih i x' h2 h3
      · obtain ⟨x', h2, _⟩ := hs.get hx; exact hz i x' h2
      · obtain ⟨x', h2, _⟩ := hs.get hx; exact hcell i j x' u h2 hu
  | b x => cases hn; exact .b x
  | i k n => cases hn; exact .i k n
  | s x => cases hn; exact .s x
  | t xs vs hl h ih => cases hn; exact .t xs vs hl h
  | q xs vs b o hl h1 hI h hcell ih => cases hn; exact .q xs vs b o hl h1 hI h hcell
  | c f caps vs hl h ih => cases hn; exact .c f caps vs hl h

theorem Wk.nilLe {f : Bool} {x y : V} (h : NilLe x y) : Wk (.v f x) (.v f y) := fun _ _ _ _ hd => .v _ _ _ (h.rep hd.v_inv)
theorem Wk.flat {f f' : Bool} {x : V} (h : x.flatB = true) : Wk (.v f x) (.v f' x) := fun _ _ _ _ hd => .v _ _ _ (hd.v_inv.flat h)
theorem Wk.trans {a b c : D} (h : Wk a b) (h' : Wk b c) : Wk a c := fun w I base v hd => h' w I base v (h w I base v hd)

theorem gdcd_inv {β : Type} {c : Bool} {p : Prop} [Decidable p] {k : Option β} {r : β} (h : gdc c (decide p) k = some r) : (c = true → p) ∧ k = some r := by
  obtain ⟨h1, h2⟩ := gdc_inv h; exact ⟨fun hc => by simpa using h1 hc, h2⟩
theorem Snap.qv {hp : Hp} {f fl : Bool} {k i b n off ty : Nat} {xs : List D} {ys : List V} (hk : hp k i = some (some (b, n), .row ty xs)) (hd : (xs.drop off).take ys.length = ys.map (D.v f)) (hf : fl = true → f = true) : Snap hp fl (.p k i b off) (.q ys) :=
  .q k i b n off ty xs _ ys hk hd (by simp) fun j d c h1 h2 => by
    rw [List.getElem?_map, h2] at h1
    cases h1
    exact .v f c hf
section
variable {P : Program} {hp : Hp} {ev : Operand → Option D} {dst : Option Nat} {t tt ty : TypeId} {pos : String} {af : Array Edge} {g : Option (Nat × Bool)} {x y c : Operand} {d : D} {f f1 f2 : Bool}
theorem q_len_t {α : Type} {E : α → V} {el z : Nat} {xs : List α} [ht : TSl P t el] (hx : ev x = some (.v f (.l z (xs.map E)))) : Quiet P hp ev ⟨dst, .call { callee := .builtin .len, args := #[x], argTypes := #[t] }, tt, pos, af, g⟩ (.v true (.i .i64 (xs.length : Nat))) := by
  have := q_len_l (P := P) (hp := hp) (dst := dst) (tt := tt) (pos := pos) (af := af) (g := g) (t := t) hx
  rwa [List.length_map] at this
end
section
variable {P : Program} {hp : Hp} {ev : Operand → Option D} {dst : Option Nat} {t tt ty : TypeId} {pos : String} {af : Array Edge} {g : Option (Nat × Bool)} {x y c : Operand} {d : D} {f f1 f2 : Bool}
theorem q_slice_t {α : Type} {E : α → V} {e z l h : Nat} {xs : List α} {lo hi : Option Operand} [ht : TSl P t e] [hz : TSz P e z] (hx : ev x = some (.v f (.l z (xs.map E)))) (hl : Bd ev 0 lo l) (hh : Bd ev xs.length hi h) (h1 : l ≤ h ∧ h ≤ xs.length) :
    Quiet P hp ev ⟨dst, .slice t x lo hi none, tt, pos, af, g⟩ (.v f (.l z (((xs.take h).drop l).map E))) := by
  have := q_slice (P := P) (hp := hp) (dst := dst) (tt := tt) (pos := pos) (af := af) (g := g) (t := t) hx hl (by rw [List.length_map]; exact hh) h1.1 (by rw [List.length_map]; exact h1.2)
  rw [← List.map_take, ← List.map_drop] at this
  exact this
theorem q_slice_t0 {α : Type} {E : α → V} {e z l : Nat} {xs : List α} {lo : Option Operand} [ht : TSl P t e] [hz : TSz P e z] (hx : ev x = some (.v f (.l z (xs.map E)))) (hl : Bd ev 0 lo l) (h1 : l ≤ xs.length) :
    Quiet P hp ev ⟨dst, .slice t x lo none none, tt, pos, af, g⟩ (.v f (.l z ((xs.drop l).map E))) := by
  have := q_slice_t (P := P) (hp := hp) (dst := dst) (tt := tt) (pos := pos) (af := af) (g := g) (t := t) hx hl .none ⟨h1, Nat.le_refl _⟩
  rw [List.take_length] at this
  exact this
end
end Bf
