/- The engine, part 8: slices of the call's own: built, made, appended to, written into; freezing. No program is named here. -/
import Derived.Test.YteecgmkfbohpjaaE7
import Derived.Maps.AppendAt
namespace Bf
open Go Go.RowKit

/-! #### Elements, cell by cell -/
theorem Elems.at_ {w : World} {I : Nat → Prop} {z : Nat} {xs : List V} {cells : List Value} (h : Elems w I z xs cells) {i : Nat} {x : V} (hx : xs[i]? = some x) :
    x.plain = true ∧ ∃ u : Value, VRep w I x u ∧ u.cells.size = z ∧ ∀ j, j < z → cells[i * z + j]? = u.cells.toList[j]? := by
  obtain ⟨h1, u, h2, h3⟩ := h.2 i x hx
  have hi : i < xs.length := (List.getElem?_eq_some_iff.1 hx).1
  have hle : (i + 1) * z ≤ xs.length * z := Nat.mul_le_mul_right _ hi
  rw [Nat.add_mul] at hle
  have hlen : u.cells.toList.length = z := by rw [h3, List.length_take, List.length_drop, h.1]; omega
  refine ⟨h1, u, h2, by simpa using hlen, fun j hj => ?_⟩
  rw [h3, List.getElem?_take, if_pos hj, List.getElem?_drop]

theorem Elems.of_ {w : World} {I : Nat → Prop} {z : Nat} {xs : List V} {cells : List Value} (hl : cells.length = xs.length * z)
    (h : ∀ (i : Nat) x, xs[i]? = some x → x.plain = true ∧ ∃ u : Value, VRep w I x u ∧ u.cells.size = z ∧ ∀ j, j < z → cells[i * z + j]? = u.cells.toList[j]?) : Elems w I z xs cells := by
  refine ⟨hl, fun i x hx => ?_⟩
  obtain ⟨h1, u, h2, h3, h4⟩ := h i x hx
  refine ⟨h1, u, h2, ?_⟩
  apply List.ext_getElem?
  intro j
  have h3' : u.cells.toList.length = z := by simpa using h3
  by_cases hj : j < z
  · rw [List.getElem?_take, if_pos hj, List.getElem?_drop, h4 j hj]
  · rw [List.getElem?_eq_none (by omega), List.getElem?_take, if_neg hj]

theorem Elems.append {w : World} {I : Nat → Prop} {z : Nat} {xs ys : List V} {cs ds : List Value} (h : Elems w I z xs cs) (h' : Elems w I z ys ds) : Elems w I z (xs ++ ys) (cs ++ ds) := by
  refine .of_ (by simp [h.1, h'.1, Nat.add_mul]) (fun i x hx => ?_)
  by_cases hi : i < xs.length
  · rw [List.getElem?_append_left hi] at hx
    obtain ⟨h1, u, h2, h3, h4⟩ := h.at_ hx
    refine ⟨h1, u, h2, h3, fun j hj => ?_⟩
    have hle : (i + 1) * z ≤ xs.length * z := Nat.mul_le_mul_right _ hi
    rw [Nat.add_mul] at hle
    rw [List.getElem?_append_left (by rw [h.1]; omega)]
    exact h4 j hj
  · rw [List.getElem?_append_right (by omega)] at hx
    obtain ⟨h1, u, h2, h3, h4⟩ := h'.at_ hx
    refine ⟨h1, u, h2, h3, fun j hj => ?_⟩
    have hge : xs.length * z ≤ i * z := Nat.mul_le_mul_right _ (by omega)
    rw [List.getElem?_append_right (by rw [h.1]; omega), h.1, ← h4 j hj, Nat.sub_mul]
    congr 1
    omega

theorem fresh_and {f f2 : Bool} {I : Nat → Prop} {base b : Nat} (h : fresh f I base b) : fresh (f && f2) I base b := ⟨h.1, fun e => h.2 (by simp at e; exact e.1)⟩
theorem fresh_and' {f f2 : Bool} {I : Nat → Prop} {base b : Nat} (h : fresh f2 I base b) : fresh (f && f2) I base b := ⟨h.1, fun e => h.2 (by simp at e; exact e.2)⟩

theorem seg_set {α : Type} (off : Nat) : ∀ (ys : List α) (n : Nat) (xs : List α), off + n + ys.length ≤ xs.length →
    (ys.zipIdx n).foldl (fun cs p => cs.set (off + p.2) p.1) xs = xs.take (off + n) ++ ys ++ xs.drop (off + n + ys.length)
  | [], n, xs, _ => by simp
  | y :: ys, n, xs, h => by
    simp only [List.zipIdx_cons, List.foldl_cons]
    rw [seg_set off ys (n + 1) (xs.set (off + n) y) (by simp at h ⊢; omega)]
    apply List.ext_getElem?
    intro j
    simp at h
    by_cases h1 : j < off + n
    · simp [List.getElem?_append, h1, show j < off + (n + 1) by omega, show ¬ off + n = j by omega, List.length_take, show off + n ≤ xs.length by omega, show off + (n + 1) ≤ xs.length by omega]
    · by_cases h2 : j = off + n
      · subst h2
        simp [List.getElem?_append, List.length_take, show off + n ≤ xs.length by omega, show off + (n + 1) ≤ xs.length by omega, show off + n < off + (n + 1) by omega]
      · have h3 : j - (off + n) = (j - (off + (n + 1))) + 1 := by omega
        simp [List.getElem?_append, List.length_take, show off + n ≤ xs.length by omega, show off + (n + 1) ≤ xs.length by omega, show ¬ j < off + (n + 1) by omega, h1, h3]
        by_cases h4 : j - (off + (n + 1)) < ys.length
        · simp [h4]
        · rw [if_neg (by omega), if_neg (by omega), List.getElem?_set_ne (by omega)]
          congr 1
          omega

/-- The elements of a literal, in order. -/
inductive ElsOk (ev : Operand → Option D) (z : Nat) : Nat → List (Nat × Operand) → Bool → List V → Prop
  | nil {n : Nat} : ElsOk ev z n [] true []
  | v {n : Nat} {a : Operand} {as : List (Nat × Operand)} {f fl : Bool} {x : V} {xs : List V} (h : ev a = some (.v f x)) (hpl : x.plain = true) (hz : (V.cells x).length = z) (t : ElsOk ev z (n + 1) as fl xs) : ElsOk ev z n ((n, a) :: as) (f && fl) (x :: xs)
  | s {n : Nat} {a : Operand} {as : List (Nat × Operand)} {f fl : Bool} {xs : List V} (z' : Nat) (h : ev a = some (.v f (.raw (.slice none 0 0)))) (hz : z = 1) (t : ElsOk ev z (n + 1) as fl xs) : ElsOk ev z n ((n, a) :: as) (f && fl) (.l z' [] :: xs)

theorem VRep.cells_size {w : World} {I : Nat → Prop} {x : V} {v : Value} (h : VRep w I x v) (hp : x.plain = true) : v.cells.size = (V.cells x).length := by
  have := (h.cells hp).1.1
  simpa using this.symm

theorem Elems.one {w : World} {I : Nat → Prop} {x : V} {v : Value} (h : VRep w I x v) (hp : x.plain = true) : Elems w I (V.cells x).length [x] v.cells.toList := by
  have hs := h.cells_size hp
  refine .of_ (by simp [hs]) (fun i y hy => ?_)
  cases i with
  | succ i => simp at hy
  | zero => simp at hy; subst hy; exact ⟨hp, v, h, hs, fun j _ => by simp⟩

theorem Elems.nil {w : World} {I : Nat → Prop} (z : Nat) : Elems w I z [] [] := ⟨by simp, fun i x h => by simp at h⟩

theorem fill_els {w : World} {C : Ctx} {φ : Phi} {I : Nat → Prop} {ρ : Operand → Value} {ev : Operand → Option D} {z n : Nat} {parts : List (Nat × Operand)} {fl : Bool} {xs : List V} (h : ElsOk ev z n parts fl xs)
    (hρ : ∀ x ∈ parts.map (·.2), ∀ d', ev x = some d' → DRep w I C.base φ d' (ρ x)) : ∀ (cs : List Value), (n + xs.length) * z ≤ cs.length →
    ∃ news : List Value, Instr.fill (fun i => some (i * z, z)) cs.toArray (parts.map fun p => (p.1, ρ p.2)) = some (cs.take (n * z) ++ news ++ cs.drop ((n + xs.length) * z)).toArray ∧
      Elems w (fresh fl I C.base) z xs news ∧ ∀ v ∈ news, v.oneCell' = true := by
  have step : ∀ {n : Nat} {a : Operand} {as : List (Nat × Operand)} {f fl : Bool} {x : V} {xs : List V}, VRep w (fresh f I C.base) x (ρ a) → x.plain = true → (V.cells x).length = z →
      (∀ cs : List Value, (n + 1 + xs.length) * z ≤ cs.length → ∃ news : List Value, Instr.fill (fun i => some (i * z, z)) cs.toArray (as.map fun p => (p.1, ρ p.2)) = some (cs.take ((n + 1) * z) ++ news ++ cs.drop ((n + 1 + xs.length) * z)).toArray ∧
        Elems w (fresh fl I C.base) z xs news ∧ ∀ v ∈ news, v.oneCell' = true) →
      ∀ cs : List Value, (n + (xs.length + 1)) * z ≤ cs.length → ∃ news : List Value, Instr.fill (fun i => some (i * z, z)) cs.toArray (((n, a) :: as).map fun p => (p.1, ρ p.2)) = some (cs.take (n * z) ++ news ++ cs.drop ((n + (xs.length + 1)) * z)).toArray ∧
        Elems w (fresh (f && fl) I C.base) z (x :: xs) news ∧ ∀ v ∈ news, v.oneCell' = true := by
    intro n a as f fl x xs hx hpl hz ih cs hle
    have hsz : (ρ a).cells.size = z := (hx.cells_size hpl).trans hz
    have hn : (n + 1) * z ≤ (n + (xs.length + 1)) * z := Nat.mul_le_mul_right _ (by omega)
    have hn1 : (n + 1) * z = n * z + z := by rw [Nat.add_mul, Nat.one_mul]
    have e0 : (n + 1 + xs.length) = (n + (xs.length + 1)) := by omega
    have hseg := seg_set (n * z) (ρ a).cells.toList 0 cs (by simp [hsz]; omega)
    simp only [Nat.add_zero] at hseg
    obtain ⟨news, h1, h2, h3⟩ := ih (cs.take (n * z) ++ (ρ a).cells.toList ++ cs.drop (n * z + (ρ a).cells.toList.length)) (by simp [hsz, e0]; omega)
    refine ⟨(ρ a).cells.toList ++ news, ?_, ?_, ?_⟩
    · simp only [List.map_cons, Instr.fill]
      rw [if_neg (by simp [hsz]; omega)]
      have harr : ((ρ a).cells.zipIdx.foldl (fun cs p => cs.setIfInBounds (n * z + p.2) p.1) cs.toArray) = (cs.take (n * z) ++ (ρ a).cells.toList ++ cs.drop (n * z + (ρ a).cells.toList.length)).toArray := by
        apply Array.ext'
        rw [← Array.foldl_toList, foldl_set_toList, Array.toList_zipIdx]
        exact hseg
      rw [harr, h1]
      congr 2
      have hl1 : (cs.take (n * z)).length = n * z := by simp; omega
      have hl2 : (ρ a).cells.toList.length = z := by simpa using hsz
      rw [e0]
      have t1 : (cs.take (n * z) ++ (ρ a).cells.toList ++ cs.drop (n * z + (ρ a).cells.toList.length)).take ((n + 1) * z) = cs.take (n * z) ++ (ρ a).cells.toList := by
        rw [List.take_append_of_le_length (by simp [hl1, hl2, hn1]), List.take_of_length_le (by simp [hl1, hl2, hn1])]
      have t2 : (cs.take (n * z) ++ (ρ a).cells.toList ++ cs.drop (n * z + (ρ a).cells.toList.length)).drop ((n + (xs.length + 1)) * z) = cs.drop ((n + (xs.length + 1)) * z) := by
        rw [List.drop_append, List.drop_eq_nil_of_le (by simp [hl1, hl2]; omega), List.nil_append, List.drop_drop]
        congr 1
        simp only [List.length_append, hl1, hl2]
        omega
      rw [t1, t2]
      simp [List.append_assoc]
    · have h5 := (Elems.one (hx.mono (fun _ _ => rfl) (fun b hb => fresh_and (f2 := fl) hb)) hpl)
      rw [hz] at h5
      exact h5.append (h2.mono (fun _ _ => rfl) (fun b hb => fresh_and' hb))
    · intro v hv
      rcases List.mem_append.1 hv with hv | hv
      · exact (hx.cells hpl).2 v hv
      · exact h3 v hv
  induction h with
  | nil => intro cs hle; exact ⟨[], by simp [Instr.fill], .nil z, by simp⟩
  | v h hpl hz t ih =>
    exact step (hρ _ (by simp) _ h).v_inv hpl hz (ih (fun y hy => hρ y (by simp only [List.map_cons]; exact List.mem_cons_of_mem _ hy)))
  | s z' h hz t ih =>
    have h1 := ((hρ _ (by simp) _ h).v_inv.raw_inv).1
    exact step (by rw [h1]; exact .nil_slice z') rfl (by rw [hz]; rfl) (ih (fun y hy => hρ y (by simp only [List.map_cons]; exact List.mem_cons_of_mem _ hy)))

section
variable {P : Program} {N : Rm} {σ : St} {dst : Nat} {t tt ty : TypeId} {pos : String} {af : Array Edge} {g : Option (Nat × Bool)} {x y : Operand} {d : D} {f f1 f2 : Bool}

theorem zeroSize {e z : Nat} {zv : Value} (hz : hasSize P e z = true) (hzz : (P.info? e).bind (·.zero) = some zv) (w : World) : ∃ i, P.info? e = some i ∧ i.zero = some zv ∧ i.size = z ∧ (zeroValue e).run P w = .ok zv w := by
  cases hi : P.info? e with
  | none => rw [hi] at hzz; cases hzz
  | some i =>
    rw [hi] at hzz
    simp only [Option.bind_some] at hzz
    refine ⟨i, rfl, hzz, by simpa [hasSize, hi] using hz, by simp [zeroValue, typeInfo, hi, hzz]⟩

theorem e_buildSlice {e z n : Nat} {zv : Value} {parts : List (Nat × Operand)} {fl : Bool} {xs : List V} [ht : TSl P t e] [hz : TSz P e z] [hzv : TZero P e zv] (h : ElsOk σ.ev z 0 parts fl xs) (hn : xs.length = n) (hsmall : (Nat.ble n 1048576 && Nat.ble (n * z) 16777216) = true) (hN : N.can dst = true) :
    Effect P N ⟨some dst, .buildSlice t n parts.toArray, tt, pos, af, g⟩ σ (σ.lay dst (.sl fl e z xs) (some dst) (.o dst n)) :=
  ⟨rfl, rfl, fun C hCN φ I a w hh => by
    subst hCN
    subst hn
    obtain ⟨i, hi, hi1, hi2, hi3⟩ := zeroSize hz.h hzv.h w
    obtain ⟨news, h1, h2, h3⟩ := fill_els h (C := C) (φ := φ) (I := I) (w := w) (ρ := a.eval) (fun y hy d' hd => hh.ev hd) ((Array.range (xs.length * z)).map ((if xs.length * z = 0 then #[] else zv.cells)[· % (if xs.length * z = 0 then #[] else zv.cells).size]!)).toList (by simp)
    have hf : Instr.fill (fun i => some (i * z, z)) ((Array.range (xs.length * z)).map ((if xs.length * z = 0 then #[] else zv.cells)[· % (if xs.length * z = 0 then #[] else zv.cells).size]!)) (parts.map fun p => (p.1, a.eval p.2)) = some news.toArray := by
      have h1' := h1
      rw [Array.toArray_toList] at h1'
      rw [h1']
      simp
    simp only [Bool.and_eq_true, Nat.ble_eq] at hsmall
    have hsm : ¬ xs.length * z > 2 ^ 24 := by omega
    have hrun : (Instr.buildSlice t xs.length (parts.map fun p => (p.1, a.eval p.2)).toArray).run P w = .ok (.slice (some ⟨w.heap.size, 0, none⟩) xs.length xs.length) (w.alloc (.cells news.toArray e)) := by
      simp only [Instr.buildSlice, Sem.run_bind, run_underlying ht.h, Result.andThen_ok, rsz w hz.h, hsm, if_false]
      by_cases h0 : xs.length * z = 0
      · simp only [h0, if_true] at hf ⊢
        simp only [Sem.run_bind, Sem.run_pure, Result.andThen_ok, hf, newRow, run_newObj]
        rfl
      · simp only [h0, if_false] at hf ⊢
        simp only [Sem.run_bind, Sem.run_pure, Result.andThen_ok, hi3, hf, newRow, run_newObj]
        rfl
    simp only [execOp, List.map_toArray, Sem.run_bind, hrun, Sem.run_pure, Result.andThen_ok]
    refine ⟨phiSet φ dst (some (w.heap.size, xs.length)), I, (hh.lay (.cells news.toArray e) xs.length dst _ ?_).put (some dst) _ _ (.o _ _ _ _ (phiSet_same _ _ _)) (fun s e => by cases e; simpa using hN)⟩
    refine ⟨_, news, .o _ _ _ _ (phiSet_same _ _ _), ⟨by simpa using h2.1, .inr ⟨_, _, _, rfl, Nat.zero_le _, heap_alloc_new w _, Nat.le_refl _, ?_, by simpa using h2.1, ?_⟩⟩, h3, h2.mono (fun b hb => (keeps_alloc w _).block b (hh.wok.ilt b hb.1)) (fun _ hb => hb)⟩
    · simp only [maxLen]; omega
    · rw [← h2.1]; simp⟩

/-- A slice that is built and never turned. -/
theorem q_buildSlice {hp : Nat → Option Blk} {ev : Operand → Option D} {dst : Option Nat} {e z n : Nat} {zv : Value} {parts : List (Nat × Operand)} {fl : Bool} {xs : List V} [ht : TSl P t e] [hz : TSz P e z] [hzv : TZero P e zv] (h : ElsOk ev z 0 parts fl xs) (hn : xs.length = n) (hsmall : (Nat.ble n 1048576 && Nat.ble (n * z) 16777216) = true) :
    Quiet P hp ev ⟨dst, .buildSlice t n parts.toArray, tt, pos, af, g⟩ (.v fl (.l z xs)) :=
  ⟨rfl, fun C φ I w ρ hw hρ => by
    subst hn
    obtain ⟨i, hi, hi1, hi2, hi3⟩ := zeroSize hz.h hzv.h w
    obtain ⟨news, h1, h2, h3⟩ := fill_els h (C := C) (φ := φ) (I := I) (w := w) (ρ := ρ) (fun y hy d' hd => hρ y (by simp only [Op.operands]; simpa using hy) d' hd) ((Array.range (xs.length * z)).map ((if xs.length * z = 0 then #[] else zv.cells)[· % (if xs.length * z = 0 then #[] else zv.cells).size]!)).toList (by simp)
    have hf : Instr.fill (fun i => some (i * z, z)) ((Array.range (xs.length * z)).map ((if xs.length * z = 0 then #[] else zv.cells)[· % (if xs.length * z = 0 then #[] else zv.cells).size]!)) (parts.map fun p => (p.1, ρ p.2)) = some news.toArray := by
      have h1' := h1
      rw [Array.toArray_toList] at h1'
      rw [h1']
      simp
    simp only [Bool.and_eq_true, Nat.ble_eq] at hsmall
    have hsm : ¬ xs.length * z > 2 ^ 24 := by omega
    have hrun : (Instr.buildSlice t xs.length (parts.map fun p => (p.1, ρ p.2)).toArray).run P w = .ok (.slice (some ⟨w.heap.size, 0, none⟩) xs.length xs.length) (w.alloc (.cells news.toArray e)) := by
      simp only [Instr.buildSlice, Sem.run_bind, run_underlying ht.h, Result.andThen_ok, rsz w hz.h, hsm, if_false]
      by_cases h0 : xs.length * z = 0
      · simp only [h0, if_true] at hf ⊢
        simp only [Sem.run_bind, Sem.run_pure, Result.andThen_ok, hf, newRow, run_newObj]
        rfl
      · simp only [h0, if_false] at hf ⊢
        simp only [Sem.run_bind, Sem.run_pure, Result.andThen_ok, hi3, hf, newRow, run_newObj]
        rfl
    simp only [execOp, List.map_toArray, Sem.run_bind, hrun, Sem.run_pure, Result.andThen_ok]
    have hh : Holds { C with N := { n := 0 } } ⟨fun _ => none, fun _ => none, [], (0, false)⟩ φ I { tmps := #[], defers := [] } w :=
      ⟨rfl, ⟨rfl, fun s hs => by cases hs⟩, ⟨hw.os, hw.tape, hw.output, hw.size, hw.wsz, hw.ksz, hw.old, hw.ilt, hw.i0, hw.inew, fun k blk hk => (by cases hk), fun k k' blk blk' b c c' h1 => (by cases h1), fun k blk b c h1 => (by cases h1)⟩, fun s d hs => by cases hs⟩
    have h4 := hh.lay (.cells news.toArray e) xs.length 0 (.sl fl e z xs) (by
      refine ⟨_, news, .o _ _ _ _ (phiSet_same _ _ _), ⟨by simpa using h2.1, .inr ⟨_, _, _, rfl, Nat.zero_le _, heap_alloc_new w _, Nat.le_refl _, ?_, by simpa using h2.1, ?_⟩⟩, h3, h2.mono (fun b hb => (keeps_alloc w _).block b (hw.ilt b hb.1)) (fun _ hb => hb)⟩
      · simp only [maxLen]; omega
      · rw [← h2.1]; simp)
    have h5 := own_reads h4.wok (k := 0) rfl (.o _ _ _ _ (phiSet_same _ _ _))
    refine ⟨keeps_alloc w _, fun b => I b ∨ b = w.heap.size, fun b hb => .inl hb, fun b hb => ?_, .v _ _ _ (h5.mono (fun _ _ => rfl) (fun b hb => ?_))⟩
    · rcases hb with hb | rfl
      · exact .inl hb
      · exact .inr ⟨Nat.le_refl _, by simp⟩
    · rcases hb with hb | ⟨c, hc⟩
      · exact ⟨.inl hb.1, hb.2⟩
      · rw [phiSet_same] at hc
        cases hc
        exact ⟨.inr rfl, fun _ => hw.size⟩⟩
end
end Bf
