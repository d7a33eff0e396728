/- The engine, part 8: append and make, parts of slices, arrays, min and max. No program is named here. -/
import Derived.Test.YtedblpbpoekdlaaF7
namespace Bf
open Go Go.RowKit

/-! #### What is appended -/
/-- The cells of a slice that is read. -/
inductive Src (hp : Hp) (z : Nat) : D → List D → Nat → Prop
  | l (f : Bool) (ys : List V) (hpl : ∀ y ∈ ys, y.plain = true ∧ (V.cells y).length = z) : Src hp z (.v f (.l z ys)) (els f ys) ys.length
  | nil (f : Bool) : Src hp z (.v f (.raw (.slice none 0 0))) [] 0
  | o (k i off len ty : Nat) (pl : Pl) (xs cs : List D) (hk : hp k i = some (pl, .row ty xs)) (hd : (xs.drop off).take (len * z) = cs) (hl : cs.length = len * z) : Src hp z (.o k i pl z off len) cs len

theorem Src.len {hp : Hp} {z : Nat} {d : D} {cs : List D} {m : Nat} (h : Src hp z d cs m) : cs.length = m * z := by
  cases h with
  | l f ys hpl => rw [els_map, List.length_map, flatMap_len _ _ (fun y hy => (hpl y hy).2)]
  | nil => simp
  | o _ _ _ _ _ _ _ _ _ _ hl => exact hl

/-- A list's cells, one behind the other. -/
theorem VRep.flat_cells {w : World} {I : Nat → Prop} {z : Nat} {ys : List V} {v : Value} (h : VRep w I (.l z ys) v) (hpl : ∀ y ∈ ys, y.plain = true) : ∃ (A : Option Addr) (c : Nat) (news : List Value), v = .slice A ys.length c ∧ ys.length ≤ c ∧ c ≤ maxLen ∧ VReps w I (ys.flatMap V.cells) news ∧ (∀ u ∈ news, u.oneCell' = true) ∧
    (0 < ys.length → ∃ b o, A = some ⟨b, o, none⟩ ∧ I b ∧ ∀ (j : Nat) u, news[j]? = some u → w.cell? ⟨b, o + j, none⟩ = some u) := by
  obtain ⟨A, c, b, o, val, rfl, h1, h2, h3, h4, h5, h6⟩ := h.l_inv
  have key : ∀ (ys : List V) (val : Nat → Value) (o : Nat), (∀ (i : Nat) x, ys[i]? = some x → VRep w I x (val i)) → (∀ (i : Nat) x, ys[i]? = some x → (val i).cells.size = z) → (∀ y ∈ ys, y.plain = true) →
      (∀ (i j : Nat) x u, ys[i]? = some x → (val i).cells[j]? = some u → w.cell? ⟨b, o + (i * z + j), none⟩ = some u) →
      ∃ news : List Value, VReps w I (ys.flatMap V.cells) news ∧ (∀ u ∈ news, u.oneCell' = true) ∧ ∀ (j : Nat) u, news[j]? = some u → w.cell? ⟨b, o + j, none⟩ = some u := by
    intro ys
    induction ys with
    | nil => intro val o _ _ _ _; exact ⟨[], .nil, by simp, by simp⟩
    | cons y ys ih =>
      intro val o g1 g2 g3 g4
      obtain ⟨news, e1, e2, e3⟩ := ih (fun i => val (i + 1)) (o + z) (fun i x hx => g1 (i + 1) x (by simpa using hx)) (fun i x hx => g2 (i + 1) x (by simpa using hx)) (fun y hy => g3 y (by simp [hy])) (fun i j x u hx hu => by
        have := g4 (i + 1) j x u (by simpa using hx) hu
        rw [Nat.add_mul, Nat.one_mul] at this
        rw [show o + z + (i * z + j) = o + (i * z + z + j) by omega]
        exact this)
      obtain ⟨q1, q2⟩ := (g1 0 y rfl).cells (g3 y (by simp))
      have hz : (val 0).cells.toList.length = z := by simpa using g2 0 y rfl
      refine ⟨(val 0).cells.toList ++ news, by rw [List.flatMap_cons]; exact q1.append e1, fun u hu => ?_, fun j u hu => ?_⟩
      · rcases List.mem_append.1 hu with hu | hu
        · exact q2 u hu
        · exact e2 u hu
      · by_cases hj : j < z
        · rw [List.getElem?_append_left (by omega)] at hu
          have := g4 0 j y u rfl (by simpa using hu)
          simpa using this
        · rw [List.getElem?_append_right (by omega), hz] at hu
          have := e3 _ u hu
          rwa [show o + z + (j - z) = o + j by omega] at this
  obtain ⟨news, e1, e2, e3⟩ := key ys val o h4 h5 hpl h6
  exact ⟨A, c, news, rfl, h1, h2, e1, e2, fun hp => ⟨b, o, (h3 hp).1, (h3 hp).2, e3⟩⟩

theorem Src.ok {C : Ctx} {hp : Hp} {I : Nat → Prop} {w : World} {z : Nat} {d : D} {cs : List D} {m : Nat} (h : Src hp z d cs m) (hw : WOk C hp I w) {u : Value} (hu : DRep w I C.base d u) :
    ∃ (A : Option Addr) (c : Nat) (news : List Value), u = .slice A m c ∧ DReps w I C.base cs news ∧ (∀ v ∈ news, v.oneCell' = true) ∧ news.length = m * z ∧ (0 < m → ∃ b o, A = some ⟨b, o, none⟩ ∧ ∀ (j : Nat) v, news[j]? = some v → w.cell? ⟨b, o + j, none⟩ = some v) := by
  have hlen := h.len
  cases h with
  | l f ys hpl =>
    obtain ⟨A, c, news, rfl, _, _, h1, h2, h3⟩ := hu.v_inv.flat_cells (fun y hy => (hpl y hy).1)
    have h4 : DReps w I C.base (els f ys) news := by rw [els_map]; exact .of_v h1
    exact ⟨A, c, news, rfl, h4, h2, by rw [← h4.1]; exact hlen, fun hp => by obtain ⟨b, o, e1, _, e2⟩ := h3 hp; exact ⟨b, o, e1, e2⟩⟩
  | nil f => rw [hu.v_inv.raw_inv.1]; exact ⟨none, 0, [], rfl, .nil, by simp, by simp, by simp⟩
  | o k i off len ty pl xs cs hk hd hl =>
    rcases hu.o_inv with ⟨rfl, rfl, rfl, rfl⟩ | ⟨b, n, cap, rfl, rfl, h1, h2, h3⟩
    · have : cs = [] := List.eq_nil_of_length_eq_zero (by simpa using hl)
      subst this
      exact ⟨none, 0, [], rfl, .nil, by simp, by simp, by simp⟩
    · obtain ⟨vs, hr⟩ := hw.row hk
      obtain ⟨us, g1, g2, g3, _, g4⟩ := hr.seg hd hl
      exact ⟨some ⟨b, off, none⟩, cap, us, rfl, g2, g3, g1, fun _ => ⟨b, off, rfl, g4⟩⟩

/-! #### append -/
section
variable {P : Program}
/-- In place. -/
theorem run_append_in (w : World) (t tt e : TypeId) (i : TypeInfo) (ht : P.underlying t = some (.slice e)) (hi : P.info? e = some i)
    (g off sLen sCap : Nat) (cur : List Value) (hg : w.heap[g]? = some (.cells cur.toArray e (0, 0)))
    (A : Option Addr) (m c : Nat) (news : List Value) (hl : news.length = m * i.size) (hA : 0 < m → ∃ b o, A = some ⟨b, o, none⟩ ∧ ∀ (j : Nat) u, news[j]? = some u → w.cell? ⟨b, o + j, none⟩ = some u) (h1 : ∀ u ∈ news, u.oneCell' = true)
    (hroom : sLen + m ≤ sCap) (hfit : off + sLen * i.size + news.length ≤ cur.length) :
    (Builtin.append_ #[t, t] tt #[.slice (some ⟨g, off, none⟩) sLen sCap, .slice A m c]).run P w =
      .ok (.slice (some ⟨g, off, none⟩) (sLen + m) sCap) (w.setRow g (splice cur (off + sLen * i.size) news).toArray) := by
  have hst := run_storeCells_at P g (off + sLen * i.size) e news 0 cur.toArray w hg (by simpa using hfit) h1
  simp only [Nat.add_zero] at hst
  have hsp : cur.take (off + sLen * i.size) ++ news ++ cur.drop (off + sLen * i.size + news.length) = splice cur (off + sLen * i.size) news := rfl
  rw [hsp] at hst
  by_cases hm : 0 < m
  · obtain ⟨b, o, rfl, hc⟩ := hA hm
    have hf := run_firstCells_some (P := P) w i.size m ⟨b, o, none⟩ m c news hl (fun j u hu => by rw [addr_add]; exact hc j u hu)
    simp [Builtin.append_, run_underlying ht, Go.sizeOf, typeInfo, hi, Builtin.lenOf, hroom, hf, Addr.add_lit, hst]
  · have hm0 : m = 0 := by omega
    subst hm0
    have hn : news = [] := List.eq_nil_of_length_eq_zero (by simpa using hl)
    subst hn
    have hf : (Builtin.firstCells i.size 0 (.slice A 0 c)).run P w = .ok #[] w := by cases A <;> simp [Builtin.firstCells, loadCells, loadCellsFrom]
    simp [Builtin.append_, run_underlying ht, Go.sizeOf, typeInfo, hi, Builtin.lenOf, hroom, hf, Addr.add_lit, hst]
    intro hlt
    omega
end

/-- What an append comes to: where the slice lies then, and what lies before it there. -/
theorem app_core {P : Program} {C : Ctx} {σ : St} {I : Nat → Prop} {a : Act} {w : World} (h : Holds C σ I a w) {k i e z bytes off len m : Nat} {t tt : TypeId} {zv : Value} {pl : Pl} {xs cs : List D} {u u2 : Value} {d2 : D} [ht : TSl P t e] [hz : TSz P e z] [hzv : TZero P e zv] [hby : TBytes P e bytes]
    (hx : DRep w I C.base (.o k i pl z off len) u) (hk : σ.hp k i = some (pl, .row e xs)) (hn : off + len * z = xs.length) (hs : Src σ.hp z d2 cs m) (hu2 : DRep w I C.base d2 u2) (hz1 : oneAll zv = true) (hzs : zv.cells.size = z) (hb : (len + m) * (bytes + 1) ≤ 140737488355328) :
    ∃ (pl' : Pl) (junk : List D) (v : Value) (w' : World), (Builtin.append_ #[t, t] tt #[u, u2]).run P w = .ok v w' ∧ (off = 0 → junk = []) ∧ Holds C (σ.setH k i (some (pl', .row e (junk ++ (xs.drop off ++ cs))))) I a w' ∧ DRep w' I C.base (.o k i pl' z junk.length (len + m)) v := by
  obtain ⟨A, c, news, rfl, hnews, hone, hnl, hA⟩ := hs.ok h.wok hu2
  obtain ⟨ii, hi, hi1, hi2, _⟩ := zeroSize hz.h hzv.h w
  have hib : ii.bytes = bytes := by have := hby.h; rw [hi] at this; simpa using this
  have h63 : len + m ≤ 140737488355328 := by have := Nat.le_mul_of_pos_right (len + m) (show 0 < bytes + 1 by omega); omega
  have hbb : (len + m) * bytes ≤ 140737488355328 := by rw [Nat.mul_add] at hb; omega
  have hcsl : cs.length = m * z := hs.len
  have hI : ∀ b, I b → b < w.heap.size := h.wok.ilt
  -- a new block
  have grown : ∀ (b : Nat) (olds : List Value) (old : Nat), olds.length = len * z → DReps w I C.base (xs.drop off) olds → (∀ v ∈ olds, v.oneCell' = true) → old < len + m → ∀ (W : World), Keeps w W → W.heap.size = w.heap.size → 
      let cap := grownCap w (len + m) old e
      let w' := W.alloc (.cells (olds.toArray ++ news.toArray ++ Builtin.zeroCells zv.cells (cap - (len + m))) e)
      Holds C (σ.setH k i (some (some (w.heap.size, cap * z), .row e ([] ++ (xs.drop off ++ cs))))) I a w' ∧ DRep w' I C.base (.o k i (some (w.heap.size, cap * z)) z ([] : List D).length (len + m)) (.slice (some ⟨w.heap.size, 0, none⟩) (len + m) cap) := by
    intro b olds old hol hod hoo ho W hW hWs cap w'
    have hge : len + m ≤ cap := grownCap_ge w (len + m) old e
    have hcm : cap ≤ maxLen := grownCap_le_maxLen w (len + m) old e (by simp only [maxLen]; omega)
    have hzc : (Builtin.zeroCells zv.cells (cap - (len + m))).toList.length = (cap - (len + m)) * z := by rw [Array.length_toList, size_zeroCells, hzs]
    have hk' : Keeps w w' := by
      have := (hW.trans ((Below.refl w.heap.size W).alloc (by omega) (.cells (olds.toArray ++ news.toArray ++ Builtin.zeroCells zv.cells (cap - (len + m))) e)))
      exact this
    have hz0 : ∀ v ∈ (Builtin.zeroCells zv.cells (cap - (len + m))).toList, v.oneCell' = true := by
      intro v hv
      simp only [Builtin.zeroCells, Array.toList_map, List.mem_map, Array.toList_range, List.mem_range] at hv
      obtain ⟨j, hj, rfl⟩ := hv
      have hp : 0 < zv.cells.size := Nat.pos_of_mul_pos_left (show 0 < (cap - (len + m)) * zv.cells.size by omega)
      have hmod : j % zv.cells.size < zv.cells.size := Nat.mod_lt _ hp
      rw [getElem!_pos zv.cells _ hmod]
      exact (zeroV_reps (w := w) (I := I) hz1).2 _ (by simp)
    refine ⟨?_, .o k i _ _ z 0 _ _ hge hcm (by omega)⟩
    refine h.set k i _ _ hk'.os hk'.tape hk'.output hk'.size (fun b hb _ => hk'.block b hb) (fun b n e => by cases e; exact ⟨by simp [w', hWs], .inl (Nat.le_refl _)⟩) ⟨olds ++ news ++ (Builtin.zeroCells zv.cells (cap - (len + m))).toList, ?_, ?_, ?_, ?_, ?_⟩
    · have := heap_alloc_new W (.cells (olds.toArray ++ news.toArray ++ Builtin.zeroCells zv.cells (cap - (len + m))) e)
      rw [hWs] at this
      refine this.trans ?_
      simp
    · simp only [List.length_append, hol, hnl, hzc, ← Nat.add_mul]
      congr 1; omega
    · have := Nat.mul_le_mul_right z hge
      rw [Nat.add_mul] at this
      simp only [List.nil_append, List.length_append, List.length_drop, hcsl]
      omega
    · intro v hv
      simp only [List.mem_append] at hv
      rcases hv with (hv | hv) | hv
      · exact hoo v hv
      · exact hone v hv
      · exact hz0 v hv
    · intro j d v hd hv
      have hall := hod.append hnews
      rw [List.nil_append] at hd
      have hj : j < (olds ++ news).length := by rw [← hall.1]; exact (List.getElem?_eq_some_iff.1 hd).1
      rw [List.getElem?_append_left hj] at hv
      exact (hall.2 j d v hd hv).mono (fun b hb => hk'.block b (hI b hb)) (fun _ hb => hb)
  rcases hx.o_inv with ⟨rfl, rfl, rfl, rfl⟩ | ⟨b, n, cap, rfl, rfl, hc1, hc2, hc3⟩
  · have hx0 : xs = [] := List.eq_nil_of_length_eq_zero (by simpa using hn.symm)
    subst hx0
    by_cases hm : m = 0
    · subst hm
      have hc0 : cs = [] := List.eq_nil_of_length_eq_zero (by simpa using hcsl)
      subst hc0
      refine ⟨none, [], .slice none 0 0, w, ?_, fun _ => rfl, ?_, .onil k i z⟩
      · cases A <;> simp [Builtin.append_, run_underlying ht.h, Go.sizeOf, typeInfo, hi, Builtin.lenOf, Builtin.firstCells, loadCells, loadCellsFrom]
      · exact h.set k i none _ rfl rfl rfl (Nat.le_refl _) (fun _ _ _ => rfl) (fun b n e => by cases e) rfl
    · obtain ⟨b, o, rfl, hcell⟩ := hA (by omega)
      have hr := run_append_nil (P := P) w t tt e ii zv ht.h hi hi1 ⟨b, o, none⟩ m c news (by rw [hi2]; exact hnl) (fun j u hu => by rw [addr_add]; exact hcell j u hu) (by omega) (by omega) (by rw [hib]; have hb := hbb; simp only [Nat.zero_add] at hb; omega)
      have hg := grown 0 [] 0 (by simp) .nil (by simp) (by omega) w.drew (Below.refl _ w).drew rfl
      simp only [Nat.zero_add, List.drop_zero, List.nil_append, Array.empty_append] at hg hr ⊢
      exact ⟨_, [], _, _, hr, fun _ => rfl, hg.1, by simpa using hg.2⟩
  · obtain ⟨vs, hr⟩ := h.wok.row hk
    by_cases hroom : len + m ≤ cap
    · have hmz : (len + m) * z ≤ cap * z := Nat.mul_le_mul_right _ hroom
      rw [Nat.add_mul] at hmz
      have hle := hr.le
      have hvl := hr.len
      have hrun := run_append_in (P := P) w t tt e ii ht.h hi b off len cap vs hr.blk A m c news (by rw [hi2]; exact hnl) hA hone hroom (by rw [hi2, hnl]; omega)
      rw [hi2] at hrun
      refine ⟨some (b, n), xs.take off, _, _, hrun, fun h0 => by rw [h0]; rfl, ?_, ?_⟩
      · have hxx : xs.take off ++ (xs.drop off ++ cs) = xs ++ cs := by rw [← List.append_assoc, List.take_append_drop]
        rw [hxx]
        refine h.rerow hk ⟨setRow_heap w b _ _ _ _ hr.blk, by rw [splice_len (by omega)]; exact hvl, by rw [List.length_append, hcsl]; omega, fun v hv => ?_, fun j d v hd hv => ?_⟩
        · simp only [splice, List.mem_append] at hv
          rcases hv with (hv | hv) | hv
          · exact hr.one v (List.mem_of_mem_take hv)
          · exact hone v hv
          · exact hr.one v (List.mem_of_mem_drop hv)
        · have hw : ∀ b', I b' → (w.setRow b (splice vs (off + len * z) news).toArray).heap[b']? = w.heap[b']? := fun b' hb' => setRow_other w b b' _ (fun e => (h.wok.owned k i b n _ hk).2.1 (e ▸ hb'))
          rw [splice_get (by omega)] at hv
          by_cases hj : j < off + len * z
          · rw [if_pos hj] at hv
            rw [List.getElem?_append_left (by omega)] at hd
            exact (hr.rep j d v hd hv).mono hw (fun _ hb => hb)
          · rw [if_neg hj] at hv
            rw [List.getElem?_append_right (by omega)] at hd
            have hj2 : j - xs.length < cs.length := (List.getElem?_eq_some_iff.1 hd).1
            rw [if_pos (by omega)] at hv
            rw [hn] at hv
            exact (hnews.2 _ d v hd hv).mono hw (fun _ hb => hb)
      · have : (xs.take off).length = off := by simp; omega
        rw [this]
        exact .o k i b n z off (len + m) cap hroom hc2 hc3
    · obtain ⟨us, g1, g2, g3, _, g4⟩ := hr.seg (off := off) (z := len * z) (ds := xs.drop off) (by rw [List.take_of_length_le]; simp; omega) (by simp; omega)
      have hgrow : ∃ (v : Value) (w' : World), (Builtin.append_ #[t, t] tt #[.slice (some ⟨b, off, none⟩) len cap, .slice A m c]).run P w = .ok v w' ∧ v = .slice (some ⟨w.heap.size, 0, none⟩) (len + m) (grownCap w (len + m) cap e) ∧ w' = w.drew.alloc (.cells (us.toArray ++ news.toArray ++ Builtin.zeroCells zv.cells (grownCap w (len + m) cap e - (len + m))) e) := by
        obtain ⟨b2, o2, rfl, hcell⟩ := hA (by omega)
        have hrr := run_append_grow (P := P) w t tt e ii zv ht.h hi hi1 ⟨b, off, none⟩ len cap us (by rw [hi2]; exact g1) (fun j u hu => by rw [addr_add]; exact g4 j u hu) ⟨b2, o2, none⟩ m c news (by rw [hi2]; exact hnl) (fun j u hu => by rw [addr_add]; exact hcell j u hu) (by omega) (by omega) (by rw [hib]; exact growslice_fits (by omega) hbb)
        exact ⟨_, _, hrr, rfl, rfl⟩
      obtain ⟨v, w', e1, rfl, rfl⟩ := hgrow
      have hg := grown 0 us cap g1 g2 g3 (by omega) w.drew (Below.refl _ w).drew rfl
      exact ⟨_, [], _, _, e1, fun _ => rfl, hg.1, hg.2⟩
end Bf
