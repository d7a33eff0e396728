/- The engine, part 10: a store into an element, freezing, the rules of control, loops, and a function's contract out of its body. No program is named here. -/
import Derived.Test.YteecgmkfbohpjaaE9
namespace Bf
open Go Go.RowKit

/-- An element with a part of its cells turned. -/
def V.putAt (e : V) (off : Nat) (y : V) : V :=
  match e with
  | .st cs => .st (cs.take off ++ V.cells y ++ cs.drop (off + (V.cells y).length))
  | _ => y

section
variable {P : Program} {N : Rm} {σ : St} {t tt ty : TypeId} {pos : String} {af : Array Edge} {g : Option (Nat × Bool)} {x y : Operand} {d : D} {f f1 f2 : Bool}

theorem e_store_e {k i z off z2 : Nat} {xs : List V} {e e2 : V} {dd : Option Nat} [hz : TSz P t z2] (hx : σ.ev x = some (.pe k i z off)) (hk : σ.hp k = some (.sl f ty z xs)) (he : xs[i]? = some e) (hy : σ.ev y = some (.v f2 e2)) (hpl : e2.plain = true) (hl : (V.cells e2).length = z2)
    (hle : off + z2 ≤ (V.cells e).length) (hst : e.isSt = true ∨ (off = 0 ∧ e2.isSt = false)) (hd : dd = none) :
    Effect P N ⟨dd, .store t x y, tt, pos, af, g⟩ σ { σ with hp := upd σ.hp k (.sl (f && f2) ty z (xs.set i (e.putAt off e2))) } :=
  ⟨rfl, rfl, fun C hCN φ I a w h => by
    subst hCN
    subst hd
    obtain ⟨b, c, h1, h2⟩ := (h.ev hx).pe_inv
    obtain ⟨u0, cells, g1, g2, g3, g4⟩ := h.wok.own k _ hk
    obtain ⟨ep, u, hu, hus, huc⟩ := g4.at_ he
    have hil : i < xs.length := (List.getElem?_eq_some_iff.1 he).1
    obtain ⟨h8, h9⟩ := (h.ev hy).v_inv.cells hpl
    have hvl : (a.eval y).cells.size = z2 := by have := h8.1; rw [hl] at this; simpa using this.symm
    have hvl' : (a.eval y).cells.toList.length = z2 := by simpa using hvl
    have hez : (V.cells e).length = z := (hu.cells_size ep).symm.trans hus
    rcases g1.o_inv with ⟨e1, _⟩ | ⟨b', cap', e1, rfl⟩
    · rw [h1] at e1; cases e1
    rw [h1] at e1; cases e1
    rcases g2.2 with ⟨e1, _⟩ | ⟨gg, cap, cur, e1, _, hgg, hnc, hcm, hcs, htk⟩
    · cases e1
    cases e1
    have hiz : (i + 1) * z ≤ xs.length * z := Nat.mul_le_mul_right _ hil
    rw [Nat.add_mul, Nat.one_mul] at hiz
    have hcl : xs.length * z ≤ c * z := Nat.mul_le_mul_right _ hnc
    have hcur : cur.toList.length = c * z := by simpa using hcs
    have hgg' : w.heap[b]? = some (.cells cur.toList.toArray ty (0, 0)) := by simpa using hgg
    have hr := run_storeVar (P := P) (w := w) hz.h hgg' (off := i * z + off) hvl (by omega) h9
    simp only [execOp, Instr.storeAt, h2, Instr.sureAddr, Sem.run_bind, Sem.run_pure, Result.andThen_ok, hr]
    obtain ⟨k1, k2, k3, k4⟩ := @setRow_facts w b (cur.toList.take (i * z + off) ++ (a.eval y).cells.toList ++ cur.toList.drop (i * z + off + z2)).toArray
    have hI : ∀ b', I b' → (w.setRow b (cur.toList.take (i * z + off) ++ (a.eval y).cells.toList ++ cur.toList.drop (i * z + off + z2)).toArray).heap[b']? = w.heap[b']? := fun b' hb' => setRow_other w b b' _ (fun e' => (h.wok.owned k _ b c hk h1).2.1 (e' ▸ hb'))
    have hcells : cells.length = xs.length * z := g2.1
    have hseg : (cur.toList.take (i * z + off) ++ (a.eval y).cells.toList ++ cur.toList.drop (i * z + off + z2)).take (xs.length * z) = cells.take (i * z + off) ++ (a.eval y).cells.toList ++ cells.drop (i * z + off + z2) := by
      rw [← htk]
      apply List.ext_getElem?
      intro j
      have q1 : min (i * z + off) cur.toList.length = i * z + off := by omega
      have q2 : min (i * z + off) (min (xs.length * z) cur.toList.length) = i * z + off := by omega
      simp only [List.getElem?_take, List.getElem?_append, List.length_append, List.length_take, List.getElem?_drop, q1, q2, hvl']
      by_cases hj : j < xs.length * z
      · simp only [hj, if_true]
        by_cases hj1 : j < i * z + off
        · simp [hj1, show j < i * z + off + z2 by omega]
        · by_cases hj2 : j < i * z + off + z2
          · simp [hj1, hj2]
          · have e3 : i * z + off + z2 + (j - (i * z + off + z2)) = j := by omega
            simp [hj2, e3, hj]
      · have hj1 : ¬ j < i * z + off + z2 := by omega
        have e3 : i * z + off + z2 + (j - (i * z + off + z2)) = j := by omega
        simp [hj1, e3, hj]
    have hlenset : (xs.set i (e.putAt off e2)).length = xs.length := by simp
    refine ⟨φ, I, h.turn k _ _ hk h1 k1 k2 k3 k4 (fun b' hb' => setRow_other w b b' _ hb') ⟨.slice (some ⟨b, 0, none⟩) xs.length c, cells.take (i * z + off) ++ (a.eval y).cells.toList ++ cells.drop (i * z + off + z2), by rw [hlenset]; exact .o _ _ _ _ h1, ⟨?_, .inr ⟨b, c, _, by rw [hlenset], Nat.zero_le _, setRow_heap w b _ _ _ _ hgg, by rw [hlenset]; exact hnc, hcm, ?_, ?_⟩⟩, ?_, ?_⟩⟩
    · rw [hlenset]; simp [hvl']; omega
    · simp [hvl'] at hcur ⊢; omega
    · rw [hlenset]; simpa using hseg
    · intro v hv
      simp only [List.mem_append] at hv
      rcases hv with (hv | hv) | hv
      · exact g3 v (List.mem_of_mem_take hv)
      · exact h9 v hv
      · exact g3 v (List.mem_of_mem_drop hv)
    · have hnew : ∃ nv : Value, VRep w (fresh (f && f2) I C.base) (e.putAt off e2) nv ∧ (e.putAt off e2).plain = true ∧ nv.cells.toList = u.cells.toList.take off ++ (a.eval y).cells.toList ++ u.cells.toList.drop (off + z2) := by
        have hy' := (h.ev hy).v_inv.mono (fun _ _ => rfl) (fun b hb => fresh_and' (f := f) hb)
        by_cases hse : e.isSt = true
        · cases e <;> simp [V.isSt] at hse
          rename_i cs
          obtain ⟨vs, rfl, h5, h6⟩ := (hu.mono (fun _ _ => rfl) (fun b hb => fresh_and (f2 := f2) hb)).st_inv
          simp only [V.cells] at hez hle
          refine ⟨.agg (vs.take off ++ (a.eval y).cells.toList ++ vs.drop (off + z2)).toArray, ?_, rfl, by simp [Value.cells]⟩
          have hcy : VReps w (fresh (f && f2) I C.base) (V.cells e2) (a.eval y).cells.toList := h8.mono (fun _ _ => rfl) (fun b hb => fresh_and' hb)
          simp only [V.putAt, hl]
          refine .st_of (((h5.take off).append hcy).append (h5.drop (off + z2))) (fun v hv => ?_)
          simp only [List.mem_append] at hv
          rcases hv with (hv | hv) | hv
          · exact h6 v (List.mem_of_mem_take hv)
          · exact h9 v hv
          · exact h6 v (List.mem_of_mem_drop hv)
        · rcases hst with hst | ⟨rfl, hst2⟩
          · exact absurd hst hse
          · have hz1 : (V.cells e).length = 1 := by cases e <;> simp_all [V.isSt, V.cells]
            have hz2 : (V.cells e2).length = 1 := by cases e2 <;> simp_all [V.isSt, V.cells]
            have hu1 : u.cells.toList.length = 1 := by rw [← (hu.cells ep).1.1]; exact hz1
            have e21 : z2 = 1 := by omega
            have hp' : e.putAt 0 e2 = e2 := by cases e <;> simp_all [V.isSt, V.putAt]
            rw [hp']
            exact ⟨a.eval y, hy', hpl, by rw [List.take_zero, List.nil_append, List.drop_eq_nil_of_le (by omega), List.append_nil]⟩
      obtain ⟨nv, hnew1, hnew2, hnew3⟩ := hnew
      refine .of_ (by rw [hlenset]; simp [hvl']; omega) (fun j p hp => ?_)
      rw [List.getElem?_set] at hp
      by_cases hij : i = j
      · subst hij
        rw [if_pos rfl, if_pos hil] at hp
        cases hp
        have hsz2 : (u.cells.toList.take off ++ (a.eval y).cells.toList ++ u.cells.toList.drop (off + z2)).length = z := by
          have hul : u.cells.toList.length = z := by simpa using hus
          simp only [List.length_append, List.length_take, List.length_drop, hvl', hul]
          omega
        refine ⟨hnew2, nv, hnew1.mono (fun b hb => hI b hb.1) (fun _ hb => hb), by rw [← Array.length_toList, hnew3]; exact hsz2, fun q hq => ?_⟩
        rw [hnew3]
        have hul : u.cells.toList.length = z := by simpa using hus
        have hcl' : cells.length = xs.length * z := hcells
        have q1 : min (i * z + off) cells.length = i * z + off := by omega
        have q2 : min off u.cells.toList.length = off := by omega
        simp only [List.getElem?_append, List.length_append, List.length_take, List.getElem?_take, List.getElem?_drop, q1, q2, hvl']
        by_cases hq1 : q < off
        · simp only [show i * z + q < i * z + off + z2 by omega, show i * z + q < i * z + off by omega, show q < off + z2 by omega, hq1, if_true]
          exact huc q hq
        · by_cases hq2 : q < off + z2
          · simp only [show i * z + q < i * z + off + z2 by omega, show ¬ i * z + q < i * z + off by omega, hq2, hq1, if_true, if_false]
            congr 1
            omega
          · simp only [show ¬ i * z + q < i * z + off + z2 by omega, hq2, if_false]
            have e3 : i * z + off + z2 + (i * z + q - (i * z + off + z2)) = i * z + q := by omega
            have e4 : off + z2 + (q - (off + z2)) = q := by omega
            rw [e3, e4]
            exact huc q hq
      · rw [if_neg hij] at hp
        obtain ⟨p1, v, p2, p3, p4⟩ := g4.at_ hp
        refine ⟨p1, v, p2.mono (fun b hb => hI b hb.1) (fun b hb => fresh_and hb), p3, fun q hq => ?_⟩
        rw [← p4 q hq]
        have q1 : min (i * z + off) cells.length = i * z + off := by omega
        simp only [List.getElem?_append, List.length_append, List.length_take, List.getElem?_take, List.getElem?_drop, q1, hvl']
        rcases Nat.lt_or_gt_of_ne hij with hlt | hgt
        · have : (i + 1) * z ≤ j * z := Nat.mul_le_mul_right _ hlt
          rw [Nat.add_mul, Nat.one_mul] at this
          simp only [show ¬ j * z + q < i * z + off + z2 by omega, if_false]
          congr 1
          omega
        · have : (j + 1) * z ≤ i * z := Nat.mul_le_mul_right _ hgt
          rw [Nat.add_mul, Nat.one_mul] at this
          simp only [show j * z + q < i * z + off + z2 by omega, show j * z + q < i * z + off by omega, if_true]⟩
end
end Bf
