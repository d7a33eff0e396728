import Derived.Test.YteecgmkfbohpjaaT15
namespace Bf
open Go Go.RowKit Go.Proofs
attribute [local irreducible] Quiet Effect RunS Ev PureC Shift RunQ HasF SameF

theorem readEqs (a b : Read) : eqsV [.int, .int, .int, .int, .int] (V.cells a.enc) (V.cells b.enc) = some (a == b) := by
  obtain ⟨⟨a1, a2, a3⟩, a4, a5⟩ := a
  obtain ⟨⟨b1, b2, b3⟩, b4, b5⟩ := b
  simp only [Read.enc, V.cells, eqsV, leafEq, if_true, Option.some.injEq]
  rw [Bool.eq_iff_iff]
  simp [and_assoc]
abbrev setE (l : List Read) : List (V × V) := l.map fun z => (z.enc, vb true)
theorem set_look (z : Read) (l : List Read) : lookL [.int, .int, .int, .int, .int] (V.cells z.enc) ((setE l).map fun p => V.cells p.1) 0 = some (l.findIdx? (fun x => z == x)) := look_map readEqs _ z l
theorem set_get (z : Read) (l : List Read) : mapGet (setE l) (zeroE (.bool false)) (l.findIdx? (fun x => z == x)) = vb (l.any (· == z)) := by
  cases h : l.findIdx? (fun x => z == x) with
  | none =>
    have : l.any (· == z) = false := by
      rw [List.findIdx?_eq_none_iff] at h
      simp only [List.any_eq_false]
      intro x hx e
      have := h x hx
      simp at e this
      exact this e.symm
    simp [mapGet, this, zeroE, constV]
  | some j =>
    rw [List.findIdx?_eq_some_iff_getElem] at h
    obtain ⟨hj, he, _⟩ := h
    have : l.any (· == z) = true := by
      simp only [List.any_eq_true]
      exact ⟨l[j], List.getElem_mem hj, by simp at he ⊢; exact he.symm⟩
    simp [mapGet, this, hj]
theorem set_none {z : Read} {l : List Read} (h : l.any (· == z) = false) : l.findIdx? (fun x => z == x) = none := by
  rw [List.findIdx?_eq_none_iff]
  intro x hx
  have := List.any_eq_false.1 h x hx
  simp at this ⊢
  exact fun e => this e.symm

/-- A list that is filled from the left. -/
theorem fill_get {α : Type} (f : α → V) (a : α) {row : List α} {j n : Nat} (h : row.length = j) (hj : j < n) (hm : j ≤ maxLen) : ((row ++ List.replicate (n - j) a).map f)[(cN j).toNat]? = some (f a) := by
  rw [cN_eq hm]
  subst h
  obtain ⟨m, hm⟩ : ∃ m, n - row.length = m + 1 := ⟨n - row.length - 1, by omega⟩
  simp [hm, List.replicate_succ]
theorem fill_set {α : Type} (f : α → V) (a b : α) {row : List α} {j n : Nat} (h : row.length = j) (hj : j < n) (hm : j ≤ maxLen) : ((row ++ List.replicate (n - j) a).map f).set (cN j).toNat (f b) = ((row ++ [b]) ++ List.replicate (n - (j + 1)) a).map f := by
  rw [cN_eq hm]
  subst h
  obtain ⟨m, hm⟩ : ∃ m, n - row.length = m + 1 := ⟨n - row.length - 1, by omega⟩
  have hm' : n - (row.length + 1) = m := by omega
  simp [hm, hm', List.replicate_succ, List.set_append]

theorem table_c (w : Wld) (s : List Supply) (r : List Request) (known : Int) : PureC Try.prog true 12 [w.enc, .l 6 (s.map Supply.enc), .l 6 (r.map Request.enc), vi known]
    (.t [.l 1 ((tableV w s r known).1.map rowE), .l 5 ((tableV w s r known).2.1.map Read.enc), vi (tableV w s r known).2.2]) := by
  refine pure_len fun hL => pure_intro (N := 93) Try.func12 rfl rfl rfl rfl fun C hO => ?_
  have hls := len1 hL
  have hlr := len2 hL
  repeat' (first | (refine run_shift (shift_freeze 4 (hO _) rfl rfl rfl) ?_) | (refine wmake (h := ?_)) | (show RunS _ _ _ _ _ _ _; first | refine wq (h := ?_) | refine wc (allSupply_c s Supply.ok 30 [] (fun x _ => supply_c x)) (h := ?_) | refine wca (allSupply_c s Supply.ok 30 [] (fun x _ => supply_c x)) (h := ?_) | refine wc (allRequest_c r Request.ok 32 [] (fun x _ => request_c x)) (h := ?_) | refine wca (allRequest_c r Request.ok 32 [] (fun x _ => request_c x)) (h := ?_) | refine we (h := ?_) | refine ws (h := ?_) | refine rg rfl rfl (fun _ => ?_) (fun _ => ?_)) | (show RunQ _ _ _ _ _ _; first | refine wqb (ht := ?_) (hf := ?_) | refine wqbc (allSupply_c s Supply.ok 30 [] (fun x _ => supply_c x)) (ht := ?_) (hff := ?_) | refine wqbc (allRequest_c r Request.ok 32 [] (fun x _ => request_c x)) (ht := ?_) (hff := ?_) | refine wqq (h := ?_) | refine wqc (allSupply_c s Supply.ok 30 [] (fun x _ => supply_c x)) (h := ?_) | refine wqca (allSupply_c s Supply.ok 30 [] (fun x _ => supply_c x)) (h := ?_) | refine wqc (allRequest_c r Request.ok 32 [] (fun x _ => request_c x)) (h := ?_) | refine wqca (allRequest_c r Request.ok 32 [] (fun x _ => request_c x)) (h := ?_) | refine wqs (h := ?_)) | refine ev_seq ?_ | refine ev_region ?_ | refine ev_draw (by kernel_rfl) (by kernel_rfl) ?_ | refine qn ?_ | refine run_nil ?_ | refine ev_block ?_ | refine ev_skip ?_ | refine ev_exit ?_ | refine ev_ret ?_ | refine ev_condt rfl ?_ | refine ev_condf rfl ?_ | refine ev_cond rfl (fun _ => ?_) (fun _ => ?_) | (intro h; exfalso; simp at h; done) | (intro _))
  · rename_i h
    exact ret3_n rfl rfl rfl rfl (tableV_no (by simp at h; simp; omega))
  · rename_i h
    exact ret3_n rfl rfl rfl rfl (tableV_no (by simp at h; simp; omega))
  · rename_i h
    exact ret3_n rfl rfl rfl rfl (tableV_no (by simp only [Bool.not_eq_true'] at h; simp only [h, Bool.false_and, Bool.and_false]))
  · rename_i h
    exact ret3_n rfl rfl rfl rfl (tableV_no (by simp only [Bool.not_eq_true'] at h; simp only [h, Bool.false_and, Bool.and_false]))
  rename_i h4 h3 h2 h1
  have hs64 : s.length ≤ 64 := by simp at h4; omega
  have hr64 : r.length ≤ 64 := by simp at h3; omega
  have hV : tableV w s r known = ((tabV w r known s [] []).1, (tabV w r known s [] []).2, 0) := by
    simp only [Bool.not_eq_false'] at h1 h2
    simp [tableV, hs64, hr64, h1, h2]
  clear h1 h2 h3 h4
  refine ev_shift (shift_own 8 880 64 1 rfl) (ev_shift (shift_own 9 830 68 5 rfl) ?_)
  refine ev_forA (α := List (List Bool) × List Read) s.length (fun k a => tabV w r known s [] [] = tabV w r known (s.drop k) a.1 a.2 ∧ a.1.length ≤ k ∧ a.2.length ≤ k * 64) [2, 3, 4, 10, 11, 40, 41]
    (fun k a => [(42, .v true (.i .i64 (cN k))), (8, .o 880 (a.1.map rowE).length), (9, .o 830 (a.2.map Read.enc).length)]) [4]
    (fun _ a => [(39, .mp true true (setE a.2)), (880, .sl true 64 1 (a.1.map rowE)), (830, .sl true 68 5 (a.2.map Read.enc))]) ([], []) ⟨rfl, Nat.le_refl _, Nat.le_refl _⟩ ?_ fun k a hk hI => ?_
  · (refine at_shift ?_ ?_ ?_ ?_ rfl rfl <;> repeat (first | refine same1 rfl ?_ | refine has1 rfl rfl ?_ | refine has1 rfl (by simp [normD, *]) ?_ | exact has0 | exact same0))
  obtain ⟨t, acc⟩ := a
  refine ev_seq ?_
  repeat (first | (show RunS _ _ _ _ _ _ _; first | refine wq (h := ?_) | refine we (h := ?_) | refine ws (h := ?_)) | (show RunQ _ _ _ _ _ _; first | refine wqb (ht := ?_) (hf := ?_) | refine wqq (h := ?_) | refine wqs (h := ?_)) | refine ev_seq ?_ | refine ev_region ?_ | refine ev_draw (by kernel_rfl) (by kernel_rfl) ?_ | refine qn ?_ | refine run_nil ?_ | refine ev_block ?_ | refine ev_skip ?_ | refine ev_exit ?_ | refine ev_ret ?_)
  refine ev_cond rfl (fun hc => ?_) (fun hc => ?_)
  · obtain ⟨x, h1, h2, h3, h4, h5, h6⟩ := round_in hls hk hc
    rw [h5] at hI
    obtain ⟨hI1, hI2, hI3⟩ := hI
    dsimp only at hI1 hI2 hI3
    repeat' (first | (refine wmks (hb := by simp; omega) (h := ?_)) | (show RunS _ _ _ _ _ _ _; first | refine wq (h := ?_) | refine we (h := ?_) | refine ws (h := ?_) | refine rg rfl rfl (fun _ => ?_) (fun _ => ?_)) | (show RunQ _ _ _ _ _ _; first | refine wqb (ht := ?_) (hf := ?_) | refine wqq (h := ?_) | refine wqs (h := ?_)) | refine ev_seq ?_ | refine ev_region ?_ | refine ev_draw (by kernel_rfl) (by kernel_rfl) ?_ | refine qn ?_ | refine run_nil ?_ | refine ev_block ?_ | refine ev_skip ?_ | refine ev_exit ?_ | refine ev_ret ?_ | refine ev_condt rfl ?_ | refine ev_condf rfl ?_ | refine ev_cond rfl (fun _ => ?_) (fun _ => ?_) | (intro h; exfalso; simp at h; done) | (intro _))
    refine ev_forA (α := List Bool × List Read) r.length (fun j b => rowV w x known r [] acc = rowV w x known (r.drop j) b.1 b.2 ∧ b.1.length = j ∧ b.2.length ≤ k * 64 + j) [2, 3, 4, 8, 10, 11, 13, 40, 41, 42, 49, 50]
      (fun j b => [(51, .v true (.i .i64 (cN j))), (14, .o 48 ((b.1 ++ List.replicate (r.length - j) false).map vb).length), (9, .o 830 (b.2.map Read.enc).length)]) [4, 13, 880]
      (fun j b => [(39, .mp true true (setE b.2)), (830, .sl true 68 5 (b.2.map Read.enc)), (48, .sl true 4 1 ((b.1 ++ List.replicate (r.length - j) false).map vb))]) ([], acc) ⟨rfl, rfl, hI3⟩ ?_ fun j b hj hJ => ?_
    · (refine at_shift ?_ ?_ ?_ ?_ rfl rfl <;> repeat (first | refine same1 rfl ?_ | refine has1 rfl rfl ?_ | refine has1 rfl (by first | (simp [normD, *]; done) | (simp [zeroE, constV, List.map_replicate]; done)) ?_ | exact has0 | exact same0))
    obtain ⟨row, acc2⟩ := b
    obtain ⟨hJ1, hJ2, hJ3⟩ := hJ
    dsimp only at hJ1 hJ2 hJ3
    refine ev_seq ?_
    repeat (first | (show RunS _ _ _ _ _ _ _; first | refine wq (h := ?_) | refine we (h := ?_) | refine ws (h := ?_)) | (show RunQ _ _ _ _ _ _; first | refine wqb (ht := ?_) (hf := ?_) | refine wqq (h := ?_) | refine wqs (h := ?_)) | refine ev_seq ?_ | refine ev_region ?_ | refine ev_draw (by kernel_rfl) (by kernel_rfl) ?_ | refine qn ?_ | refine run_nil ?_ | refine ev_block ?_ | refine ev_skip ?_ | refine ev_exit ?_ | refine ev_ret ?_)
    refine ev_cond rfl (fun hc2 => ?_) (fun hc2 => ?_)
    · obtain ⟨y, y1, y2, y3, y4, y5, y6⟩ := round_in hlr hj hc2
      rw [y5] at hJ1
      have hf := fitsV_len w x y known
      have hcj := cN_eq (k := j) (by omega)
      have g1 : cN j < ((row ++ List.replicate (r.length - j) false).map vb).length := by simp; omega
      have g3 := fill_get vb false (n := r.length) hJ2 y1 (by omega)
      repeat' (first | (show RunS _ _ _ _ _ _ _; first | refine wq (h := ?_) | refine wc (fits_c w x y known) (h := ?_) | refine wca (fits_c w x y known) (h := ?_) | refine we (h := ?_) | refine ws (h := ?_) | refine rg rfl rfl (fun _ => ?_) (fun _ => ?_)) | (show RunQ _ _ _ _ _ _; first | refine wqb (ht := ?_) (hf := ?_) | refine wqbc (fits_c w x y known) (ht := ?_) (hff := ?_) | refine wqq (h := ?_) | refine wqc (fits_c w x y known) (h := ?_) | refine wqca (fits_c w x y known) (h := ?_) | refine wqs (h := ?_)) | refine ev_seq ?_ | refine ev_region ?_ | refine ev_draw (by kernel_rfl) (by kernel_rfl) ?_ | refine qn ?_ | refine run_nil ?_ | refine ev_block ?_ | refine ev_skip ?_ | refine ev_exit ?_ | refine ev_ret ?_ | refine ev_condt rfl ?_ | refine ev_condf rfl ?_ | refine ev_cond rfl (fun _ => ?_) (fun _ => ?_) | (intro h; exfalso; simp at h; done) | (intro _))
      generalize hl : (fitsV w x y known).2 = l at *
      have hll : l.length ≤ maxLen := by unfold maxLen; omega
      refine ev_forA (α := List Read) l.length (fun n c => rdAdd acc2 l = rdAdd c (l.drop n) ∧ c.length ≤ k * 64 + j + n) [2, 3, 4, 8, 10, 11, 13, 14, 40, 41, 42, 49, 50, 51, 68, 69]
        (fun n c => [(70, .v true (.i .i64 (cN n))), (9, .o 830 (c.map Read.enc).length)]) [4, 13, 16, 48, 880] (fun _ c => [(39, .mp true true (setE c)), (830, .sl true 68 5 (c.map Read.enc))]) acc2 ⟨rfl, hJ3⟩ ?_ fun n c hn hK => ?_
      · (refine at_shift ?_ ?_ ?_ ?_ rfl rfl <;> repeat (first | refine same1 rfl ?_ | refine has1 rfl rfl ?_ | refine has1 rfl (by simp [normD, *]) ?_ | exact has0 | exact same0))
      obtain ⟨hK1, hK2⟩ := hK
      refine ev_seq ?_
      repeat (first | (show RunS _ _ _ _ _ _ _; first | refine wq (h := ?_) | refine we (h := ?_) | refine ws (h := ?_)) | (show RunQ _ _ _ _ _ _; first | refine wqb (ht := ?_) (hf := ?_) | refine wqq (h := ?_) | refine wqs (h := ?_)) | refine ev_seq ?_ | refine ev_region ?_ | refine ev_draw (by kernel_rfl) (by kernel_rfl) ?_ | refine qn ?_ | refine run_nil ?_ | refine ev_block ?_ | refine ev_skip ?_ | refine ev_exit ?_ | refine ev_ret ?_)
      refine ev_cond rfl (fun hc3 => ?_) (fun hc3 => ?_)
      · obtain ⟨z, z1, z2, z3, z4, z5, z6⟩ := round_in hll hn hc3
        rw [z5, rdAdd] at hK1
        have hlk := set_look z c
        have hgt := set_get z c
        cases he : c.any (· == z) with
        | true =>
          rw [he] at hgt hK1
          repeat' (first | (refine wlook hlk hgt (h := ?_)) | (show RunS _ _ _ _ _ _ _; first | refine wq (h := ?_) | refine we (h := ?_) | refine ws (h := ?_) | refine rg rfl rfl (fun _ => ?_) (fun _ => ?_)) | (show RunQ _ _ _ _ _ _; first | refine wqb (ht := ?_) (hf := ?_) | refine wqq (h := ?_) | refine wqs (h := ?_)) | refine ev_seq ?_ | refine ev_region ?_ | refine ev_draw (by kernel_rfl) (by kernel_rfl) ?_ | refine qn ?_ | refine run_nil ?_ | refine ev_block ?_ | refine ev_skip ?_ | refine ev_exit ?_ | refine ev_ret ?_ | refine ev_condt rfl ?_ | refine ev_condf rfl ?_ | refine ev_cond rfl (fun _ => ?_) (fun _ => ?_) | (intro h; exfalso; simp at h; done) | (intro _))
          exact ⟨c, z1, ⟨hK1, by omega⟩, by (refine at_shift ?_ ?_ ?_ ?_ rfl rfl <;> repeat (first | refine same1 rfl ?_ | refine has1 rfl rfl ?_ | refine has1 rfl (by simp [normD, *]) ?_ | exact has0 | exact same0))⟩
        | false =>
          rw [he] at hgt hK1
          rw [set_none he] at hlk hgt
          repeat' (first | (refine wlook hlk hgt (h := ?_)) | (refine wput hlk (h := ?_)) | (refine wapp (hb := by simp; omega) (h := ?_)) | (show RunS _ _ _ _ _ _ _; first | refine wq (h := ?_) | refine we (h := ?_) | refine ws (h := ?_) | refine rg rfl rfl (fun _ => ?_) (fun _ => ?_)) | (show RunQ _ _ _ _ _ _; first | refine wqb (ht := ?_) (hf := ?_) | refine wqq (h := ?_) | refine wqs (h := ?_)) | refine ev_seq ?_ | refine ev_region ?_ | refine ev_draw (by kernel_rfl) (by kernel_rfl) ?_ | refine qn ?_ | refine run_nil ?_ | refine ev_block ?_ | refine ev_skip ?_ | refine ev_exit ?_ | refine ev_ret ?_ | refine ev_condt rfl ?_ | refine ev_condf rfl ?_ | refine ev_cond rfl (fun _ => ?_) (fun _ => ?_) | (intro h; exfalso; simp at h; done) | (intro _))
          exact ⟨c ++ [z], z1, ⟨hK1, by simp; omega⟩, by (refine at_shift ?_ ?_ ?_ ?_ rfl rfl <;> repeat (first | refine same1 rfl ?_ | refine has1 rfl rfl ?_ | refine has1 rfl (by first | (simp [normD, setE, mapPut, constV, *]; done) | (simp [normD, setE, mapPut, constV, *]; rfl)) ?_ | exact has0 | exact same0))⟩
      · obtain ⟨z1, z2⟩ := round_out hll hn hc3
        rw [z2] at hK1
        repeat' (first | (show RunS _ _ _ _ _ _ _; first | refine wq (h := ?_) | refine we (h := ?_) | refine ws (h := ?_) | refine rg rfl rfl (fun _ => ?_) (fun _ => ?_)) | (show RunQ _ _ _ _ _ _; first | refine wqb (ht := ?_) (hf := ?_) | refine wqq (h := ?_) | refine wqs (h := ?_)) | refine ev_seq ?_ | refine ev_region ?_ | refine ev_draw (by kernel_rfl) (by kernel_rfl) ?_ | refine qn ?_ | refine run_nil ?_ | refine ev_block ?_ | refine ev_skip ?_ | refine ev_exit ?_ | refine ev_ret ?_ | refine ev_condt rfl ?_ | refine ev_condf rfl ?_ | refine ev_cond rfl (fun _ => ?_) (fun _ => ?_) | (intro h; exfalso; simp at h; done) | (intro _))
        exact ⟨(row ++ [(fitsV w x y known).1], c), y1, ⟨by rw [hJ1, rowV, hl, hK1]; rfl, by simp [hJ2], by dsimp only; omega⟩, by (refine at_shift ?_ ?_ ?_ ?_ rfl rfl <;> repeat (first | refine same1 rfl ?_ | refine has1 rfl rfl ?_ | refine has1 rfl (by first | (simp [normD, *]; done) | (exact congrArg (Blk.sl true 4 1) (fill_set vb false _ hJ2 y1 (by omega))) | (simp; omega)) ?_ | exact has0 | exact same0))⟩
    · obtain ⟨zj, z2⟩ := round_out hlr hj hc2
      rw [z2] at hJ1
      have hz : row ++ List.replicate (r.length - j) false = row := by simp [zj]
      repeat' (first | (refine run_shift (shift_freezes 14 (hO _) rfl rfl rfl) ?_) | (refine wapp (hb := by simp; omega) (h := ?_)) | (show RunS _ _ _ _ _ _ _; first | refine wq (h := ?_) | refine we (h := ?_) | refine ws (h := ?_) | refine rg rfl rfl (fun _ => ?_) (fun _ => ?_)) | (show RunQ _ _ _ _ _ _; first | refine wqb (ht := ?_) (hf := ?_) | refine wqq (h := ?_) | refine wqs (h := ?_)) | refine ev_seq ?_ | refine ev_region ?_ | refine ev_draw (by kernel_rfl) (by kernel_rfl) ?_ | refine qn ?_ | refine run_nil ?_ | refine ev_block ?_ | refine ev_skip ?_ | refine ev_exit ?_ | refine ev_ret ?_ | refine ev_condt rfl ?_ | refine ev_condf rfl ?_ | refine ev_cond rfl (fun _ => ?_) (fun _ => ?_) | (intro h; exfalso; simp at h; done) | (intro _))
      exact ⟨(t ++ [row], acc2), h1, ⟨by rw [hI1, tabV, hJ1]; rfl, by simp; omega, by dsimp only; omega⟩, by (refine at_shift ?_ ?_ ?_ ?_ rfl rfl <;> repeat (first | refine same1 rfl ?_ | refine has1 rfl rfl ?_ | refine has1 rfl (by first | (simp [normD, rowE, hz, *]; done)) ?_ | exact has0 | exact same0))⟩
  · obtain ⟨z1, z2⟩ := round_out hls hk hc
    obtain ⟨hI1, hI2, hI3⟩ := hI
    rw [z2] at hI1
    repeat' (first | (refine run_shift (shift_freezes 8 (hO _) rfl rfl rfl) ?_) | (refine run_shift (shift_freezes 9 (hO _) rfl rfl rfl) ?_) | (show RunS _ _ _ _ _ _ _; first | refine wq (h := ?_) | refine we (h := ?_) | refine ws (h := ?_) | refine rg rfl rfl (fun _ => ?_) (fun _ => ?_)) | (show RunQ _ _ _ _ _ _; first | refine wqb (ht := ?_) (hf := ?_) | refine wqq (h := ?_) | refine wqs (h := ?_)) | refine ev_seq ?_ | refine ev_region ?_ | refine ev_draw (by kernel_rfl) (by kernel_rfl) ?_ | refine qn ?_ | refine run_nil ?_ | refine ev_block ?_ | refine ev_skip ?_ | refine ev_exit ?_ | refine ev_ret ?_ | refine ev_condt rfl ?_ | refine ev_condf rfl ?_ | refine ev_cond rfl (fun _ => ?_) (fun _ => ?_) | (intro h; exfalso; simp at h; done) | (intro _))
    exact ret3_l (a := t) (b := acc) rfl rfl rfl rfl (fun h => by cases h; rfl) (fun h => by cases h; rfl) (by rw [hV, hI1]; rfl)
end Bf
