import Derived.Test.YteecgmkfbohpjaaT17
namespace Bf
open Go Go.RowKit Go.Proofs
attribute [local irreducible] Quiet Effect RunS Ev PureC Shift RunQ HasF SameF

def ptsGo (g : Nat → Int) : Nat → Nat → List Point
  | _, 0 => []
  | d, n + 1 => (bif decide (0 ≤ g d) then [⟨(d : Int), g d⟩] else []) ++ ptsGo g (d + 1) n
def pointsV (l : List Fact) (k : Key) (a b known : Int) : List Point := ptsGo (dayV l k known) (max 0 a).toNat (min b 1024 - max 0 a).toNat
theorem rowV1_len (l : List Fact) (k : Key) (known : Int) : ((rowV1 l k known).map vi).length = 1024 := by simp [rowV1]
theorem rowV1_pl (l : List Fact) (k : Key) (known : Int) : ∀ x ∈ (rowV1 l k known).map vi, x.isSt = false ∧ x.plain = true := by simp [V.isSt, V.plain]
theorem rowV1_get (l : List Fact) (k : Key) (known : Int) {i : Nat} (h : i < 1024) : ((rowV1 l k known).map vi)[i]? = some (vi (dayV l k known i)) := by simp [rowV1, h]
theorem rep_len (v : V) : (List.replicate 1024 v).length = 1024 := List.length_replicate
attribute [local irreducible] rowV1
set_option maxRecDepth 20000 in
theorem points_c (l : List Fact) (k : Key) (a b known : Int) : PureC Try.prog true 50 [.l 8 (l.map Fact.enc), k.enc, vi a, vi b, vi known] (.l 2 ((pointsV l k a b known).map Point.enc)) := by
  refine pure_intro (N := 38) Try.func50 rfl rfl rfl rfl fun C hO => ?_
  have e1 := rowV1_len l k known
  have e2 := rowV1_pl l k known
  have e3 := rep_len (zeroE (Value.int .i64 0))
  repeat' (first | (refine run_shift (shift_freeze 6 (hO _) rfl rfl rfl) ?_) | (show RunS _ _ _ _ _ _ _; first | refine wq (h := ?_) | refine wc (values_c _ _ _) (h := ?_) | refine wca (values_c _ _ _) (h := ?_) | refine we (h := ?_) | refine ws (h := ?_) | refine rg rfl rfl (fun _ => ?_) (fun _ => ?_)) | (show RunQ _ _ _ _ _ _; first | refine wqb (ht := ?_) (hf := ?_) | refine wqbc (values_c _ _ _) (ht := ?_) (hff := ?_) | refine wqq (h := ?_) | refine wqc (values_c _ _ _) (h := ?_) | refine wqca (values_c _ _ _) (h := ?_) | refine wqs (h := ?_)) | refine ev_seq ?_ | refine ev_region ?_ | refine ev_draw (by kernel_rfl) (by kernel_rfl) ?_ | refine qn ?_ | refine run_nil ?_ | refine ev_block ?_ | refine ev_skip ?_ | refine ev_exit ?_ | refine ev_ret ?_ | refine ev_condt rfl ?_ | refine ev_condf rfl ?_ | refine ev_cond rfl (fun _ => ?_) (fun _ => ?_) | (intro h; exfalso; simp at h; done) | (intro _))
  clear e3
  refine ev_shift (shift_own 10 1010 106 2 rfl) ?_
  generalize hd0 : (max 0 a).toNat = d0
  have hd0' : max 0 a = (d0 : Int) := by omega
  generalize hm : (min b 1024 - max 0 a).toNat = m
  have hP : pointsV l k a b known = ptsGo (dayV l k known) d0 m := by simp [pointsV, hd0, hm]
  refine ev_forA (α := List Point) m (fun j acc => ptsGo (dayV l k known) d0 m = acc ++ ptsGo (dayV l k known) (d0 + j) (m - j) ∧ acc.length ≤ j) [3, 11]
    (fun j acc => [(12, .v true (.i .i64 ((d0 + j : Nat) : Int))), (10, .o 1010 (acc.map Point.enc).length)]) [11] (fun j acc => [(1010, .sl true 106 2 (acc.map Point.enc))]) [] ⟨rfl, Nat.le_refl _⟩ ?_ fun j acc hj hJ => ?_
  · (refine at_shift ?_ ?_ ?_ ?_ rfl rfl <;> repeat (first | refine same1 rfl ?_ | refine has1 rfl rfl ?_ | refine has1 rfl (by exact congrArg (fun z => D.v true (V.i .i64 z)) hd0') ?_ | exact has0 | exact same0))
  obtain ⟨hJ1, hJ2⟩ := hJ
  refine ev_seq ?_
  repeat (first | (show RunS _ _ _ _ _ _ _; first | refine wq (h := ?_) | refine we (h := ?_) | refine ws (h := ?_)) | (show RunQ _ _ _ _ _ _; first | refine wqb (ht := ?_) (hf := ?_) | refine wqq (h := ?_) | refine wqs (h := ?_)) | refine ev_seq ?_ | refine ev_region ?_ | refine ev_draw (by kernel_rfl) (by kernel_rfl) ?_ | refine qn ?_ | refine run_nil ?_ | refine ev_block ?_ | refine ev_skip ?_ | refine ev_exit ?_ | refine ev_ret ?_)
  refine ev_cond rfl (fun hc => ?_) (fun hc => ?_)
  · have hlt : ((d0 + j : Nat) : Int) < b ∧ d0 + j < 1024 := by have := of_decide_eq_true hc; omega
    have g0 : (0 : Int) ≤ ((d0 + j : Nat) : Int) := by omega
    have g1 : ((d0 + j : Nat) : Int) < ((1024 : Nat) : Int) := by omega
    have g2 : ((rowV1 l k known).map vi)[(((d0 + j : Nat) : Int)).toNat]? = some (vi (dayV l k known (d0 + j))) := by rw [Int.toNat_natCast]; exact rowV1_get l k known hlt.2
    have hw : IntKind.i64.wrap (((d0 + j : Nat) : Int) + 1) = ((d0 + (j + 1) : Nat) : Int) := by rw [IntWalk.i64_in _ (by omega)]; omega
    have hjm : j < m := by omega
    have hs : m - j = (m - (j + 1)) + 1 := by omega
    rw [hs, ptsGo] at hJ1
    repeat' (first | (refine wapp (hb := by simp; omega) (h := ?_)) | (show RunS _ _ _ _ _ _ _; first | refine wq (h := ?_) | refine we (h := ?_) | refine ws (h := ?_) | refine rg rfl rfl (fun _ => ?_) (fun _ => ?_)) | (show RunQ _ _ _ _ _ _; first | refine wqb (ht := ?_) (hf := ?_) | refine wqq (h := ?_) | refine wqs (h := ?_)) | refine ev_seq ?_ | refine ev_region ?_ | refine ev_draw (by kernel_rfl) (by kernel_rfl) ?_ | refine qn ?_ | refine run_nil ?_ | refine ev_block ?_ | refine ev_skip ?_ | refine ev_exit ?_ | refine ev_ret ?_ | refine ev_condt rfl ?_ | refine ev_condf rfl ?_ | refine ev_cond rfl (fun _ => ?_) (fun _ => ?_) | (intro h; exfalso; simp at h; done) | (intro _))
    · rename_i h
      rw [h] at hJ1
      refine ⟨acc ++ [⟨((d0 + j : Nat) : Int), dayV l k known (d0 + j)⟩], hjm, ⟨by rw [hJ1, List.append_assoc]; rfl, by simp; omega⟩, ?_⟩
      (refine at_shift ?_ ?_ ?_ ?_ rfl rfl <;> repeat (first | refine same1 rfl ?_ | refine has1 rfl rfl ?_ | refine has1 rfl (by first | (exact congrArg (fun z => D.v true (V.i .i64 z)) hw) | (simp [normD, Point.enc]; done) | (simp [normD, Point.enc]; rfl)) ?_ | exact has0 | exact same0))
    · rename_i h
      rw [h] at hJ1
      refine ⟨acc, hjm, ⟨by rw [hJ1]; rfl, by omega⟩, ?_⟩
      (refine at_shift ?_ ?_ ?_ ?_ rfl rfl <;> repeat (first | refine same1 rfl ?_ | refine has1 rfl rfl ?_ | refine has1 rfl (by first | (exact congrArg (fun z => D.v true (V.i .i64 z)) hw)) ?_ | exact has0 | exact same0))
  · have hge := of_decide_eq_false hc
    have hz : m - j = 0 := by omega
    rw [hz, ptsGo, List.append_nil] at hJ1
    repeat' (first | (refine run_shift (shift_freezes 10 (hO _) rfl rfl rfl) ?_) | (show RunS _ _ _ _ _ _ _; first | refine wq (h := ?_) | refine we (h := ?_) | refine ws (h := ?_) | refine rg rfl rfl (fun _ => ?_) (fun _ => ?_)) | (show RunQ _ _ _ _ _ _; first | refine wqb (ht := ?_) (hf := ?_) | refine wqq (h := ?_) | refine wqs (h := ?_)) | refine ev_seq ?_ | refine ev_region ?_ | refine ev_draw (by kernel_rfl) (by kernel_rfl) ?_ | refine qn ?_ | refine run_nil ?_ | refine ev_block ?_ | refine ev_skip ?_ | refine ev_exit ?_ | refine ev_ret ?_ | refine ev_condt rfl ?_ | refine ev_condf rfl ?_ | refine ev_cond rfl (fun _ => ?_) (fun _ => ?_) | (intro h; exfalso; simp at h; done) | (intro _))
    exact ret1 rfl (fun h => by cases h; rfl) (by rw [hP, hJ1]) rfl

def alikeV (l : List Fact) (reads : List Read) (before after : Int) : Bool := reads.all fun r => pointsV l r.key r.from_ r.to before == pointsV l r.key r.from_ r.to after
theorem alike_cons (l : List Fact) (x : Read) (r : List Read) (b a : Int) : alikeV l (x :: r) b a = ((pointsV l x.key x.from_ x.to b == pointsV l x.key x.from_ x.to a) && alikeV l r b a) := rfl
theorem alike_c (l : List Fact) (reads : List Read) (before after : Int) : PureC Try.prog true 26 [.l 8 (l.map Fact.enc), .l 5 (reads.map Read.enc), vi before, vi after] (.b (alikeV l reads before after)) := by
  refine pure_len fun hL => pure_intro (N := 38) Try.func26 rfl rfl rfl rfl fun C hO => ?_
  have hlr := len1 hL
  repeat' (first | (show RunS _ _ _ _ _ _ _; first | refine wq (h := ?_) | refine we (h := ?_) | refine ws (h := ?_) | refine rg rfl rfl (fun _ => ?_) (fun _ => ?_)) | (show RunQ _ _ _ _ _ _; first | refine wqb (ht := ?_) (hf := ?_) | refine wqq (h := ?_) | refine wqs (h := ?_)) | refine ev_seq ?_ | refine ev_region ?_ | refine ev_draw (by kernel_rfl) (by kernel_rfl) ?_ | refine qn ?_ | refine run_nil ?_ | refine ev_block ?_ | refine ev_skip ?_ | refine ev_exit ?_ | refine ev_ret ?_ | refine ev_condt rfl ?_ | refine ev_condf rfl ?_ | refine ev_cond rfl (fun _ => ?_) (fun _ => ?_) | (intro h; exfalso; simp at h; done) | (intro _))
  refine ev_forP reads.length (fun j => alikeV l reads before after = alikeV l (reads.drop j) before after) [0, 2, 3, 11, 12] (fun j => [(13, .v true (.i .i64 (cN j)))]) [] (fun _ => []) rfl ?_ fun j hj hI => ?_
  · (refine at_shift ?_ ?_ ?_ ?_ rfl rfl <;> repeat (first | refine same1 rfl ?_ | refine has1 rfl rfl ?_ | refine has1 rfl (by simp [normD, *]) ?_ | exact has0 | exact same0))
  refine ev_seq ?_
  repeat (first | (show RunS _ _ _ _ _ _ _; first | refine wq (h := ?_) | refine we (h := ?_) | refine ws (h := ?_)) | (show RunQ _ _ _ _ _ _; first | refine wqb (ht := ?_) (hf := ?_) | refine wqq (h := ?_) | refine wqs (h := ?_)) | refine ev_seq ?_ | refine ev_region ?_ | refine ev_draw (by kernel_rfl) (by kernel_rfl) ?_ | refine qn ?_ | refine run_nil ?_ | refine ev_block ?_ | refine ev_skip ?_ | refine ev_exit ?_ | refine ev_ret ?_)
  refine ev_cond rfl (fun hc => ?_) (fun hc => ?_)
  · obtain ⟨x, h1, h2, h3, h4, h5, h6⟩ := round_in hlr hj hc
    rw [h5, alike_cons] at hI
    repeat' (first | (show RunS _ _ _ _ _ _ _; first | refine wq (h := ?_) | refine wc (points_c l x.key _ _ _) (h := ?_) | refine wca (points_c l x.key _ _ _) (h := ?_) | refine wc (equalPoints_c _ _) (h := ?_) | refine wca (equalPoints_c _ _) (h := ?_) | refine we (h := ?_) | refine ws (h := ?_) | refine rg rfl rfl (fun _ => ?_) (fun _ => ?_)) | (show RunQ _ _ _ _ _ _; first | refine wqb (ht := ?_) (hf := ?_) | refine wqbc (points_c l x.key _ _ _) (ht := ?_) (hff := ?_) | refine wqbc (equalPoints_c _ _) (ht := ?_) (hff := ?_) | refine wqq (h := ?_) | refine wqc (points_c l x.key _ _ _) (h := ?_) | refine wqca (points_c l x.key _ _ _) (h := ?_) | refine wqc (equalPoints_c _ _) (h := ?_) | refine wqca (equalPoints_c _ _) (h := ?_) | refine wqs (h := ?_)) | refine ev_seq ?_ | refine ev_region ?_ | refine ev_draw (by kernel_rfl) (by kernel_rfl) ?_ | refine qn ?_ | refine run_nil ?_ | refine ev_block ?_ | refine ev_skip ?_ | refine ev_exit ?_ | refine ev_ret ?_ | refine ev_condt rfl ?_ | refine ev_condf rfl ?_ | refine ev_cond rfl (fun _ => ?_) (fun _ => ?_) | (intro h; exfalso; simp at h; done) | (intro _))
    · rename_i h
      exact ret1b rfl rfl (by rw [hI]; simp at h; simp [h])
    · rename_i h
      exact ⟨h1, by rw [hI]; simp at h; simp [h], by (refine at_shift ?_ ?_ ?_ ?_ rfl rfl <;> repeat (first | refine same1 rfl ?_ | refine has1 rfl rfl ?_ | refine has1 rfl (by simp [normD, *]) ?_ | exact has0 | exact same0))⟩
  · obtain ⟨h1, h2⟩ := round_out hlr hj hc
    repeat' (first | (show RunS _ _ _ _ _ _ _; first | refine wq (h := ?_) | refine we (h := ?_) | refine ws (h := ?_) | refine rg rfl rfl (fun _ => ?_) (fun _ => ?_)) | (show RunQ _ _ _ _ _ _; first | refine wqb (ht := ?_) (hf := ?_) | refine wqq (h := ?_) | refine wqs (h := ?_)) | refine ev_seq ?_ | refine ev_region ?_ | refine ev_draw (by kernel_rfl) (by kernel_rfl) ?_ | refine qn ?_ | refine run_nil ?_ | refine ev_block ?_ | refine ev_skip ?_ | refine ev_exit ?_ | refine ev_ret ?_ | refine ev_condt rfl ?_ | refine ev_condf rfl ?_ | refine ev_cond rfl (fun _ => ?_) (fun _ => ?_) | (intro h; exfalso; simp at h; done) | (intro _))
    exact ret1b rfl rfl (by rw [hI, h2]; rfl)
end Bf
