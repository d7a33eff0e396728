import Derived.Test.YteecgmkfbohpjaaT2
namespace Bf
open Go Go.RowKit Go.Proofs
attribute [local irreducible] Quiet Effect RunS Ev PureC Shift RunQ HasF SameF

def idxOf {α : Type} (p : α → Bool) : List α → Nat → Int
  | [], _ => -1
  | x :: xs, k => if p x then k else idxOf p xs (k + 1)
theorem idxOf_any {α : Type} (p : α → Bool) : ∀ (xs : List α) (k : Nat), decide (idxOf p xs k ≥ 0) = xs.any p
  | [], k => by simp [idxOf]
  | x :: xs, k => by
    unfold idxOf
    rw [List.any_cons]
    cases h : p x with
    | true => simp
    | false => simpa using idxOf_any p xs (k + 1)
theorem len0 {α : Type} {enc : α → V} {z : Nat} {xs : List α} {ds : List V} (hL : ∀ x ∈ V.l z (xs.map enc) :: ds, LenOk x) : xs.length ≤ maxLen := by simpa using (hL _ (List.mem_cons_self ..)).len
theorem len1 {α : Type} {enc : α → V} {z : Nat} {xs : List α} {d : V} {ds : List V} (hL : ∀ x ∈ d :: V.l z (xs.map enc) :: ds, LenOk x) : xs.length ≤ maxLen := len0 fun x hx => hL x (List.mem_cons_of_mem _ hx)
theorem len2 {α : Type} {enc : α → V} {z : Nat} {xs : List α} {d d' : V} {ds : List V} (hL : ∀ x ∈ d :: d' :: V.l z (xs.map enc) :: ds, LenOk x) : xs.length ≤ maxLen := len1 fun x hx => hL x (List.mem_cons_of_mem _ hx)

structure Request where
  (no item customer due shelf amount : Int)
def Request.enc (r : Request) : V := .st [vi r.no, vi r.item, vi r.customer, vi r.due, vi r.shelf, vi r.amount]
def Request.ok (s : Request) : Bool := inB s.no 0 1023 && (inB s.item 0 31 && (inB s.customer 0 4095 && (inB s.due 0 1023 && (inB s.shelf 0 1024 && inB s.amount 0 1048576))))
theorem request_c (s : Request) : PureC Try.prog true 32 [s.enc] (.b s.ok) := by
  refine pure_intro (N := 31) Try.func32 rfl rfl rfl rfl fun C hO => ?_
  repeat' (first | (show RunS _ _ _ _ _ _ _; first | refine wq (h := ?_) | refine wc (in_c _ _ _) (h := ?_) | refine wca (in_c _ _ _) (h := ?_) | refine we (h := ?_) | refine ws (h := ?_) | refine rg rfl rfl (fun _ => ?_) (fun _ => ?_)) | (show RunQ _ _ _ _ _ _; first | refine wqb (ht := ?_) (hf := ?_) | refine wqbc (in_c _ _ _) (ht := ?_) (hff := ?_) | refine wqq (h := ?_) | refine wqc (in_c _ _ _) (h := ?_) | refine wqca (in_c _ _ _) (h := ?_) | refine wqs (h := ?_)) | refine ev_seq ?_ | refine ev_region ?_ | refine ev_draw (by kernel_rfl) (by kernel_rfl) ?_ | refine qn ?_ | refine run_nil ?_ | refine ev_block ?_ | refine ev_skip ?_ | refine ev_exit ?_ | refine ev_ret ?_ | refine ev_condt rfl ?_ | refine ev_condf rfl ?_ | refine ev_cond rfl (fun _ => ?_) (fun _ => ?_) | (intro h; exfalso; simp at h; done) | (intro _))
  all_goals exact ret1b rfl rfl (by simp [Request.ok, *])
structure Swap where
  (a b : ByteArray)
  (ano bno : Int)
def Swap.enc (s : Swap) : V := .st [.s s.a, .s s.b, vi s.ano, vi s.bno]
def rowE (r : List Bool) : V := .l 1 (r.map vb)

theorem idxSupply_c (xs : List (Supply)) (p : (Supply) → Bool) (g : FuncId) (caps : List V) [TFn Try.prog g] (hg : ∀ x ∈ xs, PureC Try.prog true g (Supply.enc x :: caps) (.b (p x))) : PureC Try.prog true 64 [.l 6 (xs.map Supply.enc), .c g caps] (.i .i64 (idxOf p xs 0)) := by
  refine pure_len fun hL => pure_intro (N := 19) Try.func64 rfl rfl rfl rfl fun C hO => ?_
  have hla := len0 hL
  repeat' (first | (show RunS _ _ _ _ _ _ _; first | refine wq (h := ?_) | refine we (h := ?_) | refine ws (h := ?_) | refine rg rfl rfl (fun _ => ?_) (fun _ => ?_)) | (show RunQ _ _ _ _ _ _; first | refine wqb (ht := ?_) (hf := ?_) | refine wqq (h := ?_) | refine wqs (h := ?_)) | refine ev_seq ?_ | refine ev_region ?_ | refine ev_draw (by kernel_rfl) (by kernel_rfl) ?_ | refine qn ?_ | refine run_nil ?_ | refine ev_block ?_ | refine ev_skip ?_ | refine ev_exit ?_ | refine ev_ret ?_ | refine ev_condt rfl ?_ | refine ev_condf rfl ?_ | refine ev_cond rfl (fun _ => ?_) (fun _ => ?_) | (intro h; exfalso; simp at h; done) | (intro _))
  refine ev_forP xs.length (fun k => idxOf p xs 0 = idxOf p (xs.drop k) k) [0, 1, 7] (fun k => [(8, .v true (.i .i64 (cN k)))]) [] (fun _ => []) rfl ?_ fun k hk hI => ?_
  · (refine at_shift ?_ ?_ ?_ ?_ rfl rfl <;> repeat (first | refine same1 rfl ?_ | refine has1 rfl rfl ?_ | refine has1 rfl (by simp [normD, *]) ?_ | exact has0 | exact same0))
  have hcn := cN_eq (Nat.le_trans hk hla)
  refine ev_seq ?_
  repeat (first | (show RunS _ _ _ _ _ _ _; first | refine wq (h := ?_) | refine we (h := ?_) | refine ws (h := ?_)) | (show RunQ _ _ _ _ _ _; first | refine wqb (ht := ?_) (hf := ?_) | refine wqq (h := ?_) | refine wqs (h := ?_)) | refine ev_seq ?_ | refine ev_region ?_ | refine ev_draw (by kernel_rfl) (by kernel_rfl) ?_ | refine qn ?_ | refine run_nil ?_ | refine ev_block ?_ | refine ev_skip ?_ | refine ev_exit ?_ | refine ev_ret ?_)
  refine ev_cond rfl (fun hc => ?_) (fun hc => ?_)
  · obtain ⟨x, h1, h2, h3, h4, h5, h6⟩ := round_in hla hk hc
    rw [h5, idxOf] at hI
    repeat' (first | (show RunS _ _ _ _ _ _ _; first | refine wq (h := ?_) | refine wc (hg _ h6) (h := ?_) | refine wca (hg _ h6) (h := ?_) | refine we (h := ?_) | refine ws (h := ?_) | refine rg rfl rfl (fun _ => ?_) (fun _ => ?_)) | (show RunQ _ _ _ _ _ _; first | refine wqb (ht := ?_) (hf := ?_) | refine wqbc (hg _ h6) (ht := ?_) (hff := ?_) | refine wqq (h := ?_) | refine wqc (hg _ h6) (h := ?_) | refine wqca (hg _ h6) (h := ?_) | refine wqs (h := ?_)) | refine ev_seq ?_ | refine ev_region ?_ | refine ev_draw (by kernel_rfl) (by kernel_rfl) ?_ | refine qn ?_ | refine run_nil ?_ | refine ev_block ?_ | refine ev_skip ?_ | refine ev_exit ?_ | refine ev_ret ?_ | refine ev_condt rfl ?_ | refine ev_condf rfl ?_ | refine ev_cond rfl (fun _ => ?_) (fun _ => ?_) | (intro h; exfalso; simp at h; done) | (intro _))
    · rename_i h
      rw [h, if_pos rfl] at hI
      exact ret1i rfl rfl (by rw [hI, hcn])
    · rename_i h
      rw [h] at hI
      exact ⟨h1, by simpa using hI, by (refine at_shift ?_ ?_ ?_ ?_ rfl rfl <;> repeat (first | refine same1 rfl ?_ | refine has1 rfl rfl ?_ | refine has1 rfl (by simp [normD, *]) ?_ | exact has0 | exact same0))⟩
  · obtain ⟨h1, h2⟩ := round_out hla hk hc
    repeat' (first | (show RunS _ _ _ _ _ _ _; first | refine wq (h := ?_) | refine we (h := ?_) | refine ws (h := ?_) | refine rg rfl rfl (fun _ => ?_) (fun _ => ?_)) | (show RunQ _ _ _ _ _ _; first | refine wqb (ht := ?_) (hf := ?_) | refine wqq (h := ?_) | refine wqs (h := ?_)) | refine ev_seq ?_ | refine ev_region ?_ | refine ev_draw (by kernel_rfl) (by kernel_rfl) ?_ | refine qn ?_ | refine run_nil ?_ | refine ev_block ?_ | refine ev_skip ?_ | refine ev_exit ?_ | refine ev_ret ?_ | refine ev_condt rfl ?_ | refine ev_condf rfl ?_ | refine ev_cond rfl (fun _ => ?_) (fun _ => ?_) | (intro h; exfalso; simp at h; done) | (intro _))
    exact ret1i rfl rfl (by rw [hI, h2]; rfl)
