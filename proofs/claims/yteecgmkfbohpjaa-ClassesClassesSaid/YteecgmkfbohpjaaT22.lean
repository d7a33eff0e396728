import Derived.Test.YteecgmkfbohpjaaT21
namespace Bf
open Go Go.RowKit Go.Proofs

/-! The plain laws of tables: no program in sight. -/
def rdR (w : Wld) (x : Supply) (known : Int) : List Request → List Read → List Read
  | [], acc => acc
  | y :: ys, acc => rdR w x known ys (rdAdd acc (fitsV w x y known).2)
def rdT (w : Wld) (r : List Request) (known : Int) : List Supply → List Read → List Read
  | [], acc => acc
  | x :: xs, acc => rdT w r known xs (rdR w x known r acc)
theorem rowV_eq (w : Wld) (x : Supply) (known : Int) : ∀ (ys : List Request) (row : List Bool) (acc : List Read), rowV w x known ys row acc = (row ++ ys.map (fun y => (fitsV w x y known).1), rdR w x known ys acc)
  | [], row, acc => by simp [rowV, rdR]
  | y :: ys, row, acc => by rw [rowV, rowV_eq w x known ys, rdR]; simp
theorem tabV_eq (w : Wld) (r : List Request) (known : Int) : ∀ (xs : List Supply) (t : List (List Bool)) (acc : List Read), tabV w r known xs t acc = (t ++ xs.map (fun x => r.map fun y => (fitsV w x y known).1), rdT w r known xs acc)
  | [], t, acc => by simp [tabV, rdT]
  | x :: xs, t, acc => by rw [tabV, tabV_eq w r known xs, rdT, rowV_eq]; simp
theorem fitsV_len1 {w : Wld} {x : Supply} {y : Request} {known : Int} (h : (fitsV w x y known).1 = true) : (fitsV w x y known).2.length = 1 := by
  unfold fitsV at *
  cases hf : x.fits w y with
  | true => simp
  | false => rw [hf] at h; simp at h
theorem fitsV_mem {w : Wld} {x : Supply} {y : Request} {known : Int} {z : Read} (h : z ∈ (fitsV w x y known).2) :
    x.fits w y = true ∧ z = ⟨⟨7, y.customer, x.item⟩, y.due, IntKind.i64.wrap (y.due + 1)⟩ ∧ (fitsV w x y known).1 = ((!(atV w.facts z.key y.due known).2) || ((atV w.facts z.key y.due known).1 != 1)) := by
  unfold fitsV at *
  cases hf : x.fits w y with
  | true => rw [hf] at h; simp at h; subst h; simp
  | false => rw [hf] at h; simp at h
theorem fitsV_reads (w : Wld) (x : Supply) (y : Request) (b a : Int) : (fitsV w x y b).2 = (fitsV w x y a).2 := by unfold fitsV; cases x.fits w y <;> rfl
theorem rdR_reads (w : Wld) (x : Supply) (b a : Int) : ∀ (ys : List Request) (acc : List Read), rdR w x b ys acc = rdR w x a ys acc
  | [], _ => rfl
  | y :: ys, acc => by rw [rdR, rdR, fitsV_reads w x y b a, rdR_reads w x b a ys]
theorem rdT_reads (w : Wld) (r : List Request) (b a : Int) : ∀ (xs : List Supply) (acc : List Read), rdT w r b xs acc = rdT w r a xs acc
  | [], _ => rfl
  | x :: xs, acc => by rw [rdT, rdT, rdR_reads w x b a, rdT_reads w r b a xs]
theorem rdAdd_mono {z : Read} : ∀ (l acc : List Read), z ∈ acc → z ∈ rdAdd acc l
  | [], _, h => h
  | y :: l, acc, h => by
    rw [rdAdd]
    refine rdAdd_mono l _ ?_
    cases acc.any (· == y) <;> simp [h]
theorem rdAdd_mem {z : Read} : ∀ (l acc : List Read), z ∈ l → z ∈ rdAdd acc l
  | y :: l, acc, h => by
    rw [rdAdd]
    rcases List.mem_cons.1 h with rfl | h
    · refine rdAdd_mono l _ ?_
      cases hc : acc.any (· == z) with
      | false => simp
      | true =>
        obtain ⟨u, hu, e⟩ := List.any_eq_true.1 hc
        simp at e
        subst e
        simpa using hu
    · exact rdAdd_mem l _ h
theorem rdR_mono {z : Read} (w : Wld) (x : Supply) (known : Int) : ∀ (ys : List Request) (acc : List Read), z ∈ acc → z ∈ rdR w x known ys acc
  | [], _, h => h
  | y :: ys, acc, h => by rw [rdR]; exact rdR_mono w x known ys _ (rdAdd_mono _ _ h)
theorem rdR_mem {z : Read} (w : Wld) (x : Supply) (known : Int) {y : Request} (hz : z ∈ (fitsV w x y known).2) : ∀ (ys : List Request) (acc : List Read), y ∈ ys → z ∈ rdR w x known ys acc
  | u :: ys, acc, h => by
    rw [rdR]
    rcases List.mem_cons.1 h with rfl | h
    · exact rdR_mono w x known ys _ (rdAdd_mem _ _ hz)
    · exact rdR_mem w x known hz ys _ h
theorem rdT_mono {z : Read} (w : Wld) (r : List Request) (known : Int) : ∀ (xs : List Supply) (acc : List Read), z ∈ acc → z ∈ rdT w r known xs acc
  | [], _, h => h
  | x :: xs, acc, h => by rw [rdT]; exact rdT_mono w r known xs _ (rdR_mono _ _ _ _ _ h)
theorem rdT_mem {z : Read} (w : Wld) (r : List Request) (known : Int) {x : Supply} {y : Request} (hz : z ∈ (fitsV w x y known).2) (hy : y ∈ r) : ∀ (xs : List Supply) (acc : List Read), x ∈ xs → z ∈ rdT w r known xs acc
  | u :: xs, acc, h => by
    rw [rdT]
    rcases List.mem_cons.1 h with rfl | h
    · exact rdT_mono w r known xs _ (rdR_mem w x known hz r _ hy)
    · exact rdT_mem w r known hz hy xs _ h
theorem atV_day (l : List Fact) (k : Key) (known : Int) (d : Nat) : atV l k d known = if 0 ≤ dayV l k known d then (dayV l k known d, true) else (0, false) := by
  unfold atV dayV
  cases atStep d (l.filter (Fact.hit k known)) none with
  | none => rfl
  | some f =>
    simp only
    by_cases h : f.value < 0
    · rw [if_pos h, if_neg (by omega)]
    · rw [if_neg h, if_pos (by omega), show max f.value (-1) = f.value by omega]
theorem alike_fits {w : Wld} {x : Supply} {y : Request} {b a : Int} (h : ∀ z ∈ (fitsV w x y b).2, pointsV w.facts z.key z.from_ z.to b = pointsV w.facts z.key z.from_ z.to a) : (fitsV w x y b).1 = (fitsV w x y a).1 := by
  cases hf : x.fits w y with
  | false => simp [fitsV, hf]
  | true =>
    have h := h ⟨⟨7, y.customer, x.item⟩, y.due, IntKind.i64.wrap (y.due + 1)⟩ (by simp [fitsV, hf])
    have hy : y.ok = true := by simp [Supply.fits] at hf; exact hf.2.1
    have hd : 0 ≤ y.due ∧ y.due ≤ 1023 := by simp [Request.ok, inB] at hy; omega
    simp only at h
    rw [IntWalk.i64_in _ (by omega)] at h
    obtain ⟨d, hd'⟩ : ∃ d : Nat, y.due = d := ⟨y.due.toNat, by omega⟩
    have e1 : (max 0 y.due).toNat = d := by omega
    have e2 : (min (y.due + 1) 1024 - max 0 y.due).toNat = 1 := by omega
    simp only [pointsV, e1, e2, ptsGo, List.append_nil] at h
    simp only [fitsV, hf, cond_true, hd', atV_day]
    by_cases hb : 0 ≤ dayV w.facts ⟨7, y.customer, x.item⟩ b d <;> by_cases ha : 0 ≤ dayV w.facts ⟨7, y.customer, x.item⟩ a d <;> simp [hb, ha] at h ⊢
    rw [h]
theorem alike_table {w : Wld} {s : List Supply} {r : List Request} {b a : Int} (h : alikeV w.facts (rdT w r b s []) b a = true) : s.map (fun x => r.map fun y => (fitsV w x y b).1) = s.map (fun x => r.map fun y => (fitsV w x y a).1) := by
  refine List.map_congr_left fun x hx => List.map_congr_left fun y hy => alike_fits fun z hz => ?_
  have := List.all_eq_true.1 h z (rdT_mem w r b hz hy s [] hx)
  simpa using this
theorem tableV_ok (w : Wld) (s : List Supply) (r : List Request) (known : Int) : (tableV w s r known = ([], [], 290)) ∨ (tableV w s r known = (s.map (fun x => r.map fun y => (fitsV w x y known).1), rdT w r known s [], 0)) := by
  unfold tableV
  rw [tabV_eq]
  cases (decide (s.length ≤ 64) && (decide (r.length ≤ 64) && (s.all Supply.ok && r.all Request.ok)))
  · exact .inl rfl
  · exact .inr rfl
theorem tableV_both (w : Wld) (s : List Supply) (r : List Request) (b a : Int) : (tableV w s r b = ([], [], 290) ∧ tableV w s r a = ([], [], 290)) ∨
    (tableV w s r b = (s.map (fun x => r.map fun y => (fitsV w x y b).1), rdT w r b s [], 0) ∧ tableV w s r a = (s.map (fun x => r.map fun y => (fitsV w x y a).1), rdT w r b s [], 0)) := by
  unfold tableV
  rw [tabV_eq, tabV_eq, rdT_reads w r a b]
  cases (decide (s.length ≤ 64) && (decide (r.length ≤ 64) && (s.all Supply.ok && r.all Request.ok)))
  · exact .inl ⟨rfl, rfl⟩
  · exact .inr ⟨rfl, rfl⟩
end Bf
