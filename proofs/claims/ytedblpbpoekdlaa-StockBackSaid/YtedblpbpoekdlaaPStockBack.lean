/- Plain law: StockBack's model is true of all arguments. -/
import Derived.Test.YtedblpbpoekdlaaTE
import Derived.Test.YtedblpbpoekdlaaK2S
namespace Bf
open Go Go.RowKit Go.Proofs

def noF (fs : List GFact) (kn : Int) : Int := match fs.getLast? with | none => 0 | some l => bif l.known == kn then wr (l.no_ + 1) else 0
theorem put1 (key : GKey) (val : Int) (v : GSpan) (e : Int) (w : GWorld) (kn : Int) (hl : w.facts.length ≤ 100000) : stock_Put_1_m key val v e w kn = some (bif e != 0 then (e, w) else ((AddF w.facts ⟨key, val, v, kn, noF w.facts kn⟩).2, (⟨w.tables, (AddF w.facts ⟨key, val, v, kn, noF w.facts kn⟩).1⟩ : GWorld))) := by
  unfold stock_Put_1_m
  cases e != 0
  case true => rfl
  simp only [cond_false, jn]
  have hadd : ∀ n : Int, (bd (facts_Add_m w.facts (⟨key, val, v, kn, n⟩ : GFact)) fun x5 => some (x5.2, (⟨w.tables, x5.1⟩ : GWorld))) = some ((AddF w.facts ⟨key, val, v, kn, n⟩).2, (⟨w.tables, (AddF w.facts ⟨key, val, v, kn, n⟩).1⟩ : GWorld)) := fun n => by
    rw [bd_some (facts_Add w.facts _ hl)]
  rw [hadd 0]
  unfold noF
  cases h : w.facts.getLast? with
  | none =>
    have : w.facts = [] := by simpa using h
    rw [this]
    rfl
  | some l =>
    obtain ⟨h1, h2⟩ := last_idx (by omega) l h
    rw [h2, bdc_t rfl, bd_some h1]
    simp only [cond_true]
    cases hk : l.known == kn
    · rfl
    · simp only [cond_true]
      rw [bd_some h1, hadd]
/-- What was recorded: keys and values, for these days, at this time. -/
structure News (fs : List GFact) (v : GSpan) (kn : Int) (kvs : List (GKey × Int)) (fs' : List GFact) : Prop where
  ex : ∃ ns : List GFact, fs' = fs ++ ns ∧ ns.map (fun f => (f.key, f.value)) = kvs ∧ ∀ f ∈ ns, f.valid = v ∧ f.known = kn ∧ fitsF f = true
  chain : chainF fs' = true
  check : checkF fs' = 0
theorem News.step {fs : List GFact} {v : GSpan} {kn : Int} {kvs : List (GKey × Int)} (key : GKey) (val : Int) {st : Int × GWorld} (hl : fs.length ≤ 1000) (hk : kvs.length ≤ 10) (h : st.1 ≠ 0 ∨ st.1 = 0 ∧ News fs v kn kvs st.2.facts) :
    ∃ st', stock_Put_1_m key val v st.1 st.2 kn = some st' ∧ (st'.1 ≠ 0 ∨ st'.1 = 0 ∧ News fs v kn (kvs ++ [(key, val)]) st'.2.facts) := by
  rcases h with h | ⟨h, hn⟩
  · refine ⟨st, ?_, .inl h⟩
    unfold stock_Put_1_m
    rw [show (st.1 != 0) = true from bne_iff_ne.2 h]
    rfl
  · obtain ⟨ns, h1, h2, h3⟩ := hn.ex
    have hlen : ns.length = kvs.length := by rw [← h2, List.length_map]
    refine ⟨_, put1 key val v st.1 st.2 kn (by rw [h1, List.length_append]; omega), ?_⟩
    rw [h]
    simp only [bne_self_eq_false, cond_false]
    rcases AddF_cases st.2.facts ⟨key, val, v, kn, noF st.2.facts kn⟩ with ⟨c1, _⟩ | ⟨c1, c2, c3, c4⟩
    · exact .inl c1
    · right
      rw [c1]
      refine ⟨rfl, ⟨ns ++ [⟨key, val, v, kn, noF st.2.facts kn⟩], by simp only; rw [h1, List.append_assoc], by rw [List.map_append, h2]; rfl, fun f hf => ?_⟩, c4, c3⟩
      rcases List.mem_append.1 hf with hf | hf
      · exact h3 f hf
      · rw [List.mem_singleton] at hf; subst hf; exact ⟨rfl, rfl, c2⟩

/-! #### How many days, and the greatest head -/
abbrev CM := Int × Int
def inP (v : GSpan) (no : Int) (p : GPoint) : Bool := decide (v.from_ ≤ p.day) && decide (p.day < v.to_) && decide (no < p.value)
def stepM (v : GSpan) (no : Int) (s : CM) (p : GPoint) : CM := (bif inP v no p then s.1 + 1 else s.1, max s.2 p.value)
theorem stepM_max {v : GSpan} {no : Int} : ∀ (ps : List GPoint) (s : CM), s.2 ≤ (ps.foldl (stepM v no) s).2 ∧ ∀ p ∈ ps, p.value ≤ (ps.foldl (stepM v no) s).2
  | [], s => ⟨Int.le_refl _, fun p hp => by cases hp⟩
  | q :: ps, s => by
    rw [List.foldl_cons]
    obtain ⟨h1, h2⟩ := stepM_max (v := v) (no := no) ps (stepM v no s q)
    have h3 : (stepM v no s q).2 = max s.2 q.value := rfl
    refine ⟨by omega, fun p hp => ?_⟩
    rcases List.mem_cons.1 hp with rfl | hp
    · omega
    · exact h2 p hp
theorem stepM_cov {v : GSpan} {no : Int} : ∀ (ps : List GPoint) (s : CM), (ps.foldl (stepM v no) s).1 = s.1 + ((ps.filter (inP v no)).length : Int)
  | [], s => by simp
  | q :: ps, s => by
    rw [List.foldl_cons, stepM_cov ps, List.filter_cons]
    unfold stepM
    cases h : inP v no q <;> simp
    omega
theorem cov_days {fs : List GFact} {k : GKey} {kn : Int} {v : GSpan} {no : Int} {d0 : Nat} (h0 : 0 ≤ v.from_) (hd : v.from_ ≤ (d0 : Int) ∧ (d0 : Int) < v.to_) (hno : ∀ p, ptD fs k kn d0 = some p → inP v no p = false) :
    ∀ n : Nat, ((((List.range n).filterMap (ptD fs k kn)).filter (inP v no)).length : Int) + (if d0 < n then 1 else 0) ≤ max 0 (min (n : Int) v.to_ - v.from_)
  | 0 => by simp; omega
  | n + 1 => by
    have ih := cov_days h0 hd hno n
    rw [List.range_succ, List.filterMap_append, List.filter_append, List.length_append]
    cases hp : ptD fs k kn n with
    | none => 
      have : ((List.filter (inP v no) (List.filterMap (ptD fs k kn) [n])).length : Int) = 0 := by simp [hp]
      by_cases e : d0 = n
      · subst e
        rw [if_neg (by omega)] at ih
        rw [if_pos (by omega)]
        omega
      · by_cases e2 : d0 < n
        · rw [if_pos e2] at ih; rw [if_pos (by omega)]; omega
        · rw [if_neg e2] at ih; rw [if_neg (by omega)]; omega
    | some p =>
      have hpd : p.day = (n : Int) := by
        unfold ptD at hp
        cases hc : decide (0 ≤ dayV (bestF fs k (n : Int) kn))
        · rw [hc] at hp; cases hp
        · rw [hc] at hp; simp only [cond_true, Option.some.injEq] at hp; rw [← hp]
      cases hi : inP v no p with
      | false =>
        have : ((List.filter (inP v no) (List.filterMap (ptD fs k kn) [n])).length : Int) = 0 := by simp [hp, hi]
        by_cases e : d0 = n
        · subst e
          rw [if_neg (by omega)] at ih
          rw [if_pos (by omega)]
          omega
        · by_cases e2 : d0 < n
          · rw [if_pos e2] at ih; rw [if_pos (by omega)]; omega
          · rw [if_neg e2] at ih; rw [if_neg (by omega)]; omega
      | true =>
        have : ((List.filter (inP v no) (List.filterMap (ptD fs k kn) [n])).length : Int) = 1 := by simp [hp, hi]
        have hin := hi
        unfold inP at hin
        simp only [Bool.and_eq_true, decide_eq_true_eq] at hin
        have hne : d0 ≠ n := fun e => by subst e; rw [hno p hp] at hi; cases hi
        by_cases e2 : d0 < n
        · rw [if_pos e2] at ih; rw [if_pos (by omega)]; omega
        · rw [if_neg e2] at ih; rw [if_neg (by omega)]; omega
theorem ptD_at {fs : List GFact} {k : GKey} {kn : Int} {d : Nat} (h : (atF fs k (d : Int) kn).2 = true) : ptD fs k kn d = some ⟨(d : Int), (atF fs k (d : Int) kn).1⟩ := by
  have := dayV_at (bestF fs k (d : Int) kn)
  unfold atF at *
  unfold ptD
  rw [decide_eq_true (this.1.2 h), ← this.2 (this.1.2 h)]
  rfl
theorem loopM_go {R : Type} {v : GSpan} {no : Int} {B : Nat → GPoint → CM → (CM → Option R) → Option R} {K : CM → Option R} (hB : ∀ k x s c, B k x s c = bif bif bif decide (v.from_ ≤ x.day) then decide (x.day < v.to_) else false then decide (no < x.value) else false then c (wr (s.1 + 1), max s.2 x.value) else c (s.1, max s.2 x.value)) (ps : List GPoint) (m : Int) (hl : ps.length ≤ 1024) : forLg B K 0 ps (0, m) = K (ps.foldl (stepM v no) (0, m)) := by
  refine (forLg_inv (fun k (s : CM) => 0 ≤ s.1 ∧ s.1 ≤ (k : Int)) (step := stepM v no) 0 (0, m) (fun j x s c _ _ hj hP => ?_) ⟨by simp, by simp⟩).1
  rw [hB]
  simp only [cond_and]
  have hj' : j < 1024 := by omega
  unfold stepM inP
  cases decide (v.from_ ≤ x.day) && decide (x.day < v.to_) && decide (no < x.value)
  · exact ⟨rfl, hP.1, by simp only [cond_false]; have := hP.2; omega⟩
  · simp only [cond_true]
    rw [wr_id (by have := hP.1; omega) (by have := hP.2; omega)]
    exact ⟨rfl, by have := hP.1; omega, by have := hP.2; omega⟩
def fives (l : GLot) : List (GKey × Int) := [(⟨1, l.no_, 0⟩, l.item), (⟨1, l.no_, 1⟩, l.plant), (⟨1, l.no_, 2⟩, l.amount), (⟨1, l.no_, 3⟩, l.expiry), (⟨1, l.no_, 4⟩, l.state)]
def headCM (fs : List GFact) (l : GLot) (v : GSpan) (kn : Int) : CM := (ptsF fs headK kn).foldl (stepM v l.no_) (0, l.no_ + 1)
/-- What Put comes to. -/
inductive PutOk (fs : List GFact) (l : GLot) (v : GSpan) (kn : Int) (fs' : List GFact) : Prop
  | five (h : News fs v kn (fives l) fs') (hc : ¬ (headCM fs l v kn).1 < wr (v.to_ - v.from_))
  | six (fs1 : List GFact) (h : News fs v kn (fives l) fs1) (h' : News fs1 ⟨0, 1024⟩ kn [(headK, (headCM fs l v kn).2)] fs')
theorem put_ok (w : GWorld) (l : GLot) (v : GSpan) (kn : Int) (hl : w.facts.length ≤ 60) : ∃ W e, stock_Put_m w l v kn = some (W, e) ∧ (e ≠ 0 → W.facts = []) ∧ (e = 0 → 0 ≤ l.no_ ∧ l.no_ < 1024 ∧ rightF l = true ∧ PutOk w.facts l v kn W.facts) := by
  unfold stock_Put_m
  rw [bd_some (facts_Check w.facts (by omega))]
  cases hc0 : checkF w.facts != 0
  case true => exact ⟨_, _, rfl, fun _ => rfl, fun h => by rw [h] at hc0; cases hc0⟩
  have hck : checkF w.facts = 0 := by simpa using hc0
  simp only [cond_false, cond_or]
  by_cases hno : (decide (l.no_ < 0) || decide (1024 ≤ l.no_)) = true
  · rw [hno]
    exact ⟨_, _, rfl, fun _ => rfl, fun h => by cases h⟩
  have hno' : (decide (l.no_ < 0) || decide (1024 ≤ l.no_)) = false := by simpa using hno
  rw [hno', bdc_t (show (!false) = true from rfl), bd_some (stock_right l)]
  simp only [Bool.false_or]
  cases hr : rightF l
  · exact ⟨_, _, rfl, fun _ => rfl, fun h => by cases h⟩
  simp only [Bool.not_true, cond_false, jn]
  rw [Bool.or_eq_false_iff, decide_eq_false_iff_not, decide_eq_false_iff_not] at hno'
  have hch : chainF w.facts = true := by
    unfold checkF at hck
    cases h : allFit w.facts
    · rw [h] at hck; cases hck
    · rw [h] at hck
      cases h2 : chainF w.facts with
      | true => rfl
      | false => rw [h2] at hck; cases hck
  have i0 : ((0, w) : Int × GWorld).1 ≠ 0 ∨ ((0, w) : Int × GWorld).1 = 0 ∧ News w.facts v kn [] ((0, w) : Int × GWorld).2.facts := .inr ⟨rfl, ⟨[], by simp, rfl, fun f hf => by cases hf⟩, hch, hck⟩
  obtain ⟨s1, e1, i1⟩ := News.step ⟨1, l.no_, 0⟩ l.item (by omega) (by simp) i0
  rw [bd_some e1]
  obtain ⟨s2, e2, i2⟩ := News.step ⟨1, l.no_, 1⟩ l.plant (by omega) (by simp) i1
  rw [bd_some (show stock_Put_1_m _ _ _ _ _ _ = _ from e2)]
  obtain ⟨s3, e3, i3⟩ := News.step ⟨1, l.no_, 2⟩ l.amount (by omega) (by simp) i2
  rw [bd_some (show stock_Put_1_m _ _ _ _ _ _ = _ from e3)]
  obtain ⟨s4, e4, i4⟩ := News.step ⟨1, l.no_, 3⟩ l.expiry (by omega) (by simp) i3
  rw [bd_some (show stock_Put_1_m _ _ _ _ _ _ = _ from e4)]
  obtain ⟨s5, e5, i5⟩ := News.step ⟨1, l.no_, 4⟩ l.state (by omega) (by simp) i4
  rw [bd_some (show stock_Put_1_m _ _ _ _ _ _ = _ from e5)]
  rw [bd_some (show stock_head_m = some headK from rfl), bd_some (points_all w.facts headK kn)]
  have hlen : (ptsF w.facts headK kn).length ≤ 1024 := Nat.le_trans (List.length_filterMap_le _ _) (by rw [List.length_range]; omega)
  simp only [forL]
  rw [wr_id (show -9223372036854775808 ≤ l.no_ + 1 by omega) (by omega)]
  rw [loopM_go (v := v) (no := l.no_) (fun _ _ _ _ => rfl) (ptsF w.facts headK kn) (l.no_ + 1) hlen]
  have fin : ∀ (st : Int × GWorld) (Q : List GFact → Prop), (st.1 ≠ 0 ∨ st.1 = 0 ∧ Q st.2.facts) → ∃ W e, (bif st.1 != 0 then (some ((⟨(⟨(⟨[], [], [], [], [], [], [], []⟩ : GSource), [], []⟩ : GTables), []⟩ : GWorld), st.1)) else (some (st.2, (0 : Int)))) = some (W, e) ∧ (e ≠ 0 → W.facts = []) ∧ (e = 0 → Q W.facts) := fun st Q h => by
    rcases h with h | ⟨h, hq⟩
    · rw [show (st.1 != 0) = true from bne_iff_ne.2 h]
      exact ⟨_, _, rfl, fun _ => rfl, fun e => absurd e h⟩
    · rw [h]
      exact ⟨_, _, rfl, fun e => absurd rfl e, fun _ => hq⟩
  have pack : ∀ {o : Option (GWorld × Int)} {Q : List GFact → Prop}, (∃ W e, o = some (W, e) ∧ (e ≠ 0 → W.facts = []) ∧ (e = 0 → Q W.facts)) → (∀ fs', Q fs' → PutOk w.facts l v kn fs') → ∃ W e, o = some (W, e) ∧ (e ≠ 0 → W.facts = []) ∧ (e = 0 → 0 ≤ l.no_ ∧ l.no_ < 1024 ∧ True ∧ PutOk w.facts l v kn W.facts) := fun {o Q} ⟨W, e, h1, h2, h3⟩ hq => ⟨W, e, h1, h2, fun he => ⟨by omega, by omega, trivial, hq _ (h3 he)⟩⟩
  show ∃ W e, (bif decide ((headCM w.facts l v kn).1 < wr (v.to_ - v.from_)) then _ else _) = some (W, e) ∧ _
  by_cases hcov : (headCM w.facts l v kn).1 < wr (v.to_ - v.from_)
  · rw [decide_eq_true hcov]
    simp only [cond_true]
    have i6 : s5.1 ≠ 0 ∨ s5.1 = 0 ∧ News s5.2.facts ⟨0, 1024⟩ kn [] s5.2.facts := by
      rcases i5 with h | ⟨h, hn⟩
      · exact .inl h
      · exact .inr ⟨h, ⟨[], by simp, rfl, fun f hf => by cases hf⟩, hn.chain, hn.check⟩
    by_cases h5 : s5.1 = 0
    · have hn5 := (i5.resolve_left (fun h => h h5)).2
      have hl5 : s5.2.facts.length ≤ 1000 := by
        obtain ⟨ns, h1, h2, _⟩ := hn5.ex
        have := congrArg List.length h2
        simp at this
        rw [h1, List.length_append]; omega
      obtain ⟨s6, e6, i7⟩ := News.step headK (headCM w.facts l v kn).2 hl5 (by simp) i6
      show ∃ W e, (bd (stock_Put_1_m headK (headCM w.facts l v kn).2 ⟨0, 1024⟩ s5.1 s5.2 kn) _) = some (W, e) ∧ _
      rw [bd_some e6]
      refine pack (fin s6 (fun fs' => News s5.2.facts ⟨0, 1024⟩ kn [(headK, (headCM w.facts l v kn).2)] fs') i7) fun fs' h => .six s5.2.facts ?_ h
      exact hn5
    · have e6 : stock_Put_1_m headK (headCM w.facts l v kn).2 ⟨0, 1024⟩ s5.1 s5.2 kn = some s5 := by
        unfold stock_Put_1_m
        rw [show (s5.1 != 0) = true from bne_iff_ne.2 h5]
        rfl
      show ∃ W e, (bd (stock_Put_1_m headK (headCM w.facts l v kn).2 ⟨0, 1024⟩ s5.1 s5.2 kn) _) = some (W, e) ∧ _
      rw [bd_some e6]
      refine pack (Q := fun _ => False) (fin s5 (fun _ => False) (.inl h5)) fun _ h => h.elim
  · rw [decide_eq_false hcov]
    simp only [cond_false]
    exact pack (fin s5 (fun fs' => News w.facts v kn (fives l) fs') i5) fun fs' h => .five h hcov

/-! #### What is known afterwards -/
theorem best_app {fs : List GFact} (k : GKey) (d kn : Int) : ∀ (n : Nat) (ns : List GFact), ns.length = n → chainF (fs ++ ns) = true → bestF (fs ++ ns) k d kn = ((ns.filter (fun f => keyR f k kn && inR f d)).getLast?).or (bestF fs k d kn)
  | 0, ns, hn, _ => by
    have : ns = [] := by simpa using hn
    subst this
    simp
  | n + 1, ns, hn, hc => by
    rcases List.eq_nil_or_concat ns with h | ⟨L, b, h⟩
    · subst h; cases hn
    · rw [List.concat_eq_append] at h
      subst h
      rw [← List.append_assoc] at hc ⊢
      have hc' : chainF (fs ++ L) = true := by
        rw [chain_snoc] at hc
        simp only [Bool.and_eq_true] at hc
        exact hc.1
      rw [best_snoc hc, best_app k d kn n L (by simpa using hn) hc', List.filter_append]
      cases h2 : keyR b k kn && inR b d
      · simp [h2]
      · simp [h2]
def lastV (kvs : List (GKey × Int)) (k : GKey) : Option Int := ((kvs.filter (fun p => GKey.eqb p.1 k)).getLast?).map (·.2)
def valI (x : Int) : Int × Bool := if x < 0 then (0, false) else (x, true)
theorem News.at {fs : List GFact} {v : GSpan} {kn : Int} {kvs : List (GKey × Int)} {fs' : List GFact} (h : News fs v kn kvs fs') (k : GKey) (d t : Int) :
    atF fs' k d t = bif decide (v.from_ ≤ d) && decide (d < v.to_) && decide (kn ≤ t) then (match lastV kvs k with | some x => valI x | none => atF fs k d t) else atF fs k d t := by
  obtain ⟨ns, h1, h2, h3⟩ := h.ex
  have hch := h.chain
  subst h1
  unfold atF
  rw [best_app k d t ns.length ns rfl hch]
  have e : ns.filter (fun f => keyR f k t && inR f d) = bif decide (v.from_ ≤ d) && decide (d < v.to_) && decide (kn ≤ t) then ns.filter (fun f => GKey.eqb f.key k) else [] := by
    cases hb : decide (v.from_ ≤ d) && decide (d < v.to_) && decide (kn ≤ t)
    · simp only [cond_false]
      rw [List.filter_eq_nil_iff]
      intro f hf hc
      obtain ⟨g1, g2, _⟩ := h3 f hf
      unfold keyR inR at hc
      rw [g1, g2] at hc
      simp only [Bool.and_eq_true, Bool.and_eq_false_iff] at hc hb
      rcases hb with (hb | hb) | hb
      · rw [hc.2.1] at hb; cases hb
      · rw [hc.2.2] at hb; cases hb
      · rw [hc.1.2] at hb; cases hb
    · simp only [cond_true]
      refine List.filter_congr fun f hf => ?_
      obtain ⟨g1, g2, _⟩ := h3 f hf
      unfold keyR inR
      rw [g1, g2]
      simp only [Bool.and_eq_true] at hb
      rw [hb.1.1, hb.1.2, hb.2]
      simp
  rw [e]
  cases hb : decide (v.from_ ≤ d) && decide (d < v.to_) && decide (kn ≤ t)
  · simp
  · simp only [cond_true]
    have e2 : lastV kvs k = ((ns.filter (fun f => GKey.eqb f.key k)).getLast?).map (·.value) := by
      unfold lastV
      rw [← h2, List.filter_map, List.getLast?_map, Option.map_map]
      rfl
    rw [e2]
    cases (ns.filter (fun f => GKey.eqb f.key k)).getLast? with
    | none => simp
    | some f => simp [valF, valI]
theorem chain_pre {xs : List GFact} : ∀ (n : Nat) (ys : List GFact), ys.length = n → chainF (xs ++ ys) = true → chainF xs = true
  | 0, ys, hn, h => by
    have : ys = [] := by simpa using hn
    subst this
    simpa using h
  | n + 1, ys, hn, h => by
    rcases List.eq_nil_or_concat ys with e | ⟨L, b, e⟩
    · subst e; cases hn
    · rw [List.concat_eq_append] at e
      subst e
      rw [← List.append_assoc, chain_snoc] at h
      simp only [Bool.and_eq_true] at h
      exact chain_pre n L (by simpa using hn) h.1
theorem News.old {fs : List GFact} {v : GSpan} {kn : Int} {kvs : List (GKey × Int)} {fs' : List GFact} (h : News fs v kn kvs fs') (hk : kvs ≠ []) : (∀ g ∈ fs, g.known ≤ kn) ∧ 0 ≤ v.from_ ∧ v.to_ ≤ 1024 ∧ v.from_ < v.to_ := by
  obtain ⟨ns, h1, h2, h3⟩ := h.ex
  have hch := h.chain
  subst h1
  cases ns with
  | nil => exact absurd h2.symm hk
  | cons f ns =>
    obtain ⟨g1, g2, g3⟩ := h3 f List.mem_cons_self
    have hc' : chainF (fs ++ [f]) = true := chain_pre (xs := fs ++ [f]) ns.length ns rfl (by simpa using hch)
    unfold fitsF at g3
    simp only [Bool.and_eq_true, decide_eq_true_eq, g1] at g3
    refine ⟨fun g hg => ?_, by omega, by omega, by omega⟩
    have := chain_all hc' g hg
    unfold befo at this
    simp only [Bool.or_eq_true, Bool.and_eq_true, decide_eq_true_eq, g2] at this
    omega
theorem News.len {fs : List GFact} {v : GSpan} {kn : Int} {kvs : List (GKey × Int)} {fs' : List GFact} (h : News fs v kn kvs fs') : fs'.length = fs.length + kvs.length := by
  obtain ⟨ns, h1, h2, _⟩ := h.ex
  rw [h1, List.length_append, ← h2, List.length_map]
theorem best_late {fs : List GFact} {kn : Int} (h : ∀ g ∈ fs, g.known ≤ kn) (k : GKey) (d t : Int) (ht : kn ≤ t) : atF fs k d t = atF fs k d kn := by
  have : fs.filter (keyR · k t) = fs.filter (keyR · k kn) := List.filter_congr fun g hg => by
    have := h g hg
    unfold keyR
    rw [decide_eq_true (show g.known ≤ t by omega), decide_eq_true this]
  unfold atF bestF
  rw [this]

theorem fives_head (l : GLot) : lastV (fives l) headK = none := by simp [lastV, fives, headK, GKey.eqb]
theorem fives_other {l : GLot} {no : Int} (h : no ≠ l.no_) (i : Int) : lastV (fives l) ⟨1, no, i⟩ = none := by
  have : (l.no_ == no) = false := by simpa using fun e => h e.symm
  simp [lastV, fives, GKey.eqb, this]
theorem fives_at (l : GLot) : lastV (fives l) ⟨1, l.no_, 0⟩ = some l.item ∧ lastV (fives l) ⟨1, l.no_, 1⟩ = some l.plant ∧ lastV (fives l) ⟨1, l.no_, 2⟩ = some l.amount ∧ lastV (fives l) ⟨1, l.no_, 3⟩ = some l.expiry ∧ lastV (fives l) ⟨1, l.no_, 4⟩ = some l.state := by
  refine ⟨?_, ?_, ?_, ?_, ?_⟩ <;> simp [lastV, fives, GKey.eqb]
theorem one_at (m : Int) : lastV [(headK, m)] headK = some m := by simp [lastV, headK, GKey.eqb]
theorem one_other (m no i : Int) : lastV [(headK, m)] ⟨1, no, i⟩ = none := by simp [lastV, headK, GKey.eqb]
theorem valI_pos {x : Int} (h : 0 ≤ x) : valI x = (x, true) := if_neg (by omega)
/-- The fields of a lot, where nothing new is known of them. -/
theorem lotF_same {fs fs' : List GFact} {no d t : Int} (h : ∀ i, atF fs' ⟨1, no, i⟩ d t = atF fs ⟨1, no, i⟩ d t) : lotF fs' no d t = lotF fs no d t := by
  unfold lotF
  simp only [h]
theorem lotF_new {fs' : List GFact} {l : GLot} {d t : Int} (hr : rightF l = true) (h : ∀ i x, lastV (fives l) ⟨1, l.no_, i⟩ = some x → atF fs' ⟨1, l.no_, i⟩ d t = valI x) : (lotF fs' l.no_ d t).1 = l ∧ (lotF fs' l.no_ d t).2.2 = true := by
  obtain ⟨a0, a1, a2, a3, a4⟩ := fives_at l
  have hr' := hr
  unfold rightF at hr'
  simp only [Bool.and_eq_true, decide_eq_true_eq] at hr'
  unfold lotF
  unfold lotG
  simp only [h 0 _ a0, h 1 _ a1, h 2 _ a2, h 3 _ a3, h 4 _ a4]
  rw [valI_pos (x := l.item) (by omega), valI_pos (x := l.plant) (by omega), valI_pos (x := l.amount) (by omega), valI_pos (x := l.expiry) (by omega), valI_pos (x := l.state) (by omega)]
  simp only [Bool.not_true, cond_false]
  rw [show rightF ⟨l.no_, l.item, l.plant, l.amount, l.expiry, l.state⟩ = true from hr]
  exact ⟨rfl, rfl⟩
theorem manyF_of {fs : List GFact} {d t : Int} {x : Int} (h : atF fs headK d t = (x, true)) : manyF fs d t = max 0 (min x 1024) := by unfold manyF; rw [h]
theorem LotF_day1 {fs : List GFact} {no d t : Int} (hd : 0 ≤ d ∧ d < 1024) (hn : 0 ≤ no ∧ no < manyF fs d t) : (LotF fs no d t).1 = (lotF fs no d t).1 ∧ (LotF fs no d t).2.2 = (lotF fs no d t).2.2 := by
  unfold LotF
  rw [decide_eq_true hd.1, decide_eq_true hd.2, decide_eq_true hn.1, decide_eq_true hn.2]
  exact ⟨rfl, rfl⟩
theorem LotF_yes {fs : List GFact} {no d t : Int} (h : (LotF fs no d t).2.2 = true) : (0 ≤ d ∧ d < 1024) ∧ (0 ≤ no ∧ no < manyF fs d t) := by
  unfold LotF at h
  by_cases hd : 0 ≤ d ∧ d < 1024
  · refine ⟨hd, ?_⟩
    by_cases hn : 0 ≤ no ∧ no < manyF fs d t
    · exact hn
    · rw [decide_eq_true hd.1, decide_eq_true hd.2, show (decide (0 ≤ no) && decide (no < manyF fs d t)) = false by simpa using fun e => Int.not_lt.1 fun e2 => hn ⟨e, e2⟩] at h
      cases h
  · rw [show (decide (0 ≤ d) && decide (d < 1024)) = false by simpa using fun e => Int.not_lt.1 fun e2 => hd ⟨e, e2⟩] at h
    cases h
theorem LotF_same {fs fs' : List GFact} {no d t : Int} (h : ∀ k, atF fs' k d t = atF fs k d t) : LotF fs' no d t = LotF fs no d t := by
  have : manyF fs' d t = manyF fs d t := by unfold manyF; rw [h]
  unfold LotF
  rw [this, lotF_same (fun i => h _)]
/-- What is recorded is there, and nothing else changes. -/
theorem put_back {fs fs' : List GFact} {l : GLot} {v : GSpan} {kn : Int} (h0 : 0 ≤ l.no_ ∧ l.no_ < 1024) (hr : rightF l = true) (h : PutOk fs l v kn fs') (d t : Int) :
    (v.from_ ≤ d ∧ d < v.to_ ∧ kn ≤ t → (LotF fs' l.no_ d t).1 = l ∧ (LotF fs' l.no_ d t).2.2 = true) ∧
    (∀ no, (LotF fs no d t).2.2 = true → ¬ (no = l.no_ ∧ v.from_ ≤ d ∧ d < v.to_ ∧ kn ≤ t) → (LotF fs' no d t).1 = (LotF fs no d t).1 ∧ (LotF fs' no d t).2.2 = true) := by
  have key : ∃ fs1, News fs v kn (fives l) fs1 ∧ (∀ no i, atF fs' ⟨1, no, i⟩ d t = atF fs1 ⟨1, no, i⟩ d t) ∧ (¬ kn ≤ t → ∀ k, atF fs' k d t = atF fs k d t) ∧ (kn ≤ t → 0 ≤ d ∧ d < 1024 → manyF fs d t ≤ manyF fs' d t ∧ (v.from_ ≤ d ∧ d < v.to_ → l.no_ < manyF fs' d t)) := by
    cases h with
    | five h hc =>
      refine ⟨fs', h, fun _ _ => rfl, fun ht k => by rw [h.at, decide_eq_false ht]; simp, fun ht hd => ?_⟩
      obtain ⟨g1, g2, g3, g4⟩ := h.old (by simp [fives])
      have e : atF fs' headK d t = atF fs headK d t := by rw [h.at, fives_head]; simp
      have em : manyF fs' d t = manyF fs d t := by unfold manyF; rw [e]
      rw [em]
      refine ⟨Int.le_refl _, fun hv => ?_⟩
      rw [wr_id (by omega) (by omega)] at hc
      have hcov : (headCM fs l v kn).1 = ((((List.range 1024).filterMap (ptD fs headK kn)).filter (inP v l.no_)).length : Int) := by
        unfold headCM
        rw [stepM_cov]
        simp [ptsF]
      obtain ⟨D, rfl⟩ : ∃ D : Nat, d = (D : Int) := ⟨d.toNat, by omega⟩
      rcases Classical.em (∀ p, ptD fs headK kn D = some p → inP v l.no_ p = false) with hno | hno
      · have := cov_days (fs := fs) (k := headK) (kn := kn) g2 hv hno 1024
        rw [if_pos (by omega)] at this
        omega
      · obtain ⟨p, hp⟩ := Classical.not_forall.1 hno
        obtain ⟨hp1, hp2⟩ := Classical.not_imp.1 hp
        have hp3 : inP v l.no_ p = true := by simpa using hp2
        unfold inP at hp3
        simp only [Bool.and_eq_true, decide_eq_true_eq] at hp3
        unfold ptD at hp1
        cases hc2 : decide (0 ≤ dayV (bestF fs headK (D : Int) kn))
        · rw [hc2] at hp1; cases hp1
        · rw [hc2] at hp1
          simp only [cond_true, Option.some.injEq] at hp1
          have hd2 := dayV_at (bestF fs headK (D : Int) kn)
          have h3 := hd2.2 (of_decide_eq_true hc2)
          have h4 := hd2.1.1 (of_decide_eq_true hc2)
          have e2 : atF fs headK (D : Int) t = (p.value, true) := by
            rw [best_late g1 _ _ _ ht]
            unfold atF
            refine Prod.ext ?_ h4
            show _ = p.value
            rw [← hp1, ← h3]
          rw [manyF_of e2]
          omega
    | six fs1 h h' =>
      obtain ⟨g1, g2, g3, g4⟩ := h.old (by simp [fives])
      refine ⟨fs1, h, fun no i => by rw [h'.at, one_other]; simp, fun ht k => by rw [h'.at, h.at, decide_eq_false ht]; simp, fun ht hd => ?_⟩
      have hM := stepM_max (v := v) (no := l.no_) (ptsF fs headK kn) (0, l.no_ + 1)
      have e : atF fs' headK d t = ((headCM fs l v kn).2, true) := by
        rw [h'.at, one_at, decide_eq_true (show (⟨0, 1024⟩ : GSpan).from_ ≤ d from hd.1), decide_eq_true (show d < (⟨0, 1024⟩ : GSpan).to_ from hd.2), decide_eq_true ht]
        simp only [Bool.and_true, cond_true]
        exact valI_pos (by have := hM.1; unfold headCM; omega)
      rw [manyF_of e]
      have h1 : l.no_ + 1 ≤ (headCM fs l v kn).2 := hM.1
      refine ⟨?_, fun _ => by omega⟩
      cases h2 : (atF fs headK d t).2
      · have := atF_zero fs headK d t h2
        unfold manyF
        omega
      · obtain ⟨D, rfl⟩ : ∃ D : Nat, d = (D : Int) := ⟨d.toNat, by omega⟩
        have h2' := h2
        rw [best_late g1 _ _ _ ht] at h2'
        have := hM.2 _ (List.mem_filterMap.2 ⟨D, List.mem_range.2 (by omega), ptD_at h2'⟩)
        have e3 : (atF fs headK (D : Int) kn).1 ≤ (headCM fs l v kn).2 := this
        unfold manyF
        rw [best_late g1 _ _ _ ht]
        omega
  obtain ⟨fs1, hn, k1, k2, k3⟩ := key
  obtain ⟨g1, g2, g3, g4⟩ := hn.old (by simp [fives])
  constructor
  · intro hv
    have hd : 0 ≤ d ∧ d < 1024 := by omega
    obtain ⟨_, m⟩ := k3 hv.2.2 hd
    obtain ⟨e1, e2⟩ := LotF_day1 (fs := fs') (t := t) hd ⟨h0.1, m ⟨hv.1, hv.2.1⟩⟩
    rw [e1, e2]
    refine lotF_new hr fun i x hx => ?_
    rw [k1, hn.at, hx, decide_eq_true hv.1, decide_eq_true hv.2.1, decide_eq_true hv.2.2]
    rfl
  · intro no hy hne
    by_cases ht : kn ≤ t
    · obtain ⟨hd, hn0, hnm⟩ := LotF_yes hy
      obtain ⟨m, _⟩ := k3 ht hd
      obtain ⟨e1, e2⟩ := LotF_day1 (fs := fs') hd ⟨hn0, Int.lt_of_lt_of_le hnm m⟩
      obtain ⟨e3, e4⟩ := LotF_day1 (fs := fs) hd ⟨hn0, hnm⟩
      have e5 : lotF fs' no d t = lotF fs no d t := lotF_same fun i => by
        rw [k1, hn.at]
        by_cases e : no = l.no_
        · have : (decide (v.from_ ≤ d) && decide (d < v.to_) && decide (kn ≤ t)) = false := by
            simpa using fun a b => Int.not_le.1 fun c => hne ⟨e, a, b, c⟩
          rw [this]; rfl
        · rw [fives_other e]; simp
      rw [e1, e2, e5, ← e3, ← e4]
      exact ⟨rfl, hy⟩
    · rw [LotF_same (k2 ht)]
      exact ⟨rfl, hy⟩
theorem stockBack_true (a0 : GWorld) (a1 : GLot) (a2 : GSpan) (a3 a4 a5 a6 : Int) (w0 : GWorld.wf a0) : backflushlaw18_StockBack_m a0 a1 a2 a3 a4 a5 a6 = some true := by
  have hlen : a0.facts.length ≤ 9223372036854775807 := w0.2.1
  unfold backflushlaw18_StockBack_m
  rw [bd_some sane18]
  simp only [Bool.not_true, cond_false]
  rw [bd_some (few18 a0 hlen)]
  cases hf : fewF a0.facts
  · rfl
  simp only [Bool.not_true, cond_false]
  cases h8 : decide (8 < a1.no_)
  case true => rfl
  simp only [cond_false]
  have hl : a0.facts.length ≤ 60 := by
    unfold fewF at hf
    simp only [Bool.and_eq_true, decide_eq_true_eq] at hf
    exact hf.2
  obtain ⟨W, e, h1, h2, h3⟩ := put_ok a0 a1 a2 a3 hl
  rw [bd_some h1]
  simp only
  by_cases he : e = 0
  case neg =>
    rw [show (e != 0) = true from bne_iff_ne.2 he, h2 he]
    rfl
  subst he
  obtain ⟨n0, n1, hr, hp⟩ := h3 rfl
  have hck : checkF W.facts = 0 ∧ a0.facts.length + 5 ≤ W.facts.length ∧ W.facts.length ≤ a0.facts.length + 6 := by
    cases hp with
    | five h hc => exact ⟨h.check, by rw [h.len]; simp [fives], by rw [h.len]; simp [fives]⟩
    | six fs1 h h' => exact ⟨h'.check, by rw [h'.len, h.len]; simp [fives], by rw [h'.len, h.len]; simp [fives]⟩
  simp only [bne_self_eq_false, cond_false]
  rw [bd_some (facts_Check W.facts (by omega)), hck.1, wr_id (by omega) (by omega), wr_id (by omega) (by omega), decide_eq_false (by omega), decide_eq_false (by omega)]
  simp only [bne_self_eq_false, cond_false]
  have hb : ∀ (x : Int) (c : Unit → Option Bool), (bd (stock_Lot_m W a1.no_ a5 x) fun x21 => bif bif bif bif decide (a2.from_ ≤ a5) then decide (a5 < a2.to_) else false then decide (a3 ≤ x) else false then bif !x21.2.2 then true else !(GLot.eqb x21.1 a1) else false then (some false) else (bd (stock_Lot_m a0 a4 a5 x) fun x23 => bd (stock_Lot_m W a4 a5 x) fun x25 => bif bif bif x23.2.2 then !(bif a4 == a1.no_ then bif bif decide (a2.from_ ≤ a5) then decide (a5 < a2.to_) else false then decide (a3 ≤ x) else false else false) else false then bif !x25.2.2 then true else !(GLot.eqb x23.1 x25.1) else false then (some false) else (c ()))) = c () := fun x c => by
    obtain ⟨p1, p2⟩ := put_back ⟨n0, n1⟩ hr hp a5 x
    rw [bd_some (stock_Lot W a1.no_ a5 x)]
    simp only [cond_and]
    have hx : (bif decide (a2.from_ ≤ a5) && decide (a5 < a2.to_) && decide (a3 ≤ x) then bif !(LotF W.facts a1.no_ a5 x).2.2 then true else !(GLot.eqb (LotF W.facts a1.no_ a5 x).1 a1) else false) = false := by
      cases hb : decide (a2.from_ ≤ a5) && decide (a5 < a2.to_) && decide (a3 ≤ x)
      · rfl
      · simp only [Bool.and_eq_true, decide_eq_true_eq] at hb
        obtain ⟨q1, q2⟩ := p1 ⟨hb.1.1, hb.1.2, hb.2⟩
        rw [q1, q2, (GLot.eqb_iff _ _).2 rfl]
        rfl
    simp only [cond_and] at hx
    rw [hx]
    simp only [cond_false]
    rw [bd_some (stock_Lot a0 a4 a5 x), bd_some (stock_Lot W a4 a5 x)]
    have hy : (bif (LotF a0.facts a4 a5 x).2.2 && !(a4 == a1.no_ && (decide (a2.from_ ≤ a5) && decide (a5 < a2.to_) && decide (a3 ≤ x))) then bif !(LotF W.facts a4 a5 x).2.2 then true else !(GLot.eqb (LotF a0.facts a4 a5 x).1 (LotF W.facts a4 a5 x).1) else false) = false := by
      cases hb : (LotF a0.facts a4 a5 x).2.2 && !(a4 == a1.no_ && (decide (a2.from_ ≤ a5) && decide (a5 < a2.to_) && decide (a3 ≤ x)))
      · rfl
      · rw [Bool.and_eq_true] at hb
        obtain ⟨q1, q2⟩ := p2 a4 hb.1 (fun hc => by
          have := hb.2
          rw [hc.1, decide_eq_true hc.2.1, decide_eq_true hc.2.2.1, decide_eq_true hc.2.2.2] at this
          simp at this)
        rw [q1, q2, (GLot.eqb_iff _ _).2 rfl]
        rfl
    simp only [cond_and] at hy
    rw [hy]
    rfl
  unfold forN
  rw [gd_true (by simp)]
  show forNg _ _ 3 0 () = some true
  rw [forNg, bd_some (show idx ([a6, a3, wr (a3 - 1)] : List Int) 0 = some a6 from rfl), hb, forNg, bd_some (show idx ([a6, a3, wr (a3 - 1)] : List Int) (0 + 1) = some a3 from rfl), hb, forNg, bd_some (show idx ([a6, a3, wr (a3 - 1)] : List Int) (0 + 1 + 1) = some (wr (a3 - 1)) from rfl), hb]
  rfl
end Bf
