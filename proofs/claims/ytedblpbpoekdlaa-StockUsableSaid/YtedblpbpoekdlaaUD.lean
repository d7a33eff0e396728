/- Plain laws: what is known of all days; the chapter's examples (stock). The model of Put with the points written out was printed by a program out of the generated model. -/
import Derived.Test.YtedblpbpoekdlaaUC
namespace Bf
open Go Go.RowKit Go.Proofs

def ptD (fs : List GFact) (k : GKey) (kn : Int) (d : Nat) : Option GPoint := bif decide (0 ≤ dayV (bestF fs k (d : Int) kn)) then some ⟨(d : Int), dayV (bestF fs k (d : Int) kn)⟩ else none
/-- What is known of all days. -/
def ptsF (fs : List GFact) (k : GKey) (kn : Int) : List GPoint := (List.range 1024).filterMap (ptD fs k kn)
theorem points_go {fs : List GFact} {k : GKey} {kn : Int} {B : Int → List GPoint → (List GPoint → Option (List GPoint)) → Option (List GPoint)}
    (hB : ∀ (d : Nat) s c, d < 1024 → s.length ≤ 1024 → B (d : Int) s c = c (s ++ (ptD fs k kn d).toList)) : forN 0 1024 B (fun s => some s) [] = some (ptsF fs k kn) := by
  refine Exists.elim (forN_ex (body := B) (lo := 0) (hi := 1024) (fun i s => s = (List.range i.toNat).filterMap (ptD fs k kn)) [] (by decide) (by decide) (fun j s hj hj2 hP => ?step) rfl) (fun s' h12 => ?main)
  case main => rw [h12.1, h12.2]; rfl
  case step =>
    obtain ⟨n, rfl⟩ : ∃ n : Nat, j = (n : Int) := ⟨j.toNat, by omega⟩
    have hl : s.length ≤ 1024 := by
      rw [hP]
      exact Nat.le_trans (List.length_filterMap_le _ _) (by rw [List.length_range]; omega)
    refine ⟨_, fun c => hB n s c (by omega) hl, ?_⟩
    rw [show ((n : Int) + 1).toNat = n + 1 by omega, List.range_succ, List.filterMap_append, hP]
    congr 1
theorem points_all (fs : List GFact) (k : GKey) (kn : Int) : facts_Points_m fs k 0 1024 kn = some (ptsF fs k kn) := by
  obtain ⟨vs, e1, e2, e3⟩ := facts_values fs k kn
  unfold facts_Points_m
  rw [bd_some e1, gd_true (decide_eq_true List.length_replicate), gd_true (decide_eq_true e2)]
  rw [show max (0 : Int) 0 = 0 by omega, show min (1024 : Int) 1024 = 1024 by omega]
  refine points_go (fun d s c hd hs => ?_)
  show jn _ _ = _
  simp only [jn]
  have hlt : decide ((d : Int) < 1024) = true := decide_eq_true (by omega)
  rw [bd_some (show idx vs (d : Int) = some (dayV (bestF fs k (d : Int) kn)) by rw [idx_nat]; exact e3 d hd), gd_true hlt]
  unfold ptD
  cases h : decide (0 ≤ dayV (bestF fs k (d : Int) kn))
  · simp
  · simp only [cond_true, Option.toList_some]
    rw [gd_true hlt]
    exact gd_true (decide_eq_true (by simp only [List.length_cons, List.length_nil]; omega))
def stock_Put2_m (a0 : GWorld) (a1 : GLot) (a2 : GSpan) (a3 : Int) : Option (GWorld × Int) := bd (facts_Check_m a0.facts) fun x7 => bif x7 != 0 then (some ((⟨(⟨(⟨[], [], [], [], [], [], [], []⟩ : GSource), [], []⟩ : GTables), []⟩ : GWorld), x7)) else (bdc (!(bif decide (a1.no_ < 0) then true else decide (1024 ≤ a1.no_))) (stock_right_m a1) fun x8 => bif bif bif decide (a1.no_ < 0) then true else decide (1024 ≤ a1.no_) then true else !x8 then (some ((⟨(⟨(⟨[], [], [], [], [], [], [], []⟩ : GSource), [], []⟩ : GTables), []⟩ : GWorld), 180)) else (jn (fun (p69 : Int) (p70 : List GUnit) (p71 : List GItem) (p72 : List ByteArray) (p73 : List GMachine) (p74 : List GOption) (p75 : List (List GCond)) (p76 : List GRecipe) (p77 : List GSwap) (p78 : List Int) (p79 : List (List GInst)) (p80 : List GFact) => bd (stock_head_m) fun x97 => bd ((some (ptsF a0.facts x97 a3) : Option (List GPoint))) fun x98 => forL x98 (fun (k101 : Nat) (x105 : GPoint) (s99 : Int × Int) loop100 => jn (fun (p109 : Int) => loop100 (p109, max s99.2 x105.value)) fun j108 => bif bif bif decide (a2.from_ ≤ x105.day) then decide (x105.day < a2.to_) else false then decide (a1.no_ < x105.value) else false then (j108 (wr (s99.1 + 1))) else (j108 s99.1)) (fun (s99 : Int × Int) => jn (fun (p112 : Int) (p113 : List GUnit) (p114 : List GItem) (p115 : List ByteArray) (p116 : List GMachine) (p117 : List GOption) (p118 : List (List GCond)) (p119 : List GRecipe) (p120 : List GSwap) (p121 : List Int) (p122 : List (List GInst)) (p123 : List GFact) => bif p112 != 0 then (some ((⟨(⟨(⟨[], [], [], [], [], [], [], []⟩ : GSource), [], []⟩ : GTables), []⟩ : GWorld), p112)) else (some ((⟨(⟨(⟨p113, p114, p115, p116, p117, p118, p119, p120⟩ : GSource), p121, p122⟩ : GTables), p123⟩ : GWorld), 0))) fun j111 => bif decide (s99.1 < (wr (a2.to_ - a2.from_))) then (bd (stock_Put_1_m x97 s99.2 (⟨0, 1024⟩ : GSpan) p69 (⟨(⟨(⟨p70, p71, p72, p73, p74, p75, p76, p77⟩ : GSource), p78, p79⟩ : GTables), p80⟩ : GWorld) a3) fun x124 => j111 x124.1 x124.2.tables.source.units x124.2.tables.source.items x124.2.tables.source.plants x124.2.tables.source.machines x124.2.tables.source.options x124.2.tables.source.forbids x124.2.tables.source.recipes x124.2.tables.source.swaps x124.2.tables.levels x124.2.tables.codes x124.2.facts) else (j111 p69 p70 p71 p72 p73 p74 p75 p76 p77 p78 p79 p80)) (0, wr (a1.no_ + 1))) fun j86 => jn (fun (p55 : Int) (p56 : List GUnit) (p57 : List GItem) (p58 : List ByteArray) (p59 : List GMachine) (p60 : List GOption) (p61 : List (List GCond)) (p62 : List GRecipe) (p63 : List GSwap) (p64 : List Int) (p65 : List (List GInst)) (p66 : List GFact) => bd (stock_Put_1_m (⟨1, a1.no_, 4⟩ : GKey) a1.state a2 p55 (⟨(⟨(⟨p56, p57, p58, p59, p60, p61, p62, p63⟩ : GSource), p64, p65⟩ : GTables), p66⟩ : GWorld) a3) fun x96 => j86 x96.1 x96.2.tables.source.units x96.2.tables.source.items x96.2.tables.source.plants x96.2.tables.source.machines x96.2.tables.source.options x96.2.tables.source.forbids x96.2.tables.source.recipes x96.2.tables.source.swaps x96.2.tables.levels x96.2.tables.codes x96.2.facts) fun j85 => jn (fun (p41 : Int) (p42 : List GUnit) (p43 : List GItem) (p44 : List ByteArray) (p45 : List GMachine) (p46 : List GOption) (p47 : List (List GCond)) (p48 : List GRecipe) (p49 : List GSwap) (p50 : List Int) (p51 : List (List GInst)) (p52 : List GFact) => bd (stock_Put_1_m (⟨1, a1.no_, 3⟩ : GKey) a1.expiry a2 p41 (⟨(⟨(⟨p42, p43, p44, p45, p46, p47, p48, p49⟩ : GSource), p50, p51⟩ : GTables), p52⟩ : GWorld) a3) fun x94 => j85 x94.1 x94.2.tables.source.units x94.2.tables.source.items x94.2.tables.source.plants x94.2.tables.source.machines x94.2.tables.source.options x94.2.tables.source.forbids x94.2.tables.source.recipes x94.2.tables.source.swaps x94.2.tables.levels x94.2.tables.codes x94.2.facts) fun j84 => jn (fun (p27 : Int) (p28 : List GUnit) (p29 : List GItem) (p30 : List ByteArray) (p31 : List GMachine) (p32 : List GOption) (p33 : List (List GCond)) (p34 : List GRecipe) (p35 : List GSwap) (p36 : List Int) (p37 : List (List GInst)) (p38 : List GFact) => bd (stock_Put_1_m (⟨1, a1.no_, 2⟩ : GKey) a1.amount a2 p27 (⟨(⟨(⟨p28, p29, p30, p31, p32, p33, p34, p35⟩ : GSource), p36, p37⟩ : GTables), p38⟩ : GWorld) a3) fun x92 => j84 x92.1 x92.2.tables.source.units x92.2.tables.source.items x92.2.tables.source.plants x92.2.tables.source.machines x92.2.tables.source.options x92.2.tables.source.forbids x92.2.tables.source.recipes x92.2.tables.source.swaps x92.2.tables.levels x92.2.tables.codes x92.2.facts) fun j83 => jn (fun (p13 : Int) (p14 : List GUnit) (p15 : List GItem) (p16 : List ByteArray) (p17 : List GMachine) (p18 : List GOption) (p19 : List (List GCond)) (p20 : List GRecipe) (p21 : List GSwap) (p22 : List Int) (p23 : List (List GInst)) (p24 : List GFact) => bd (stock_Put_1_m (⟨1, a1.no_, 1⟩ : GKey) a1.plant a2 p13 (⟨(⟨(⟨p14, p15, p16, p17, p18, p19, p20, p21⟩ : GSource), p22, p23⟩ : GTables), p24⟩ : GWorld) a3) fun x90 => j83 x90.1 x90.2.tables.source.units x90.2.tables.source.items x90.2.tables.source.plants x90.2.tables.source.machines x90.2.tables.source.options x90.2.tables.source.forbids x90.2.tables.source.recipes x90.2.tables.source.swaps x90.2.tables.levels x90.2.tables.codes x90.2.facts) fun j82 => jn (fun (_ : Unit) => bd (stock_Put_1_m (⟨1, a1.no_, 0⟩ : GKey) a1.item a2 0 a0 a3) fun x88 => j82 x88.1 x88.2.tables.source.units x88.2.tables.source.items x88.2.tables.source.plants x88.2.tables.source.machines x88.2.tables.source.options x88.2.tables.source.forbids x88.2.tables.source.recipes x88.2.tables.source.swaps x88.2.tables.levels x88.2.tables.codes x88.2.facts) fun j81 => j81 ()))
theorem put_eq (w : GWorld) (l : GLot) (v : GSpan) (k : Int) : stock_Put_m w l v k = stock_Put2_m w l v k := by
  unfold stock_Put_m stock_Put2_m
  simp only [points_all]
theorem sane18 : backflushlaw18_sane_m = some true := by
  unfold backflushlaw18_sane_m
  simp only [put_eq]
  decide +kernel
end Bf
