/- The engine, part 19: the rules of a walk whose side conditions are proved by default. No program is named here. -/
import Derived.Test.YteecgmkfbohpjaaE22
import Derived.Test.YteecgmkfbohpjaaE25
namespace Bf
open Go Go.RowKit
attribute [local irreducible] Quiet Effect RunS Ev PureC Shift RunQ

section
variable {X : Cx} {rd : Option Nat} {P : Program} {ops : Array Oper} {rest : List Oper} {σ σ' : St} {Q : Exit → St → Prop} {d : D} {dst : Option Nat} {op : Op} {tt : TypeId} {pos : String} {af : Array Edge} {g : Option (Nat × Bool)}
theorem wq (hg : guardOk X.N.n ops σ g = true := by exact rfl) (hs : dstOk X.N dst = true := by exact rfl) (hq : Quiet P σ.hp σ.ev ⟨dst, op, tt, pos, af, g⟩ d := by
  first
    | (apply q_move <;> exact rfl)
    | (apply q_assign <;> exact rfl)
    | (apply q_lss <;> exact rfl)
    | (apply q_leq <;> exact rfl)
    | (apply q_gtr <;> exact rfl)
    | (apply q_geq <;> exact rfl)
    | (apply q_eqi <;> exact rfl)
    | (apply q_nei <;> exact rfl)
    | (apply q_add <;> exact rfl)
    | (apply q_sub <;> exact rfl)
    | (apply q_mul <;> exact rfl)
    | (apply q_not <;> exact rfl)
    | (apply q_max <;> exact rfl)
    | (apply q_min <;> exact rfl)
    | (apply q_len_m <;> exact rfl)
    | (apply q_pickt <;> exact rfl)
    | (apply q_pickf <;> exact rfl)
    | (apply q_extract <;> exact rfl)
    | (apply q_len_l <;> exact rfl)
    | (apply q_len_o <;> exact rfl)
    | (apply q_len_nil <;> exact rfl)
    | (apply q_fld_q <;> exact rfl)
    | (apply q_fld_p <;> exact rfl)
    | (apply q_fld_e <;> exact rfl)
    | (apply q_load1_q <;> exact rfl)
    | (apply q_load_e <;> exact rfl)
    | (apply q_load1_p <;> exact rfl)
    | (apply q_load_b <;> exact rfl)
    | (apply q_loadN_p <;> exact rfl)
    | (apply q_loadN_q <;> exact rfl)
    | (apply q_conv <;> exact rfl)
    | (apply q_eqs <;> exact rfl)
    | (apply q_nes <;> exact rfl)
    | (apply q_eqb <;> exact rfl)
    | (apply q_neb <;> exact rfl)
    | (apply q_nil <;> exact rfl)
    | (apply q_func; repeat (first | exact CapsOk.nil | (apply CapsOk.v; (focus exact rfl))))
    | (apply q_build; (focus exact rfl); (focus repeat (first | exact PartsOk.nil | (apply PartsOk.v; (focus exact rfl); (focus exact rfl); (focus exact rfl); (focus exact rfl); (focus exact rfl)) | (apply PartsOk.nils; (focus exact rfl); (focus exact rfl); (focus exact rfl)))))
    | (apply q_idx_l; (focus exact rfl); (focus exact rfl); (focus assumption); (focus assumption); (focus exact rfl))
    | (apply q_idx_o; (focus exact rfl); (focus exact rfl); (focus exact rfl); (focus assumption); (focus assumption))
    | (apply q_slice_h; (focus exact rfl); (focus exact rfl); (focus assumption); (focus assumption))
    | (apply q_slice_l; (focus exact rfl); (focus exact rfl); (focus assumption); (focus assumption))
    | (apply q_idx_a; (focus exact rfl); (focus exact rfl); (focus exact rfl); (focus assumption); (focus assumption))
    | (apply q_load_a; (focus exact rfl); (focus exact rfl); (focus assumption); (focus assumption))
    | (apply q_load1_e; (focus exact rfl); (focus exact rfl); (focus assumption); (focus exact rfl))
    | (apply q_load_ee; (focus exact rfl); (focus exact rfl); (focus assumption); (focus exact rfl))) (h : RunS X rd P ops rest (σ.put dst (normD d)) Q) : RunS X rd P ops (⟨dst, op, tt, pos, af, g⟩ :: rest) σ Q := rq hg hs hq h
theorem we (hg : guardOk X.N.n ops σ g = true := by exact rfl) (he : Effect P X.N ⟨dst, op, tt, pos, af, g⟩ σ σ' := by
  first
    | (apply e_alloc <;> exact rfl)
    | (apply e_box <;> exact rfl)
    | (apply e_boxo <;> exact rfl)
    | (apply e_store <;> exact rfl)
    | (apply e_store_e; (focus exact rfl); (focus exact rfl); (focus assumption); (focus exact rfl); (focus exact rfl); (focus exact rfl); (focus exact Nat.le_of_ble_eq_true rfl); (focus first | exact .inl rfl | exact .inr ⟨rfl, rfl⟩); (focus exact rfl))
    | (apply e_alloc_a; (focus exact rfl); (focus exact rfl); (focus exact Nat.le_of_ble_eq_true rfl); (focus exact rfl))
    | (apply e_store_a; (focus exact rfl); (focus exact rfl); (focus exact rfl); (focus assumption); (focus assumption); (focus assumption); (focus exact rfl))
    | (apply e_buildSlice; (focus repeat (first | exact ElsOk.nil | (apply ElsOk.v; (focus exact rfl); (focus exact rfl); (focus exact rfl)) | (apply ElsOk.s; (focus exact rfl); (focus exact rfl)))); (focus exact rfl); (focus exact rfl); (focus exact rfl))) (h : RunS X rd P ops rest σ' Q) : RunS X rd P ops (⟨dst, op, tt, pos, af, g⟩ :: rest) σ Q := re hg he h
theorem ws (hg : guardNo X.N.n ops σ g = true := by exact rfl) (hs : dstOk X.N dst = true := by exact rfl) (h : RunS X rd P ops rest (σ.skip dst) Q) : RunS X rd P ops (⟨dst, op, tt, pos, af, g⟩ :: rest) σ Q := rs hg hs h
end
section
variable {X : Cx} {rd : Option Nat} {P : Program} {ops : Array Oper} {rest : List Oper} {σ σ' : St} {Q : Exit → St → Prop} {d : D} {dst : Option Nat} {t tt : TypeId} {pos : String} {af : Array Edge} {g : Option (Nat × Bool)} {x : Operand} {f own fl : Bool} {fn : FuncId} {caps dcs : List V} {as : List Operand} {ats : Array TypeId} {r : V}
/-- A literal of a slice, as data. -/
theorem wbs {e z n : Nat} {zv : Value} {parts : List (Nat × Operand)} {xs : List V} [ht : TSl P t e] [hz : TSz P e z] [hzv : TZero P e zv] (h1 : ElsOk σ.ev z 0 parts fl xs := by repeat (first | exact ElsOk.nil | (apply ElsOk.v; (focus exact rfl); (focus exact rfl); (focus exact rfl)) | (apply ElsOk.s; (focus exact rfl); (focus exact rfl)))) (h2 : xs.length = n := by exact rfl) (h3 : (Nat.ble n 1048576 && Nat.ble (n * z) 16777216) = true := by exact rfl) (hg : guardOk X.N.n ops σ g = true := by exact rfl) (hs : dstOk X.N dst = true := by exact rfl)
    (h : RunS X rd P ops rest (σ.put dst (normD (.v fl (.l z xs)))) Q) : RunS X rd P ops (⟨dst, .buildSlice t n parts.toArray, tt, pos, af, g⟩ :: rest) σ Q := rq hg hs (q_buildSlice h1 h2 h3) h
/-- A call by its contract: the answer is new. -/
theorem wc (hc : PureC P true fn dcs r) (hf : TFn P fn := by exact inferInstance) (hx : σ.ev x = some (.v f (.c fn caps)) := by exact rfl) (ha : ArgsOk σ.hp σ.ev as own fl (dcs.take as.length) := by repeat (first | exact ArgsOk.nil | (apply ArgsOk.z; (focus exact rfl)) | (apply ArgsOk.v; (focus exact rfl)) | (apply ArgsOk.o; (focus exact rfl); (focus exact rfl); (focus exact rfl)))) (hdc : dcs.take as.length ++ caps = dcs := by exact rfl) (hg : guardOk X.N.n ops σ g = true := by exact rfl) (hs : dstOk X.N dst = true := by exact rfl)
    (h : RunS X rd P ops rest (σ.put dst (normD (.v true r))) Q) : RunS X rd P ops (⟨dst, .call { callee := .value x, args := as.toArray, argTypes := ats }, tt, pos, af, g⟩ :: rest) σ Q := rq hg hs (q_call hx ha hf (hdc.symm ▸ hc)) h
theorem wca (hc : PureC P false fn dcs r) (hf : TFn P fn := by exact inferInstance) (hx : σ.ev x = some (.v f (.c fn caps)) := by exact rfl) (ha : ArgsOk σ.hp σ.ev as false fl (dcs.take as.length) := by repeat (first | exact ArgsOk.nil | (apply ArgsOk.z; (focus exact rfl)) | (apply ArgsOk.v; (focus exact rfl)) | (apply ArgsOk.o; (focus exact rfl); (focus exact rfl); (focus exact rfl)))) (hdc : dcs.take as.length ++ caps = dcs := by exact rfl) (hg : guardOk X.N.n ops σ g = true := by exact rfl) (hs : dstOk X.N dst = true := by exact rfl)
    (h : RunS X rd P ops rest (σ.put dst (normD (.v (f && fl) r))) Q) : RunS X rd P ops (⟨dst, .call { callee := .value x, args := as.toArray, argTypes := ats }, tt, pos, af, g⟩ :: rest) σ Q := rq hg hs (q_calla hx ha hf (hdc.symm ▸ hc)) h
end
section
variable {P : Program} {N : Rm} {ops : Array Oper} {K : St → Prop} {rest : List Oper} {σ : St} {d : D} {dst : Option Nat} {op : Op} {tt : TypeId} {pos : String} {af : Array Edge} {g : Option (Nat × Bool)} {x : Operand} {f own fl : Bool} {fn : FuncId} {caps dcs : List V} {as : List Operand} {ats : Array TypeId} {r : V}
theorem wqq (hg : guardOk N.n ops σ g = true := by exact rfl) (hs : dstOk N dst = true := by exact rfl) (hq : Quiet P σ.hp σ.ev ⟨dst, op, tt, pos, af, g⟩ d := by
  first
    | (apply q_move <;> exact rfl)
    | (apply q_assign <;> exact rfl)
    | (apply q_lss <;> exact rfl)
    | (apply q_leq <;> exact rfl)
    | (apply q_gtr <;> exact rfl)
    | (apply q_geq <;> exact rfl)
    | (apply q_eqi <;> exact rfl)
    | (apply q_nei <;> exact rfl)
    | (apply q_add <;> exact rfl)
    | (apply q_sub <;> exact rfl)
    | (apply q_mul <;> exact rfl)
    | (apply q_not <;> exact rfl)
    | (apply q_max <;> exact rfl)
    | (apply q_min <;> exact rfl)
    | (apply q_len_m <;> exact rfl)
    | (apply q_pickt <;> exact rfl)
    | (apply q_pickf <;> exact rfl)
    | (apply q_extract <;> exact rfl)
    | (apply q_len_l <;> exact rfl)
    | (apply q_len_o <;> exact rfl)
    | (apply q_len_nil <;> exact rfl)
    | (apply q_fld_q <;> exact rfl)
    | (apply q_fld_p <;> exact rfl)
    | (apply q_fld_e <;> exact rfl)
    | (apply q_load1_q <;> exact rfl)
    | (apply q_load_e <;> exact rfl)
    | (apply q_load1_p <;> exact rfl)
    | (apply q_load_b <;> exact rfl)
    | (apply q_loadN_p <;> exact rfl)
    | (apply q_loadN_q <;> exact rfl)
    | (apply q_conv <;> exact rfl)
    | (apply q_eqs <;> exact rfl)
    | (apply q_nes <;> exact rfl)
    | (apply q_eqb <;> exact rfl)
    | (apply q_neb <;> exact rfl)
    | (apply q_nil <;> exact rfl)
    | (apply q_func; repeat (first | exact CapsOk.nil | (apply CapsOk.v; (focus exact rfl))))
    | (apply q_build; (focus exact rfl); (focus repeat (first | exact PartsOk.nil | (apply PartsOk.v; (focus exact rfl); (focus exact rfl); (focus exact rfl); (focus exact rfl); (focus exact rfl)) | (apply PartsOk.nils; (focus exact rfl); (focus exact rfl); (focus exact rfl)))))
    | (apply q_idx_l; (focus exact rfl); (focus exact rfl); (focus assumption); (focus assumption); (focus exact rfl))
    | (apply q_idx_o; (focus exact rfl); (focus exact rfl); (focus exact rfl); (focus assumption); (focus assumption))
    | (apply q_slice_h; (focus exact rfl); (focus exact rfl); (focus assumption); (focus assumption))
    | (apply q_slice_l; (focus exact rfl); (focus exact rfl); (focus assumption); (focus assumption))
    | (apply q_idx_a; (focus exact rfl); (focus exact rfl); (focus exact rfl); (focus assumption); (focus assumption))
    | (apply q_load_a; (focus exact rfl); (focus exact rfl); (focus assumption); (focus assumption))
    | (apply q_load1_e; (focus exact rfl); (focus exact rfl); (focus assumption); (focus exact rfl))
    | (apply q_load_ee; (focus exact rfl); (focus exact rfl); (focus assumption); (focus exact rfl))
    | (apply q_buildSlice; (focus repeat (first | exact ElsOk.nil | (apply ElsOk.v; (focus exact rfl); (focus exact rfl); (focus exact rfl)) | (apply ElsOk.s; (focus exact rfl); (focus exact rfl)))); (focus exact rfl); (focus exact rfl))) (h : RunQ P N ops K rest (σ.put dst (normD d))) : RunQ P N ops K (⟨dst, op, tt, pos, af, g⟩ :: rest) σ := qq hg hs hq h
theorem wqs (hg : guardNo N.n ops σ g = true := by exact rfl) (hs : dstOk N dst = true := by exact rfl) (h : RunQ P N ops K rest (σ.skip dst)) : RunQ P N ops K (⟨dst, op, tt, pos, af, g⟩ :: rest) σ := qs hg hs h
theorem wqb {c : Bool} (hu : usedAsGuard ops dst = true := by exact rfl) (hg : guardOk N.n ops σ g = true := by exact rfl) (hs : dstOk N dst = true := by exact rfl) (hq : Quiet P σ.hp σ.ev ⟨dst, op, tt, pos, af, g⟩ (.v f (.b c)) := by
  first
    | (apply q_move <;> exact rfl)
    | (apply q_assign <;> exact rfl)
    | (apply q_lss <;> exact rfl)
    | (apply q_leq <;> exact rfl)
    | (apply q_gtr <;> exact rfl)
    | (apply q_geq <;> exact rfl)
    | (apply q_eqi <;> exact rfl)
    | (apply q_nei <;> exact rfl)
    | (apply q_add <;> exact rfl)
    | (apply q_sub <;> exact rfl)
    | (apply q_mul <;> exact rfl)
    | (apply q_not <;> exact rfl)
    | (apply q_max <;> exact rfl)
    | (apply q_min <;> exact rfl)
    | (apply q_len_m <;> exact rfl)
    | (apply q_pickt <;> exact rfl)
    | (apply q_pickf <;> exact rfl)
    | (apply q_extract <;> exact rfl)
    | (apply q_len_l <;> exact rfl)
    | (apply q_len_o <;> exact rfl)
    | (apply q_len_nil <;> exact rfl)
    | (apply q_fld_q <;> exact rfl)
    | (apply q_fld_p <;> exact rfl)
    | (apply q_fld_e <;> exact rfl)
    | (apply q_load1_q <;> exact rfl)
    | (apply q_load_e <;> exact rfl)
    | (apply q_load1_p <;> exact rfl)
    | (apply q_load_b <;> exact rfl)
    | (apply q_loadN_p <;> exact rfl)
    | (apply q_loadN_q <;> exact rfl)
    | (apply q_conv <;> exact rfl)
    | (apply q_eqs <;> exact rfl)
    | (apply q_nes <;> exact rfl)
    | (apply q_eqb <;> exact rfl)
    | (apply q_neb <;> exact rfl)
    | (apply q_nil <;> exact rfl)
    | (apply q_func; repeat (first | exact CapsOk.nil | (apply CapsOk.v; (focus exact rfl))))
    | (apply q_build; (focus exact rfl); (focus repeat (first | exact PartsOk.nil | (apply PartsOk.v; (focus exact rfl); (focus exact rfl); (focus exact rfl); (focus exact rfl); (focus exact rfl)) | (apply PartsOk.nils; (focus exact rfl); (focus exact rfl); (focus exact rfl)))))
    | (apply q_idx_l; (focus exact rfl); (focus exact rfl); (focus assumption); (focus assumption); (focus exact rfl))
    | (apply q_idx_o; (focus exact rfl); (focus exact rfl); (focus exact rfl); (focus assumption); (focus assumption))
    | (apply q_slice_h; (focus exact rfl); (focus exact rfl); (focus assumption); (focus assumption))
    | (apply q_slice_l; (focus exact rfl); (focus exact rfl); (focus assumption); (focus assumption))
    | (apply q_idx_a; (focus exact rfl); (focus exact rfl); (focus exact rfl); (focus assumption); (focus assumption))
    | (apply q_load_a; (focus exact rfl); (focus exact rfl); (focus assumption); (focus assumption))
    | (apply q_load1_e; (focus exact rfl); (focus exact rfl); (focus assumption); (focus exact rfl))
    | (apply q_load_ee; (focus exact rfl); (focus exact rfl); (focus assumption); (focus exact rfl))) (ht : c = true → RunQ P N ops K rest (σ.put dst (.v f (.b true)))) (hf : c = false → RunQ P N ops K rest (σ.put dst (.v f (.b false)))) : RunQ P N ops K (⟨dst, op, tt, pos, af, g⟩ :: rest) σ := qb hu hg hs hq ht hf
theorem wqc (hc : PureC P true fn dcs r) (hf : TFn P fn := by exact inferInstance) (hx : σ.ev x = some (.v f (.c fn caps)) := by exact rfl) (ha : ArgsOk σ.hp σ.ev as own fl (dcs.take as.length) := by repeat (first | exact ArgsOk.nil | (apply ArgsOk.z; (focus exact rfl)) | (apply ArgsOk.v; (focus exact rfl)) | (apply ArgsOk.o; (focus exact rfl); (focus exact rfl); (focus exact rfl)))) (hdc : dcs.take as.length ++ caps = dcs := by exact rfl) (hg : guardOk N.n ops σ g = true := by exact rfl) (hs : dstOk N dst = true := by exact rfl)
    (h : RunQ P N ops K rest (σ.put dst (normD (.v true r)))) : RunQ P N ops K (⟨dst, .call { callee := .value x, args := as.toArray, argTypes := ats }, tt, pos, af, g⟩ :: rest) σ := qq hg hs (q_call hx ha hf (hdc.symm ▸ hc)) h
theorem wqca (hc : PureC P false fn dcs r) (hf : TFn P fn := by exact inferInstance) (hx : σ.ev x = some (.v f (.c fn caps)) := by exact rfl) (ha : ArgsOk σ.hp σ.ev as false fl (dcs.take as.length) := by repeat (first | exact ArgsOk.nil | (apply ArgsOk.z; (focus exact rfl)) | (apply ArgsOk.v; (focus exact rfl)) | (apply ArgsOk.o; (focus exact rfl); (focus exact rfl); (focus exact rfl)))) (hdc : dcs.take as.length ++ caps = dcs := by exact rfl) (hg : guardOk N.n ops σ g = true := by exact rfl) (hs : dstOk N dst = true := by exact rfl)
    (h : RunQ P N ops K rest (σ.put dst (normD (.v (f && fl) r)))) : RunQ P N ops K (⟨dst, .call { callee := .value x, args := as.toArray, argTypes := ats }, tt, pos, af, g⟩ :: rest) σ := qq hg hs (q_calla hx ha hf (hdc.symm ▸ hc)) h
theorem wqbc {q f' : Bool} (hc : PureC P true fn dcs (.b q)) (hu : usedAsGuard ops dst = true := by exact rfl) (hf : TFn P fn := by exact inferInstance) (hx : σ.ev x = some (.v f' (.c fn caps)) := by exact rfl) (ha : ArgsOk σ.hp σ.ev as own fl (dcs.take as.length) := by repeat (first | exact ArgsOk.nil | (apply ArgsOk.z; (focus exact rfl)) | (apply ArgsOk.v; (focus exact rfl)) | (apply ArgsOk.o; (focus exact rfl); (focus exact rfl); (focus exact rfl)))) (hdc : dcs.take as.length ++ caps = dcs := by exact rfl) (hg : guardOk N.n ops σ g = true := by exact rfl) (hs : dstOk N dst = true := by exact rfl)
    (ht : q = true → RunQ P N ops K rest (σ.put dst (.v true (.b true)))) (hff : q = false → RunQ P N ops K rest (σ.put dst (.v true (.b false)))) : RunQ P N ops K (⟨dst, .call { callee := .value x, args := as.toArray, argTypes := ats }, tt, pos, af, g⟩ :: rest) σ := qb hu hg hs (q_call hx ha hf (hdc.symm ▸ hc)) ht hff
end
/-! #### Drawn regions with operations that lay blocks -/
def keyOf : List (Nat × Nat) → Nat → Option Nat
  | [], _ => none
  | (a, k) :: l, i => bif Nat.beq a i then some k else keyOf l i
def hasKey : List (Nat × Nat) → Nat → Bool
  | [], _ => false
  | (_, k) :: l, j => Nat.beq k j || hasKey l j
def hasPair : List (Nat × Nat) → Nat → Nat → Bool
  | [], _, _ => false
  | (a, k) :: l, i, j => (Nat.beq a i && Nat.beq k j) || hasPair l i j
/-- Which keys are hidden: 'lays': the operations that lay blocks, with their keys; 'sees': operations that may see such a key. -/
def hideOf (lays sees : List (Nat × Nat)) (i j : Nat) : Bool := match keyOf lays i with | some k => !(Nat.beq j k) | none => hasKey lays j && !(hasPair sees i j)
section
attribute [local irreducible] RunE
variable {P : Program} {N : Rm} {ops : Array Oper} {H : Nat → Nat → Bool} {ks : Nat → Option Nat} {i : Nat} {K : St → Prop} {rest : List Oper} {σ : St} {d : D} {dst : Option Nat} {op : Op} {t tt : TypeId} {pos : String} {af : Array Edge} {g : Option (Nat × Bool)} {x y : Operand} {f f1 f2 own fl : Bool} {fn : FuncId} {caps dcs : List V} {as : List Operand} {ats : Array TypeId} {r : V}
theorem run_e (r : RO) {o : Oper} (hy : YE P N ops H ks i σ o r) (h : RunE P N ops H ks K (i + 1) rest (outE ops o σ r)) : RunE P N ops H ks K i (o :: rest) σ := by unfold RunE; exact ⟨r, hy, h⟩
theorem wen (h : K σ) : RunE P N ops H ks K i [] σ := by unfold RunE; exact h
theorem weq (hg : guardOk N.n ops (σ.view ops ⟨dst, op, tt, pos, af, g⟩ (H i)) g = true := by exact rfl) (hs : dstOk N dst = true := by exact rfl) (hk : ks i = none := by exact rfl) (hq : Quiet P (σ.view ops ⟨dst, op, tt, pos, af, g⟩ (H i)).hp (σ.view ops ⟨dst, op, tt, pos, af, g⟩ (H i)).ev ⟨dst, op, tt, pos, af, g⟩ d := by
  first
    | (apply q_move <;> exact rfl)
    | (apply q_assign <;> exact rfl)
    | (apply q_lss <;> exact rfl)
    | (apply q_leq <;> exact rfl)
    | (apply q_gtr <;> exact rfl)
    | (apply q_geq <;> exact rfl)
    | (apply q_eqi <;> exact rfl)
    | (apply q_nei <;> exact rfl)
    | (apply q_add <;> exact rfl)
    | (apply q_sub <;> exact rfl)
    | (apply q_mul <;> exact rfl)
    | (apply q_not <;> exact rfl)
    | (apply q_max <;> exact rfl)
    | (apply q_min <;> exact rfl)
    | (apply q_len_m <;> exact rfl)
    | (apply q_pickt <;> exact rfl)
    | (apply q_pickf <;> exact rfl)
    | (apply q_extract <;> exact rfl)
    | (apply q_len_l <;> exact rfl)
    | (apply q_len_o <;> exact rfl)
    | (apply q_len_nil <;> exact rfl)
    | (apply q_fld_q <;> exact rfl)
    | (apply q_fld_p <;> exact rfl)
    | (apply q_fld_e <;> exact rfl)
    | (apply q_load1_q <;> exact rfl)
    | (apply q_load_e <;> exact rfl)
    | (apply q_load1_p <;> exact rfl)
    | (apply q_load_b <;> exact rfl)
    | (apply q_loadN_p <;> exact rfl)
    | (apply q_loadN_q <;> exact rfl)
    | (apply q_conv <;> exact rfl)
    | (apply q_eqs <;> exact rfl)
    | (apply q_nes <;> exact rfl)
    | (apply q_eqb <;> exact rfl)
    | (apply q_neb <;> exact rfl)
    | (apply q_nil <;> exact rfl)
    | (apply q_func; repeat (first | exact CapsOk.nil | (apply CapsOk.v; (focus exact rfl))))
    | (apply q_build; (focus exact rfl); (focus repeat (first | exact PartsOk.nil | (apply PartsOk.v; (focus exact rfl); (focus exact rfl); (focus exact rfl); (focus exact rfl); (focus exact rfl)) | (apply PartsOk.nils; (focus exact rfl); (focus exact rfl); (focus exact rfl)))))
    | (apply q_idx_l; (focus exact rfl); (focus exact rfl); (focus assumption); (focus assumption); (focus exact rfl))
    | (apply q_idx_o; (focus exact rfl); (focus exact rfl); (focus exact rfl); (focus assumption); (focus assumption))
    | (apply q_slice_h; (focus exact rfl); (focus exact rfl); (focus assumption); (focus assumption))
    | (apply q_slice_l; (focus exact rfl); (focus exact rfl); (focus assumption); (focus assumption))
    | (apply q_idx_a; (focus exact rfl); (focus exact rfl); (focus exact rfl); (focus assumption); (focus assumption))
    | (apply q_load_a; (focus exact rfl); (focus exact rfl); (focus assumption); (focus assumption))
    | (apply q_load1_e; (focus exact rfl); (focus exact rfl); (focus assumption); (focus exact rfl))
    | (apply q_load_ee; (focus exact rfl); (focus exact rfl); (focus assumption); (focus exact rfl))
    | (apply q_buildSlice; (focus repeat (first | exact ElsOk.nil | (apply ElsOk.v; (focus exact rfl); (focus exact rfl); (focus exact rfl)) | (apply ElsOk.s; (focus exact rfl); (focus exact rfl)))); (focus exact rfl); (focus exact rfl))) (ha : (normD d).anyK (H i) = false := by exact rfl) (h : RunE P N ops H ks K (i + 1) rest (σ.put dst (normD d))) : RunE P N ops H ks K i (⟨dst, op, tt, pos, af, g⟩ :: rest) σ := run_e (.q (some (normD d))) ⟨hg, hs, hk, hq.norm, ha⟩ h
theorem wes (hg : guardNo N.n ops (σ.view ops ⟨dst, op, tt, pos, af, g⟩ (H i)) g = true := by exact rfl) (hs : dstOk N dst = true := by exact rfl) (hk : ks i = none := by exact rfl) (h : RunE P N ops H ks K (i + 1) rest (σ.skip dst)) : RunE P N ops H ks K i (⟨dst, op, tt, pos, af, g⟩ :: rest) σ := run_e (.q none) ⟨hg, hs, hk⟩ h
theorem wec (hc : PureC P true fn dcs r) (hf : TFn P fn := by exact inferInstance) (hx : (σ.view ops ⟨dst, .call { callee := .value x, args := as.toArray, argTypes := ats }, tt, pos, af, g⟩ (H i)).ev x = some (.v f (.c fn caps)) := by exact rfl) (ha : ArgsOk (σ.view ops ⟨dst, .call { callee := .value x, args := as.toArray, argTypes := ats }, tt, pos, af, g⟩ (H i)).hp (σ.view ops ⟨dst, .call { callee := .value x, args := as.toArray, argTypes := ats }, tt, pos, af, g⟩ (H i)).ev as own fl (dcs.take as.length) := by repeat (first | exact ArgsOk.nil | (apply ArgsOk.z; (focus exact rfl)) | (apply ArgsOk.v; (focus exact rfl)) | (apply ArgsOk.o; (focus exact rfl); (focus exact rfl); (focus exact rfl)))) (hdc : dcs.take as.length ++ caps = dcs := by exact rfl)
    (hg : guardOk N.n ops (σ.view ops ⟨dst, .call { callee := .value x, args := as.toArray, argTypes := ats }, tt, pos, af, g⟩ (H i)) g = true := by exact rfl) (hs : dstOk N dst = true := by exact rfl) (hk : ks i = none := by exact rfl) (hn : (normD (.v true r)).anyK (H i) = false := by exact rfl) (h : RunE P N ops H ks K (i + 1) rest (σ.put dst (normD (.v true r)))) :
    RunE P N ops H ks K i (⟨dst, .call { callee := .value x, args := as.toArray, argTypes := ats }, tt, pos, af, g⟩ :: rest) σ := run_e (.q (some (normD (.v true r)))) ⟨hg, hs, hk, (q_call hx ha hf (hdc.symm ▸ hc)).norm, hn⟩ h
theorem weapp {dst k n e z bytes : Nat} {zv : Value} {xs ys : List V} {dd : D} [ht : TSl P t e] [hz : TSz P e z] [hzv : TZero P e zv] [hby : TBytes P e bytes]
    (hx : (σ.view ops ⟨some dst, .call { callee := .builtin .append, args := #[x, y], argTypes := #[t, t] }, tt, pos, af, g⟩ (H i)).ev x = some (.o k n) := by exact rfl) (hk : (σ.view ops ⟨some dst, .call { callee := .builtin .append, args := #[x, y], argTypes := #[t, t] }, tt, pos, af, g⟩ (H i)).hp k = some (.sl f e z xs) := by exact rfl) (hn : n = xs.length := by exact rfl)
    (hy : (σ.view ops ⟨some dst, .call { callee := .builtin .append, args := #[x, y], argTypes := #[t, t] }, tt, pos, af, g⟩ (H i)).ev y = some dd := by exact rfl) (hs : Src (σ.view ops ⟨some dst, .call { callee := .builtin .append, args := #[x, y], argTypes := #[t, t] }, tt, pos, af, g⟩ (H i)).hp z dd f2 ys := by first | (apply Src.o <;> exact rfl) | (apply Src.l; (focus (intro y hy; simp at hy; obtain ⟨_, _, rfl⟩ := hy; rfl))) | (apply Src.l; (focus (intro y hy; simp at hy; subst hy; rfl)))) (h0 : Nat.blt 0 z = true := by exact rfl) (hzs : zv.cells.size = z := by exact rfl)
    (hN : N.can dst = true := by exact rfl) (hg : guardOk N.n ops (σ.view ops ⟨some dst, .call { callee := .builtin .append, args := #[x, y], argTypes := #[t, t] }, tt, pos, af, g⟩ (H i)) g = true := by exact rfl) (hks : ks i = some k := by exact rfl) (hk0 : H i k = false := by exact rfl) (hH : ∀ j, H i j = !(Nat.beq j k) := by exact fun _ => rfl) (hb : (xs.length + ys.length) * (bytes + 1) ≤ 140737488355328)
    (h : RunE P N ops H ks K (i + 1) rest (σ.lay k (.sl (f && f2) e z (xs ++ ys)) (some dst) (.o k (n + ys.length)))) :
    RunE P N ops H ks K i (⟨some dst, .call { callee := .builtin .append, args := #[x, y], argTypes := #[t, t] }, tt, pos, af, g⟩ :: rest) σ :=
  run_e (.l k (.sl (f && f2) e z (xs ++ ys)) (.o k (n + ys.length))) ⟨hg, ⟨_, rfl⟩, hks, e_append hx hk hn hy hs h0 hzs hb hN, rfl, hk0, hH⟩ h
theorem west {k off z : Nat} {cs : List D} {e : V} {ty : TypeId} [hz : TSz P t z] (hks : ks i = some k := by exact rfl) (hx : (σ.viewT ops ⟨dst, .store t x y, tt, pos, af, g⟩ k).ev x = some (.p k off) := by exact rfl) (hk : (σ.viewT ops ⟨dst, .store t x y, tt, pos, af, g⟩ k).hp k = some (.cells ty cs) := by exact rfl) (hy : (σ.viewT ops ⟨dst, .store t x y, tt, pos, af, g⟩ k).ev y = some (.v f e) := by exact rfl)
    (hpl : e.plain = true := by exact rfl) (hl : (V.cells e).length = z := by exact rfl) (hle : Nat.ble (off + z) cs.length = true := by exact rfl) (hd : dst = none := by exact rfl) (hg : guardOk N.n ops (σ.viewT ops ⟨dst, .store t x y, tt, pos, af, g⟩ k) g = true := by exact rfl)
    (hb : (Blk.cells ty (cs.take off ++ (V.cells e).map (D.v f) ++ cs.drop (off + z))).anyK (H i) = false := by exact rfl) (hH : ∀ j, H i j = !(Nat.beq j k) := by exact fun _ => rfl)
    (h : RunE P N ops H ks K (i + 1) rest (σ.turnK ops ⟨dst, .store t x y, tt, pos, af, g⟩ k (.cells ty (cs.take off ++ (V.cells e).map (D.v f) ++ cs.drop (off + z))))) : RunE P N ops H ks K i (⟨dst, .store t x y, tt, pos, af, g⟩ :: rest) σ :=
  run_e (.t k (.cells ty (cs.take off ++ (V.cells e).map (D.v f) ++ cs.drop (off + z)))) ⟨hg, hd, hks, e_store hx hk hy hpl hl hle hd, hb, hH⟩ h
theorem weste {k i' z off z2 : Nat} {xs : List V} {e e2 : V} {ty : TypeId} [hz : TSz P t z2] (he : xs[i']? = some e) (hks : ks i = some k := by exact rfl) (hx : (σ.viewT ops ⟨dst, .store t x y, tt, pos, af, g⟩ k).ev x = some (.pe k i' z off) := by exact rfl) (hk : (σ.viewT ops ⟨dst, .store t x y, tt, pos, af, g⟩ k).hp k = some (.sl f ty z xs) := by exact rfl) (hy : (σ.viewT ops ⟨dst, .store t x y, tt, pos, af, g⟩ k).ev y = some (.v f2 e2) := by exact rfl)
    (hpl : e2.plain = true := by exact rfl) (hl : (V.cells e2).length = z2 := by exact rfl) (hle : off + z2 ≤ (V.cells e).length := by exact Nat.le_of_ble_eq_true rfl) (hst : e.isSt = true ∨ (off = 0 ∧ e2.isSt = false) := by first | exact .inl rfl | exact .inr ⟨rfl, rfl⟩) (hd : dst = none := by exact rfl) (hg : guardOk N.n ops (σ.viewT ops ⟨dst, .store t x y, tt, pos, af, g⟩ k) g = true := by exact rfl) (hH : ∀ j, H i j = !(Nat.beq j k) := by exact fun _ => rfl)
    (h : RunE P N ops H ks K (i + 1) rest (σ.turnK ops ⟨dst, .store t x y, tt, pos, af, g⟩ k (.sl (f && f2) ty z (xs.set i' (e.putAt off e2))))) : RunE P N ops H ks K i (⟨dst, .store t x y, tt, pos, af, g⟩ :: rest) σ :=
  run_e (.t k (.sl (f && f2) ty z (xs.set i' (e.putAt off e2)))) ⟨hg, hd, hks, e_store_e hx hk he hy hpl hl hle hst hd, rfl, hH⟩ h
theorem webs {dst e z n : Nat} {zv : Value} {parts : List (Nat × Operand)} {xs : List V} [ht : TSl P t e] [hz : TSz P e z] [hzv : TZero P e zv] (h1 : ElsOk (σ.view ops ⟨some dst, .buildSlice t n parts.toArray, tt, pos, af, g⟩ (H i)).ev z 0 parts fl xs := by repeat (first | exact ElsOk.nil | (apply ElsOk.v; (focus exact rfl); (focus exact rfl); (focus exact rfl)) | (apply ElsOk.s; (focus exact rfl); (focus exact rfl)))) (h2 : xs.length = n := by exact rfl) (h3 : (Nat.ble n 1048576 && Nat.ble (n * z) 16777216) = true := by exact rfl) (hN : N.can dst = true := by exact rfl)
    (hg : guardOk N.n ops (σ.view ops ⟨some dst, .buildSlice t n parts.toArray, tt, pos, af, g⟩ (H i)) g = true := by exact rfl) (hks : ks i = some dst := by exact rfl) (hk0 : H i dst = false := by exact rfl) (hH : ∀ j, H i j = !(Nat.beq j dst) := by exact fun _ => rfl)
    (h : RunE P N ops H ks K (i + 1) rest (σ.lay dst (.sl fl e z xs) (some dst) (.o dst n))) : RunE P N ops H ks K i (⟨some dst, .buildSlice t n parts.toArray, tt, pos, af, g⟩ :: rest) σ :=
  run_e (.l dst (.sl fl e z xs) (.o dst n)) ⟨hg, ⟨_, rfl⟩, hks, e_buildSlice h1 h2 h3 hN, rfl, hk0, hH⟩ h
end
end Bf
