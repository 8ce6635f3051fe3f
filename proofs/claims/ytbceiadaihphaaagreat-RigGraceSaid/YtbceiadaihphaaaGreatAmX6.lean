/-
  The abstract machine, for proofs with variables: what each operation does, in a form that simp works out.
-/
import Derived.Test.YtbceiadaihphaaaGreatAmX5
import Derived.Attr
set_option linter.unusedSimpArgs false
set_option linter.unusedVariables false
namespace Go.Am
attribute [go_sem] EvK_seq EvK_block EvK_scope EvK_skip EvK_label EvK_exit EvK_ret EvK_cond EvK_region
 Rs_seq Rs_seq_exit Rs_seq_ret Rs_block Rs_block_ret Rs_block_exit Rs_loop Rs_loop_exit Rs_loop_ret Rs_nil
 EvC_true EvC_false EvO_nil EvO_cons EvG_true EvG_false EvV_value EvV_value' EvV_skip EvV_skip' EvV_fail EvV_get EvL_some EvV_set EvV_kill EvS_some EvV_new EvV_enter EvQ_some
 EvD_nil EvD_cons EvH_true EvH_false EvX_value EvX_value' EvX_skip EvX_skip' EvX_fail EvX_get EvXL_some EvX_set EvX_kill EvXS_some EvX_new EvX_enter EvXQ_some
 up_n up_dfs
@[congr] theorem EvK_congr {z : Zx} {c : Code} {K : List KF} {m : Tm} {h : PT ABlk} {n : Nat} : EvK z c K m h n = EvK z c K m h n := rfl
@[congr] theorem EvO_congr {z : Zx} {ops r : List Oper} {K : List KF} {m : Tm} {h : PT ABlk} {n : Nat} : EvO z ops r K m h n = EvO z ops r K m h n := rfl
@[congr] theorem Rs_congr {z : Zx} {e e' : AExit} {K : List KF} {m : Tm} {h : PT ABlk} {n : Nat} (he : e = e') : Rs z K e m h n = Rs z K e' m h n := by rw [he]
@[congr] theorem EvG_congr {z : Zx} {w w' : Bool} {o : Oper} {ops r : List Oper} {K : List KF} {m : Tm} {h : PT ABlk} {n : Nat} (hw : w = w') : EvG z w o ops r K m h n = EvG z w' o ops r K m h n := by rw [hw]
@[congr] theorem EvV_congr {z : Zx} {p p' : AP ANext} {d : Option Nat} {ops r : List Oper} {K : List KF} {m : Tm} {h : PT ABlk} {n : Nat} (hp : p = p') : EvV z p d ops r K m h n = EvV z p' d ops r K m h n := by rw [hp]
@[congr] theorem EvL_congr {z : Zx} {b b' : Option ABlk} {f : ABlk → AP ANext} {d : Option Nat} {ops r : List Oper} {K : List KF} {m : Tm} {h : PT ABlk} {n : Nat} (hb : b = b') : EvL z b f d ops r K m h n = EvL z b' f d ops r K m h n := by rw [hb]
@[congr] theorem EvS_congr {z : Zx} {o o' : Option ABlk} {id : Nat} {b : Option ABlk} {p : AP ANext} {d : Option Nat} {ops r : List Oper} {K : List KF} {m : Tm} {h : PT ABlk} {n : Nat} (ho : o = o') : EvS z o id b p d ops r K m h n = EvS z o' id b p d ops r K m h n := by rw [ho]
@[congr] theorem EvQ_congr {z : Zx} {s s' : Option (AP Value)} {f : FuncId} {args : List Value} {d : Option Nat} {ops r : List Oper} {K : List KF} {m : Tm} {h : PT ABlk} {n : Nat} (hs : s = s') : EvQ z s f args d ops r K m h n = EvQ z s' f args d ops r K m h n := by rw [hs]
@[congr] theorem EvD_congr {z : Zx} {L : List (Nat × Nat)} {ops r : List Oper} {K : List KF} {m : Tm} {h : PT ABlk} {n : Nat} {fs : List Foot} : EvD z L ops r K m h n fs = EvD z L ops r K m h n fs := rfl
@[congr] theorem EvH_congr {z : Zx} {L : List (Nat × Nat)} {w w' : Bool} {o : Oper} {ops r : List Oper} {K : List KF} {m : Tm} {h : PT ABlk} {n : Nat} {fs : List Foot} (hw : w = w') : EvH z L w o ops r K m h n fs = EvH z L w' o ops r K m h n fs := by rw [hw]
@[congr] theorem EvX_congr {z : Zx} {L : List (Nat × Nat)} {p p' : AP ANext} {d : Option Nat} {ops r : List Oper} {K : List KF} {m : Tm} {h : PT ABlk} {n lo : Nat} {rd wr : List Nat} {fs : List Foot} (hp : p = p') : EvX z L p d ops r K m h n lo rd wr fs = EvX z L p' d ops r K m h n lo rd wr fs := by rw [hp]
@[congr] theorem EvXL_congr {z : Zx} {L : List (Nat × Nat)} {b b' : Option ABlk} {f : ABlk → AP ANext} {d : Option Nat} {ops r : List Oper} {K : List KF} {m : Tm} {h : PT ABlk} {n lo : Nat} {rd wr : List Nat} {fs : List Foot} (hb : b = b') : EvXL z L b f d ops r K m h n lo rd wr fs = EvXL z L b' f d ops r K m h n lo rd wr fs := by rw [hb]
@[congr] theorem EvXS_congr {z : Zx} {L : List (Nat × Nat)} {o o' : Option ABlk} {id : Nat} {b : Option ABlk} {p : AP ANext} {d : Option Nat} {ops r : List Oper} {K : List KF} {m : Tm} {h : PT ABlk} {n lo : Nat} {rd wr : List Nat} {fs : List Foot} (ho : o = o') : EvXS z L o id b p d ops r K m h n lo rd wr fs = EvXS z L o' id b p d ops r K m h n lo rd wr fs := by rw [ho]
@[congr] theorem EvXQ_congr {z : Zx} {L : List (Nat × Nat)} {s s' : Option (AP Value)} {f : FuncId} {args : List Value} {d : Option Nat} {ops r : List Oper} {K : List KF} {m : Tm} {h : PT ABlk} {n lo : Nat} {rd wr : List Nat} {fs : List Foot} (hs : s = s') : EvXQ z L s f args d ops r K m h n lo rd wr fs = EvXQ z L s' f args d ops r K m h n lo rd wr fs := by rw [hs]
@[congr] theorem up_congr {m : Tm} {i : Nat} {v : Value} : up m i v = up m i v := rfl
@[go_sem] theorem up_get {m : Tm} {i j : Nat} {v : Value} : (up m i v).get j = if i = j then v else m.get j := by
 by_cases h : i = j
 ·subst h; rw [if_pos rfl, up_get_same]
 ·rw [if_neg h, up_get_ne h]
@[go_sem] theorem eval_tmp {m : Tm} {i : Nat} : m.eval (.tmp i) = m.get i := rfl
@[go_sem] theorem eval_const {m : Tm} {v : Value} : m.eval (.const v) = v := rfl
@[go_sem] theorem eval_func {m : Tm} {f : FuncId} : m.eval (.func f) = .func (.func f) ⟨[]⟩ ⟨[]⟩ := rfl
@[go_sem] theorem get_init {N : Nat} {L : List Value} {D : List Nat} {i : Nat} : (⟨N, PT.ofList .leaf 0 L, D⟩ : Tm).get i = (L[i]?).getD undefV := by
 unfold Tm.get
 simp only [PT.get_ofList_leaf]
 cases L[i]? <;> rfl
@[go_sem] theorem heap_same {h : PT ABlk} {i : Nat} {b : Option ABlk} : (h.set i b).get i = b := PT.get_set_same _ _ _
@[go_sem] theorem heap_ne {h : PT ABlk} {i j : Nat} {b : Option ABlk} (hij : i ≠ j) : (h.set i b).get j = h.get j := PT.get_set_ne _ _ hij
@[go_sem] theorem beq_ne {a b : Nat} (h : a ≠ b) : Nat.beq a b = false := by
 cases hb : Nat.beq a b with
 | false => rfl
 | true => exact absurd (Nat.eq_of_beq_eq_true hb) h
@[go_sem] theorem beq_self (a : Nat) : Nat.beq a a = true := by
 induction a with
 | zero => rfl
 | succ n ih => exact ih
@[go_sem] theorem ble_true {a b : Nat} (h : a ≤ b) : Nat.ble a b = true := Nat.ble_eq_true_of_le h
@[go_sem] theorem ble_false {a b : Nat} (h : b < a) : Nat.ble a b = false := by
 cases hb : Nat.ble a b with
 | false => rfl
 | true => exact absurd (Nat.le_of_ble_eq_true hb) (by omega)
@[go_sem] theorem blt_true {a b : Nat} (h : a < b) : Nat.blt a b = true := Nat.ble_eq_true_of_le h
@[go_sem] theorem blt_false {a b : Nat} (h : b ≤ a) : Nat.blt a b = false := ble_false (by omega)
@[go_sem] theorem asNat_int {k : IntKind} {i : Int} (h : 0 ≤ i) : asNat (.int k i) = some i.toNat := by
 obtain ⟨n, rfl⟩ := Int.eq_ofNat_of_zero_le h
 rfl
@[go_sem] theorem asNat_nat {k : IntKind} {n : Nat} : asNat (.int k (n : Int)) = some n := rfl
@[go_sem] theorem toNat_nat (n : Nat) : (n : Int).toNat = n := rfl
@[go_sem] theorem flat_int {n : Nat} {k : IntKind} {i : Int} : flat n (.int k i) = true := by cases n <;> rfl
@[go_sem] theorem flat_bool {n : Nat} {b : Bool} : flat n (.bool b) = true := by cases n <;> rfl
@[go_sem] theorem opFlat_tmp {i : Nat} : opFlat (.tmp i) = true := rfl
@[go_sem] theorem opFlat_func {i : Nat} : opFlat (.func i) = true := rfl
@[go_sem] theorem opFlat_int {k : IntKind} {i : Int} : opFlat (.const (.int k i)) = true := rfl
@[go_sem] theorem opFlat_bool {b : Bool} : opFlat (.const (.bool b)) = true := rfl
@[go_sem] theorem opFlat_nilptr : opFlat (.const (.pointer none)) = true := rfl
@[go_sem] theorem opFlat_nilslice {n c : Nat} : opFlat (.const (.slice none n c)) = true := rfl
@[go_sem] theorem opFlat_str {s : ByteArray} : opFlat (.const (.string s)) = true := rfl
@[go_sem] theorem opFlat_nilmap : opFlat (.const (.map none)) = true := rfl
@[go_sem] theorem opFlat_nilfunc : opFlat (.const .nilFunc) = true := rfl
@[go_sem] theorem opFlat_niliface : opFlat (.const .nilIface) = true := rfl
@[go_sem] theorem opFlat_agg {l : Array Value} : opFlat (.const (.agg l)) = l.toList.all (flat 3) := rfl
@[go_sem] theorem wantedA_none {ops : List Oper} {m : Tm} {d : Option Tmp} {op : Op} {t : TypeId} {pos : String} {af : Array Edge} : wantedA ops m ⟨d, op, t, pos, af, none⟩ = true := rfl
def guardQ (v : Option Value) (want : Bool) : Bool := match v with
 | some (.bool b) => b == want
 | _ => false
def slotOf (ops : List Oper) (j : Nat) : Option Nat := match ops[j]? with
 | some o => o.dst
 | none => none
@[go_sem] theorem wantedA_some {ops : List Oper} {m : Tm} {d : Option Tmp} {op : Op} {t : TypeId} {pos : String} {af : Array Edge} {j : Nat} {want : Bool} :
  wantedA ops m ⟨d, op, t, pos, af, some (j, want)⟩ = guardQ ((slotOf ops j).map m.get) want := by
 simp only [wantedA, yieldedA, guardQ, slotOf]
 cases ops[j]? with
 | none => rfl
 | some o =>
  simp only
  cases o.dst with
  | none => rfl
  | some d => simp only [Option.map_some]; cases m.get d <;> rfl
@[go_sem] theorem guardQ_true {b : Bool} : guardQ (some (.bool b)) true = b := by cases b <;> rfl
@[go_sem] theorem guardQ_false {b : Bool} : guardQ (some (.bool b)) false = !b := by cases b <;> rfl
@[go_sem] theorem slotOf_zero {o : Oper} {l : List Oper} : slotOf (o :: l) 0 = o.dst := rfl
@[go_sem] theorem slotOf_succ {o : Oper} {l : List Oper} {j : Nat} : slotOf (o :: l) (j + 1) = slotOf l j := by simp [slotOf]
theorem EvG_dec {z : Zx} {o : Oper} {ops r : List Oper} {K : List KF} {m : Tm} {h : PT ABlk} {n : Nat} {p : Prop} [Decidable p] (h1 : p → EvG z true o ops r K m h n) (h2 : ¬ p → EvG z false o ops r K m h n) : EvG z (decide p) o ops r K m h n := by
 by_cases hp : p
 ·simpa [hp] using h1 hp
 ·simpa [hp] using h2 hp
theorem EvH_dec {z : Zx} {L : List (Nat × Nat)} {o : Oper} {ops r : List Oper} {K : List KF} {m : Tm} {h : PT ABlk} {n : Nat} {fs : List Foot} {p : Prop} [Decidable p] (h1 : p → EvH z L true o ops r K m h n fs) (h2 : ¬ p → EvH z L false o ops r K m h n fs) : EvH z L (decide p) o ops r K m h n fs := by
 by_cases hp : p
 ·simpa [hp] using h1 hp
 ·simpa [hp] using h2 hp
theorem readCells_row (L : List Value) : ∀ (k off : Nat), readCells (PT.ofList .leaf 0 L) off k = cond (Nat.ble (off + k) L.length || Nat.beq k 0) (some ((L.drop off).take k)) none
 | 0, off => by simp [readCells]
 | k + 1, off => by
  rw [readCells, PT.get_ofList_leaf, show Nat.succ off = off + 1 from rfl, readCells_row L k (off + 1)]
  by_cases h1 : off < L.length
  ·rw [List.getElem?_eq_getElem h1]
   simp only
   by_cases h2 : off + (k + 1) ≤ L.length
   ·rw [ble_true h2, ble_true (show off + 1 + k ≤ L.length by omega)]
    simp only [Bool.true_or, cond_true]
    rw [List.drop_eq_getElem_cons h1, List.take_succ_cons]
   ·rw [ble_false (show L.length < off + (k + 1) by omega), ble_false (show L.length < off + 1 + k by omega)]
    have : Nat.beq k 0 = false := beq_ne (by omega)
    simp [this, show Nat.beq (k + 1) 0 = false from rfl]
  ·rw [List.getElem?_eq_none (by omega), ble_false (show L.length < off + (k + 1) by omega)]
   simp [show Nat.beq (k + 1) 0 = false from rfl]
def putL : List Value → Nat → List Value → List Value
 | L, _, [] => L
 | L, off, v :: vs => putL (L.set off v) (off + 1) vs
theorem putL_length : ∀ (vs L : List Value) (off : Nat), (putL L off vs).length = L.length
 | [], L, off => rfl
 | v :: vs, L, off => by rw [putL, putL_length vs]; simp
theorem writeCells_row : ∀ (vs L : List Value) (off : Nat), writeCells (PT.ofList .leaf 0 L) off vs = cond ((Nat.ble (off + vs.length) L.length || vs.isEmpty) && vs.all oneCell) (some (PT.ofList .leaf 0 (putL L off vs))) none
 | [], L, off => by simp [writeCells, putL]
 | v :: vs, L, off => by
  rw [writeCells, PT.get_ofList_leaf]
  by_cases h1 : off < L.length
  ·rw [List.getElem?_eq_getElem h1]
   simp only
   cases hv : oneCell v with
   | false => simp [hv]
   | true =>
    simp only [cond_true, List.all_cons, hv, Bool.true_and, List.isEmpty_cons, Bool.or_false, List.length_cons]
    rw [row_set _ _ _ h1, show Nat.succ off = off + 1 from rfl, writeCells_row vs (L.set off v) (off + 1)]
    simp only [List.length_set]
    by_cases h2 : off + (vs.length + 1) ≤ L.length
    ·rw [ble_true h2, ble_true (show off + 1 + vs.length ≤ L.length by omega)]; rfl
    ·rw [ble_false (show L.length < off + (vs.length + 1) by omega), ble_false (show L.length < off + 1 + vs.length by omega)]
     cases vs with
     | nil => simp at h2; omega
     | cons x xs => rfl
  ·rw [List.getElem?_eq_none (by omega)]
   have : Nat.ble (off + (v :: vs).length) L.length = false := ble_false (by simp; omega)
   rw [this]; rfl
@[go_sem] theorem putL_nil {L : List Value} {off : Nat} : putL L off [] = L := rfl
@[go_sem] theorem putL_one {L : List Value} {off : Nat} {v : Value} : putL L off [v] = L.set off v := rfl
@[go_sem] theorem putL_cons {L vs : List Value} {off : Nat} {v : Value} : putL L off (v :: vs) = putL (L.set off v) (off + 1) vs := rfl
def szT (P : Program) (t : TypeId) : Option Nat := (P.info? t).map (·.size)
def agT (P : Program) (t : TypeId) : Option Bool := (P.underlying t).map isAgg
def zcT (P : Program) (t : TypeId) : Option (List Value) := (zeroOf P t).map (·.cells.toList)
def faT (P : Program) (s : TypeId) (f : Nat) : Option (Nat × Nat) :=
 match P.underlying s with
 | some (.struct fs) => match fs.toList[f]? with
  | some fd => (P.info? fd.type).map fun i => (fd.offset, i.size)
  | none => none
 | _ => none
def fdT (P : Program) (s : TypeId) (f : Nat) : Option (Nat × Nat × Bool) :=
 match P.underlying s with
 | some (.struct fs) => match fs.toList[f]? with
  | some fd => match P.info? fd.type, P.underlying fd.type with
   | some i, some d => some (fd.offset, i.size, isAgg d)
   | _, _ => none
  | none => none
 | _ => none
def iaT (P : Program) (t : TypeId) : Option (Option Nat × Nat) :=
 match P.underlying t with
 | some (.array n e) => (P.info? e).map fun i => (some n, i.size)
 | some (.slice e) => (P.info? e).map fun i => (none, i.size)
 | _ => none
section ops
variable {P : Program} {ρ : Operand → Value} {d : Option Tmp} {ty : TypeId} {pos : String} {af : Array Edge} {g : Option (Nat × Bool)}
@[go_sem] theorem operands_alloc {e : TypeId} : (Op.alloc e).operands = #[] := rfl
@[go_sem] theorem operands_move {x : Operand} : (Op.move x).operands = #[x] := rfl
@[go_sem] theorem operands_assign {x : Operand} : (Op.assign x).operands = #[x] := rfl
@[go_sem] theorem operands_box {t : TypeId} {x : Operand} : (Op.box t x).operands = #[x] := rfl
@[go_sem] theorem operands_load {t : TypeId} {x : Operand} : (Op.load t x).operands = #[x] := rfl
@[go_sem] theorem operands_nilCheck {x : Operand} : (Op.nilCheck x).operands = #[x] := rfl
@[go_sem] theorem operands_unOp {o : UnOp} {t : TypeId} {x : Operand} : (Op.unOp o t x).operands = #[x] := rfl
@[go_sem] theorem operands_convert {s t : TypeId} {x : Operand} : (Op.convert s t x).operands = #[x] := rfl
@[go_sem] theorem operands_makeInterface {t : TypeId} {x : Operand} : (Op.makeInterface t x).operands = #[x] := rfl
@[go_sem] theorem operands_fieldAddr {t : TypeId} {x : Operand} {f : Nat} : (Op.fieldAddr t x f).operands = #[x] := rfl
@[go_sem] theorem operands_field {t : TypeId} {x : Operand} {f : Nat} : (Op.field t x f).operands = #[x] := rfl
@[go_sem] theorem operands_range {t : TypeId} {x : Operand} : (Op.range t x).operands = #[x] := rfl
@[go_sem] theorem operands_next {b : Bool} {x : Operand} : (Op.next x b).operands = #[x] := rfl
@[go_sem] theorem operands_entry {x : Operand} : (Op.entry x).operands = #[x] := rfl
@[go_sem] theorem operands_extract {x : Operand} {i : Nat} : (Op.extract x i).operands = #[x] := rfl
@[go_sem] theorem operands_pick {a b c : Operand} : (Op.pick a b c).operands = #[a, b, c] := rfl
@[go_sem] theorem operands_build {t : TypeId} {ps : Array (Nat × Operand)} : (Op.build t ps).operands = (ps.toList.map (·.2)).toArray := rfl
@[go_sem] theorem operands_buildSlice {t : TypeId} {n : Nat} {ps : Array (Nat × Operand)} : (Op.buildSlice t n ps).operands = (ps.toList.map (·.2)).toArray := rfl
@[go_sem] theorem operands_store {t : TypeId} {a v : Operand} : (Op.store t a v).operands = #[a, v] := rfl
@[go_sem] theorem operands_binOp {o : BinOp} {t : TypeId} {a v : Operand} {t' : TypeId} : (Op.binOp o t a v t').operands = #[a, v] := rfl
@[go_sem] theorem operands_makeSlice {t : TypeId} {a v : Operand} : (Op.makeSlice t a v).operands = #[a, v] := rfl
@[go_sem] theorem operands_indexAddr {t : TypeId} {a v : Operand} : (Op.indexAddr t a v).operands = #[a, v] := rfl
@[go_sem] theorem operands_index {t : TypeId} {a v : Operand} : (Op.index t a v).operands = #[a, v] := rfl
@[go_sem] theorem operands_lookup {t : TypeId} {a v : Operand} {b : Bool} : (Op.lookup t a v b).operands = #[a, v] := rfl
@[go_sem] theorem operands_makeFunc {f : Fn} {a v : Array Operand} : (Op.makeFunc f a v).operands = a ++ v := rfl
@[go_sem] theorem operands_makeMap {t : TypeId} {r : Option Operand} : (Op.makeMap t r).operands = r.toArray := rfl
@[go_sem] theorem operands_slice {t : TypeId} {x : Operand} {l h m : Option Operand} : (Op.slice t x l h m).operands = #[x] ++ l.toArray ++ h.toArray ++ m.toArray := rfl
@[go_sem] theorem operands_mapUpdate {t : TypeId} {a b c : Operand} : (Op.mapUpdate t a b c).operands = #[a, b, c] := rfl
@[go_sem] theorem operands_insert {t : TypeId} {a b c : Operand} : (Op.insert t a b c).operands = #[a, b, c] := rfl
@[go_sem] theorem operands_call {f : Operand} {as : Array Operand} {ts : Array TypeId} : (Op.call ⟨.value f, as, ts⟩).operands = (⟨.value f, as, ts⟩ : Call).operands := rfl
@[go_sem] theorem operands_builtin {b : Builtin} {as : Array Operand} {ts : Array TypeId} : (Op.call ⟨.builtin b, as, ts⟩).operands = (⟨.builtin b, as, ts⟩ : Call).operands := rfl
@[go_sem] theorem aOp_move {x : Operand} : aOp P ρ ⟨d, .move x, ty, pos, af, g⟩ = .pure (.value (ρ x)) := rfl
@[go_sem] theorem aOp_assign {x : Operand} : aOp P ρ ⟨d, .assign x, ty, pos, af, g⟩ = .pure (.value (ρ x)) := rfl
def pickQ (c a b : Value) : AP ANext := match c with
 | .bool t => .pure (.value (cond t a b))
 | _ => .fail "pick"
@[go_sem] theorem aOp_pick {c a b : Operand} : aOp P ρ ⟨d, .pick c a b, ty, pos, af, g⟩ = pickQ (ρ c) (ρ a) (ρ b) := rfl
@[go_sem] theorem pickQ_bool {t : Bool} {a b : Value} : pickQ (.bool t) a b = .pure (.value (cond t a b)) := rfl
def valQ (w : String) (o : Option Value) : AP ANext := match o with
 | some v => .pure (.value v)
 | none => .fail w
@[go_sem] theorem valQ_some {w : String} {v : Value} : valQ w (some v) = .pure (.value v) := rfl
@[go_sem] theorem bind_pure {α β : Type} {a : α} {f : α → AP β} : (AP.pure a).bind f = f a := rfl
@[go_sem] theorem bind_get {α β : Type} {id : Nat} {k : ABlk → AP α} {f : α → AP β} : (AP.get id k).bind f = .get id fun b => (k b).bind f := rfl
@[go_sem] theorem bind_set {α β : Type} {id : Nat} {b : ABlk} {k : AP α} {f : α → AP β} : (AP.set id b k).bind f = .set id b (k.bind f) := rfl
@[go_sem] theorem bind_kill {α β : Type} {id : Nat} {k : AP α} {f : α → AP β} : (AP.kill id k).bind f = .kill id (k.bind f) := rfl
@[go_sem] theorem bind_new {α β : Type} {b : ABlk} {k : Nat → AP α} {f : α → AP β} : (AP.new b k).bind f = .new b fun i => (k i).bind f := rfl
def ld1 (off : Nat) : ABlk → AP ANext
 | .cells c _ => valQ "load" (c.get off)
 | _ => .fail "load"
def ldN (off s : Nat) : ABlk → AP ANext
 | .cells c _ => valQ "load" ((readCells c off s).map fun l => .agg ⟨l⟩)
 | _ => .fail "load"
def loadQ (g : Option Bool) (s : Option Nat) (x : Value) : AP ANext := match x, s, g with
 | .pointer (some a), some s, some g => .get a.block (cond g (ldN a.off s) (ld1 a.off))
 | _, _, _ => .fail "load"
@[go_sem] theorem aOp_load {t : TypeId} {a : Operand} : aOp P ρ ⟨d, .load t a, ty, pos, af, g⟩ = loadQ (agT P t) (szT P t) (ρ a) := by
 show (aLoad P t (ρ a)).bind _ = _
 unfold aLoad loadQ agT szT
 generalize ρ a = x
 cases x with
 | pointer p =>
  cases p with
  | none => rfl
  | some a =>
   cases P.info? t with
   | none => rfl
   | some i =>
    cases P.underlying t with
    | none => rfl
    | some u =>
     simp only [Option.map_some, AP.bind]
     congr 1
     funext b
     cases isAgg u <;> cases b <;> simp only [cond_true, cond_false, ld1, ldN] <;> first | rfl | skip
     ·rename_i c ro
      cases c.get a.off <;> rfl
     ·rename_i c ro
      cases readCells c a.off i.size <;> rfl
 | _ => rfl
@[go_sem] theorem loadQ_1 {s b off : Nat} {sp : Option Nat} : loadQ (some false) (some s) (.pointer (some ⟨b, off, sp⟩)) = .get b (ld1 off) := rfl
@[go_sem] theorem loadQ_N {s b off : Nat} {sp : Option Nat} : loadQ (some true) (some s) (.pointer (some ⟨b, off, sp⟩)) = .get b (ldN off s) := rfl
@[go_sem] theorem ld1_row {L : List Value} {ro : Bool} {off : Nat} : ld1 off (.cells (PT.ofList .leaf 0 L) ro) = valQ "load" L[off]? := by simp [ld1, PT.get_ofList_leaf]
@[go_sem] theorem ldN_row {L : List Value} {ro : Bool} {off s : Nat} : ldN off s (.cells (PT.ofList .leaf 0 L) ro) = cond (Nat.ble (off + s) L.length || Nat.beq s 0) (.pure (.value (.agg ⟨(L.drop off).take s⟩))) (.fail "load") := by
 simp only [ldN, readCells_row]
 cases (Nat.ble (off + s) L.length || Nat.beq s 0) <;> rfl
def stB (b off : Nat) (vs : List Value) : ABlk → AP ANext
 | .cells c false => match writeCells c off vs with
  | some c' => .set b (.cells c' false) (.pure .skip)
  | none => .fail "store"
 | _ => .fail "store"
def storeQ (s : Option Nat) (x : Value) (vs : List Value) : AP ANext := match x, s with
 | .pointer (some a), some s => cond (Nat.beq vs.length s) (.get a.block (stB a.block a.off vs)) (.fail "store")
 | _, _ => .fail "store"
@[go_sem] theorem aOp_store {t : TypeId} {a x : Operand} : aOp P ρ ⟨d, .store t a x, ty, pos, af, g⟩ = storeQ (szT P t) (ρ a) (ρ x).cells.toList := by
 show (aStore P t (ρ a) (ρ x)).bind _ = _
 unfold aStore storeQ szT
 generalize ρ a = y
 cases y with
 | pointer p =>
  cases p with
  | none => rfl
  | some a =>
   cases P.info? t with
   | none => rfl
   | some i =>
    simp only [Option.map_some]
    cases Nat.beq (ρ x).cells.toList.length i.size with
    | false => rfl
    | true =>
     simp only [cond_true, AP.bind]
     congr 1
     funext b
     cases b with
     | cells c ro => cases ro with
      | true => rfl
      | false => simp only [stB]; cases writeCells c a.off (ρ x).cells.toList <;> rfl
     | _ => rfl
 | _ => rfl
@[go_sem] theorem storeQ_ptr {s b off : Nat} {sp : Option Nat} {vs : List Value} : storeQ (some s) (.pointer (some ⟨b, off, sp⟩)) vs = cond (Nat.beq vs.length s) (.get b (stB b off vs)) (.fail "store") := rfl
@[go_sem] theorem stB_row {L vs : List Value} {b off : Nat} : stB b off vs (.cells (PT.ofList .leaf 0 L) false) = cond ((Nat.ble (off + vs.length) L.length || vs.isEmpty) && vs.all oneCell) (.set b (.cells (PT.ofList .leaf 0 (putL L off vs)) false) (.pure .skip)) (.fail "store") := by
 simp only [stB, writeCells_row]
 cases ((Nat.ble (off + vs.length) L.length || vs.isEmpty) && vs.all oneCell) <;> rfl
@[go_sem] theorem cells_int {k : IntKind} {n : Int} : (Value.int k n).cells = #[.int k n] := rfl
@[go_sem] theorem cells_bool {b : Bool} : (Value.bool b).cells = #[.bool b] := rfl
@[go_sem] theorem cells_ptr {a : Option Addr} : (Value.pointer a).cells = #[.pointer a] := rfl
@[go_sem] theorem cells_slice {a : Option Addr} {n c : Nat} : (Value.slice a n c).cells = #[.slice a n c] := rfl
@[go_sem] theorem cells_map {a : Option Nat} : (Value.map a).cells = #[.map a] := rfl
@[go_sem] theorem cells_string {s : ByteArray} : (Value.string s).cells = #[.string s] := rfl
@[go_sem] theorem cells_func {f : Fn} {x y : Array Value} : (Value.func f x y).cells = #[.func f x y] := rfl
@[go_sem] theorem cells_nilFunc : Value.nilFunc.cells = #[.nilFunc] := rfl
@[go_sem] theorem cells_iface {t : TypeId} {v : Value} : (Value.iface t v).cells = #[.iface t v] := rfl
@[go_sem] theorem cells_nilIface : Value.nilIface.cells = #[.nilIface] := rfl
@[go_sem] theorem cells_agg {l : Array Value} : (Value.agg l).cells = l := rfl
@[go_sem] theorem one_int {k : IntKind} {n : Int} : oneCell (Value.int k n) = true := rfl
@[go_sem] theorem one_bool {b : Bool} : oneCell (Value.bool b) = true := rfl
@[go_sem] theorem one_ptr {a : Option Addr} : oneCell (Value.pointer a) = true := rfl
@[go_sem] theorem one_slice {a : Option Addr} {n c : Nat} : oneCell (Value.slice a n c) = true := rfl
@[go_sem] theorem one_map {a : Option Nat} : oneCell (Value.map a) = true := rfl
@[go_sem] theorem one_string {s : ByteArray} : oneCell (Value.string s) = true := rfl
@[go_sem] theorem one_func {f : Fn} {x y : Array Value} : oneCell (Value.func f x y) = true := rfl
@[go_sem] theorem one_nilFunc : oneCell Value.nilFunc = true := rfl
@[go_sem] theorem one_iface {t : TypeId} {v : Value} : oneCell (Value.iface t v) = true := rfl
@[go_sem] theorem one_nilIface : oneCell Value.nilIface = true := rfl
@[go_sem] theorem aOp_box {t : TypeId} {x : Operand} : aOp P ρ ⟨d, .box t x, ty, pos, af, g⟩ = .new (.cells (PT.ofList .leaf 0 (ρ x).cells.toList) false) fun id => .pure (.value (.pointer (some ⟨id, 0, none⟩))) := rfl
def allocQ (z : Option (List Value)) : AP ANext := match z with
 | some l => .new (.cells (PT.ofList .leaf 0 l) false) fun id => .pure (.value (.pointer (some ⟨id, 0, none⟩)))
 | none => .fail "alloc"
@[go_sem] theorem aOp_alloc {t : TypeId} : aOp P ρ ⟨d, .alloc t, ty, pos, af, g⟩ = allocQ (zcT P t) := by
 show (aAlloc P t).bind _ = _
 unfold aAlloc zcT
 cases zeroOf P t <;> rfl
@[go_sem] theorem allocQ_some {l : List Value} : allocQ (some l) = .new (.cells (PT.ofList .leaf 0 l) false) fun id => .pure (.value (.pointer (some ⟨id, 0, none⟩))) := rfl
def faQ (f : Option (Nat × Nat)) (x : Value) : AP ANext := match x, f with
 | .pointer (some a), some (o, s) => cond (Nat.beq s 0) (.fail "fieldAddr") (.pure (.value (.pointer (some (aAdd a o)))))
 | _, _ => .fail "fieldAddr"
@[go_sem] theorem aOp_fieldAddr {t : TypeId} {x : Operand} {f : Nat} : aOp P ρ ⟨d, .fieldAddr t x f, ty, pos, af, g⟩ = faQ (faT P t f) (ρ x) := by
 show (aFieldAddr P t (ρ x) f).bind _ = _
 unfold aFieldAddr faQ faT
 generalize ρ x = y
 cases y with
 | pointer p =>
  cases p with
  | none => rfl
  | some a =>
   cases P.underlying t with
   | none => rfl
   | some u =>
    cases u with
    | struct fs =>
     simp only
     cases fs.toList[f]? with
     | none => rfl
     | some fd =>
      simp only
      cases P.info? fd.type with
      | none => rfl
      | some i => simp only [Option.map_some]; cases Nat.beq i.size 0 <;> rfl
    | _ => rfl
 | _ => rfl
@[go_sem] theorem faQ_ptr {b off : Nat} {sp : Option Nat} {o s : Nat} : faQ (some (o, s)) (.pointer (some ⟨b, off, sp⟩)) = cond (Nat.beq s 0) (.fail "fieldAddr") (.pure (.value (.pointer (some ⟨b, off + o, none⟩)))) := rfl
def partL (cs : List Value) (off s : Nat) (agg : Bool) : Option Value := cond agg (some (.agg ⟨(cs.drop off).take s⟩)) cs[off]?
@[go_sem] theorem partL_true {cs : List Value} {off s : Nat} : partL cs off s true = some (.agg ⟨(cs.drop off).take s⟩) := rfl
@[go_sem] theorem partL_false {cs : List Value} {off s : Nat} : partL cs off s false = cs[off]? := rfl
def fdQ (f : Option (Nat × Nat × Bool)) (x : Value) : AP ANext := match x, f with
 | .agg cs, some (o, s, g) => valQ "field" (partL cs.toList o s g)
 | _, _ => .fail "field"
theorem aPart_eq {t : TypeId} {cs : List Value} {off : Nat} : aPart P t cs off = match P.info? t, P.underlying t with | some i, some u => partL cs off i.size (isAgg u) | _, _ => none := by
 unfold aPart
 cases P.info? t with
 | none => rfl
 | some i => cases P.underlying t with
  | none => rfl
  | some u => simp only [partL]
@[go_sem] theorem aOp_field {t : TypeId} {x : Operand} {f : Nat} : aOp P ρ ⟨d, .field t x f, ty, pos, af, g⟩ = fdQ (fdT P t f) (ρ x) := by
 show (aField P t (ρ x) f).bind _ = _
 unfold aField fdQ fdT
 generalize ρ x = y
 cases y with
 | agg cs =>
  cases P.underlying t with
  | none => rfl
  | some u =>
   cases u with
   | struct fs =>
    simp only
    cases fs.toList[f]? with
    | none => rfl
    | some fd =>
     simp only [aPart_eq]
     cases P.info? fd.type with
     | none => rfl
     | some i =>
      cases P.underlying fd.type with
      | none => rfl
      | some u =>
       simp only [AP.opt]
       cases partL cs.toList fd.offset i.size (isAgg u) <;> rfl
   | _ => rfl
 | _ => rfl
@[go_sem] theorem fdQ_agg {cs : Array Value} {o s : Nat} {b : Bool} : fdQ (some (o, s, b)) (.agg cs) = valQ "field" (partL cs.toList o s b) := rfl
def iaQ (k : Option (Option Nat × Nat)) (x : Value) (i : Option Nat) : AP ANext := match k, x, i with
 | some (some len, s), .pointer (some a), some n => cond (Nat.blt n len) (.pure (.value (.pointer (some (aAdd a (n * s)))))) (.fail "indexAddr")
 | some (none, s), .slice (some a) len _, some n => cond (Nat.blt n len) (.pure (.value (.pointer (some (aAdd a (n * s)))))) (.fail "indexAddr")
 | _, _, _ => .fail "indexAddr"
@[go_sem] theorem aOp_indexAddr {t : TypeId} {x i : Operand} : aOp P ρ ⟨d, .indexAddr t x i, ty, pos, af, g⟩ = iaQ (iaT P t) (ρ x) (asNat (ρ i)) := by
 show (aIndexAddr P t (ρ x) (ρ i)).bind _ = _
 unfold aIndexAddr iaQ iaT
 generalize ρ x = y
 generalize asNat (ρ i) = j
 cases hu : P.underlying t with
 | none => rfl
 | some u =>
  cases u with
  | array len e =>
   cases y with
   | pointer p => cases p with
    | none => cases j <;> dsimp only <;> cases P.info? e <;> rfl
    | some a => cases j with
     | none => dsimp only; cases P.info? e <;> rfl
     | some n =>
      dsimp only
      cases P.info? e with
      | none => rfl
      | some i => simp only [Option.map_some]; cases Nat.blt n len <;> rfl
   | _ => dsimp only; cases P.info? e <;> rfl
  | slice e =>
   cases y with
   | slice p len c => cases p with
    | none => cases j <;> dsimp only <;> cases P.info? e <;> rfl
    | some a => cases j with
     | none => dsimp only; cases P.info? e <;> rfl
     | some n =>
      dsimp only
      cases P.info? e with
      | none => rfl
      | some i => simp only [Option.map_some]; cases Nat.blt n len <;> rfl
   | _ => dsimp only; cases P.info? e <;> rfl
  | _ => rfl
@[go_sem] theorem iaQ_arr {len s b off n : Nat} {sp : Option Nat} : iaQ (some (some len, s)) (.pointer (some ⟨b, off, sp⟩)) (some n) = cond (Nat.blt n len) (.pure (.value (.pointer (some ⟨b, off + n * s, none⟩)))) (.fail "indexAddr") := rfl
@[go_sem] theorem iaQ_slice {len c s b off n : Nat} {sp : Option Nat} : iaQ (some (none, s)) (.slice (some ⟨b, off, sp⟩) len c) (some n) = cond (Nat.blt n len) (.pure (.value (.pointer (some ⟨b, off + n * s, none⟩)))) (.fail "indexAddr") := rfl
def ixQ (k : Option (Nat × Nat × Bool)) (x : Value) (i : Option Nat) : AP ANext := match k, x, i with
 | some (len, s, b), .agg cs, some n => cond (Nat.blt n len) (valQ "index" (partL cs.toList (n * s) s b)) (.fail "index")
 | none, .string s, some n => valQ "index" (s.data.toList[n]?.map fun b => .int .u8 b.toNat)
 | _, _, _ => .fail "index"
def ixT (P : Program) (t : TypeId) : Option (Nat × Nat × Bool) :=
 match P.underlying t with
 | some (.array n e) => match P.info? e, P.underlying e with
  | some i, some u => some (n, i.size, isAgg u)
  | _, _ => none
 | _ => none
theorem aOp_index' {t : TypeId} {x i : Operand} {cs : Array Value} (hx : ρ x = .agg cs) : aOp P ρ ⟨d, .index t x i, ty, pos, af, g⟩ = ixQ (ixT P t) (.agg cs) (asNat (ρ i)) := by
 show (aIndex P t (ρ x) (ρ i)).bind _ = _
 rw [hx]
 unfold aIndex ixQ ixT
 generalize asNat (ρ i) = j
 cases hu : P.underlying t with
 | none => rfl
 | some u =>
  cases u with
  | array len e =>
   cases j with
   | none => simp only; cases P.info? e with
    | none => rfl
    | some i => cases P.underlying e <;> rfl
   | some n =>
    simp only [aPart_eq]
    cases P.info? e with
    | none => rfl
    | some i =>
     simp only
     cases P.underlying e with
     | none => cases Nat.blt n len <;> rfl
     | some u => simp only; cases Nat.blt n len with
      | false => rfl
      | true => simp only [cond_true]; cases partL cs.toList (n * i.size) i.size (isAgg u) <;> rfl
  | string => cases j <;> rfl
  | _ => rfl
def indexV (P : Program) (t : TypeId) (x i : Value) : AP ANext := (aIndex P t x i).bind fun v => .pure (.value v)
@[go_sem] theorem aOp_index {t : TypeId} {x i : Operand} : aOp P ρ ⟨d, .index t x i, ty, pos, af, g⟩ = indexV P t (ρ x) (ρ i) := rfl
@[go_sem] theorem indexV_agg {t : TypeId} {i : Value} {cs : Array Value} : indexV P t (.agg cs) i = ixQ (ixT P t) (.agg cs) (asNat i) :=
 aOp_index' (ρ := fun o => match o with | .tmp 0 => .agg cs | _ => i) (x := .tmp 0) (i := .tmp 1) (d := none) (ty := 0) (pos := "") (af := #[]) (g := none) rfl
@[go_sem] theorem ixQ_agg {len s n : Nat} {b : Bool} {cs : Array Value} : ixQ (some (len, s, b)) (.agg cs) (some n) = cond (Nat.blt n len) (valQ "index" (partL cs.toList (n * s) s b)) (.fail "index") := rfl
def binV (P : Program) (o : BinOp) (t : TypeId) (cx cy : Bool) (x y : Value) : AP ANext := (aBinOp P o t cx cy x y).bind fun v => .pure (.value v)
@[go_sem] theorem aOp_binOp {o : BinOp} {t t' : TypeId} {x y : Operand} : aOp P ρ ⟨d, .binOp o t x y t', ty, pos, af, g⟩ = binV P o t (isConst x) (isConst y) (ρ x) (ρ y) := rfl
section
variable {t : TypeId} {cx cy : Bool} {k k' : IntKind} {a b : Int}
@[go_sem] theorem binV_add : binV P .add t cx cy (.int k a) (.int k b) = .pure (.value (.int k (k.wrap (a + b)))) := by show AP.bind (ite (k = k) _ _) _ = _; rw [if_pos rfl]; rfl
@[go_sem] theorem binV_sub : binV P .sub t cx cy (.int k a) (.int k b) = .pure (.value (.int k (k.wrap (a - b)))) := by show AP.bind (ite (k = k) _ _) _ = _; rw [if_pos rfl]; rfl
@[go_sem] theorem binV_mul : binV P .mul t cx cy (.int k a) (.int k b) = .pure (.value (.int k (k.wrap (a * b)))) := by show AP.bind (ite (k = k) _ _) _ = _; rw [if_pos rfl]; rfl
@[go_sem] theorem binV_quo : binV P .quo t cx cy (.int k a) (.int k b) = cond (decide (b = 0)) (.fail "intOp") (.pure (.value (.int k (k.wrap (a.tdiv b))))) := by
 show AP.bind (ite (k = k) _ _) _ = _
 rw [if_pos rfl]
 by_cases h : b = 0 <;> simp [intOp, h, AP.opt, AP.bind]
@[go_sem] theorem binV_rem : binV P .rem t cx cy (.int k a) (.int k b) = cond (decide (b = 0)) (.fail "intOp") (.pure (.value (.int k (a.tmod b)))) := by
 show AP.bind (ite (k = k) _ _) _ = _
 rw [if_pos rfl]
 by_cases h : b = 0 <;> simp [intOp, h, AP.opt, AP.bind]
@[go_sem] theorem binV_and : binV P .and t cx cy (.int k a) (.int k b) = .pure (.value (.int k (k.wrap (BitVec.ofInt k.bits a &&& BitVec.ofInt k.bits b).toNat))) := by show AP.bind (ite (k = k) _ _) _ = _; rw [if_pos rfl]; rfl
@[go_sem] theorem binV_or : binV P .or t cx cy (.int k a) (.int k b) = .pure (.value (.int k (k.wrap (BitVec.ofInt k.bits a ||| BitVec.ofInt k.bits b).toNat))) := by show AP.bind (ite (k = k) _ _) _ = _; rw [if_pos rfl]; rfl
@[go_sem] theorem binV_eql : binV P .eql t cx cy (.int k a) (.int k b) = .pure (.value (.bool (decide (a = b)))) := by show AP.bind (ite (k = k) _ _) _ = _; rw [if_pos rfl]; rfl
@[go_sem] theorem binV_neq : binV P .neq t cx cy (.int k a) (.int k b) = .pure (.value (.bool (decide (a ≠ b)))) := by show AP.bind (ite (k = k) _ _) _ = _; rw [if_pos rfl]; exact congrArg (fun z => AP.pure (ANext.value (Value.bool z))) (by by_cases h : a = b <;> simp [h])
@[go_sem] theorem binV_lss : binV P .lss t cx cy (.int k a) (.int k b) = .pure (.value (.bool (decide (a < b)))) := by show AP.bind (ite (k = k) _ _) _ = _; rw [if_pos rfl]; rfl
@[go_sem] theorem binV_leq : binV P .leq t cx cy (.int k a) (.int k b) = .pure (.value (.bool (decide (a ≤ b)))) := by show AP.bind (ite (k = k) _ _) _ = _; rw [if_pos rfl]; rfl
@[go_sem] theorem binV_gtr : binV P .gtr t cx cy (.int k a) (.int k b) = .pure (.value (.bool (decide (b < a)))) := by show AP.bind (ite (k = k) _ _) _ = _; rw [if_pos rfl]; rfl
@[go_sem] theorem binV_geq : binV P .geq t cx cy (.int k a) (.int k b) = .pure (.value (.bool (decide (b ≤ a)))) := by show AP.bind (ite (k = k) _ _) _ = _; rw [if_pos rfl]; rfl
@[go_sem] theorem binV_shl : binV P .shl t cx cy (.int k a) (.int k' b) = cond (decide (b < 0)) (.fail "shl") (.pure (.value (.int k (k.wrap (a * 2 ^ min b.toNat k.bits))))) := by
 by_cases h : b < 0 <;> simp [binV, aBinOp, shiftOp, AP.opt, h, AP.bind]
@[go_sem] theorem binV_shr : binV P .shr t cx cy (.int k a) (.int k' b) = cond (decide (b < 0)) (.fail "shr") (.pure (.value (.int k (a.fdiv (2 ^ min b.toNat k.bits))))) := by
 by_cases h : b < 0 <;> simp [binV, aBinOp, shiftOp, AP.opt, h, AP.bind]
def nilQ (u : Option TypeDesc) (neg : Bool) (x : Option Addr) : AP ANext := match u with
 | some (.pointer _) => .pure (.value (.bool (x.isNone ^^ neg)))
 | _ => .fail "equal"
theorem aEqual_nil {D : Nat} {x : Option Addr} : aEqual P (D + 1) t (.pointer x) (.pointer none) = match P.underlying t with | some (.pointer _) => .pure x.isNone | _ => .fail "equal" := by
 unfold aEqual
 cases P.underlying t with
 | none => cases x <;> rfl
 | some u => cases u <;> cases x <;> rfl
@[go_sem] theorem binV_eq_nil {x : Option Addr} : binV P .eql t cx cy (.pointer x) (.pointer none) = nilQ (P.underlying t) false x := by
 have : binV P .eql t cx cy (.pointer x) (.pointer none) = AP.bind ((aEqual P (11 + 1) t (.pointer x) (.pointer none)).bind fun b => .pure (.bool b)) fun v => .pure (.value v) := by
  simp only [binV, aBinOp, eqGuardOk, cond_true]
 rw [this, aEqual_nil]; unfold nilQ
 cases P.underlying t with
 | none => rfl
 | some u => cases u <;> first | rfl | (cases x <;> rfl)
@[go_sem] theorem binV_ne_nil {x : Option Addr} : binV P .neq t cx cy (.pointer x) (.pointer none) = nilQ (P.underlying t) true x := by
 have : binV P .neq t cx cy (.pointer x) (.pointer none) = AP.bind ((aEqual P (11 + 1) t (.pointer x) (.pointer none)).bind fun b => .pure (.bool !b)) fun v => .pure (.value v) := by
  simp only [binV, aBinOp, eqGuardOk, cond_true]
 rw [this, aEqual_nil]; unfold nilQ
 cases P.underlying t with
 | none => rfl
 | some u => cases u <;> first | rfl | (cases x <;> rfl)
@[go_sem] theorem nilQ_ptr {e : TypeId} {neg : Bool} {x : Option Addr} : nilQ (some (.pointer e)) neg x = .pure (.value (.bool (x.isNone ^^ neg))) := rfl
end
def unV (o : UnOp) (x : Value) : AP ANext := valQ "unOp" (aUnary o x)
@[go_sem] theorem aOp_unOp {o : UnOp} {t : TypeId} {x : Operand} : aOp P ρ ⟨d, .unOp o t x, ty, pos, af, g⟩ = unV o (ρ x) := by
 show (AP.opt "unOp" (aUnary o (ρ x)) AP.pure).bind _ = _
 unfold unV
 cases aUnary o (ρ x) <;> rfl
@[go_sem] theorem unV_neg {k : IntKind} {a : Int} : unV .neg (.int k a) = .pure (.value (.int k (k.wrap (0 - a)))) := rfl
@[go_sem] theorem unV_not {b : Bool} : unV .not (.bool b) = .pure (.value (.bool !b)) := rfl
def cvQ (s u : Option TypeDesc) (x : Value) : AP ANext := match s, u, x with
 | some _, some (.int k), .int _ n => .pure (.value (.int k (k.wrap n)))
 | some _, some .string, .string s => .pure (.value (.string s))
 | _, _, _ => .fail "convert"
@[go_sem] theorem aOp_convert {s t : TypeId} {x : Operand} : aOp P ρ ⟨d, .convert s t x, ty, pos, af, g⟩ = cvQ (P.underlying s) (P.underlying t) (ρ x) := by
 show (aConvert P s t (ρ x)).bind _ = _
 unfold aConvert cvQ
 generalize ρ x = y
 cases P.underlying s with
 | none => rfl
 | some a => cases P.underlying t with
  | none => rfl
  | some u => cases u <;> cases y <;> rfl
@[go_sem] theorem cvQ_int {u : TypeDesc} {k k' : IntKind} {n : Int} : cvQ (some u) (some (.int k)) (.int k' n) = .pure (.value (.int k (k.wrap n))) := rfl
def ncQ (x : Value) : AP ANext := (aNilCheck x).bind fun v => .pure (.value v)
@[go_sem] theorem aOp_nilCheck {x : Operand} : aOp P ρ ⟨d, .nilCheck x, ty, pos, af, g⟩ = ncQ (ρ x) := rfl
@[go_sem] theorem ncQ_ptr {a : Addr} : ncQ (.pointer (some a)) = .pure (.value (.pointer (some a))) := rfl
def exQ (x : Value) (i : Nat) : AP ANext := match x with
 | .tuple vs => valQ "extract" (vs.toList[i]?)
 | _ => .fail "extract"
@[go_sem] theorem aOp_extract {x : Operand} {i : Nat} : aOp P ρ ⟨d, .extract x i, ty, pos, af, g⟩ = exQ (ρ x) i := by
 show (aExtract (ρ x) i).bind _ = _
 unfold aExtract exQ
 cases ρ x <;> first | rfl | skip
 rename_i vs
 simp only [AP.opt]
 cases vs.toList[i]? <;> rfl
@[go_sem] theorem exQ_tuple {vs : Array Value} {i : Nat} : exQ (.tuple vs) i = valQ "extract" (vs.toList[i]?) := rfl
@[go_sem] theorem aOp_makeFunc {fn : Fn} {first captured : Array Operand} : aOp P ρ ⟨d, .makeFunc fn first captured, ty, pos, af, g⟩ = cond (fnPlain fn) (.pure (.value (.func fn ⟨first.toList.map ρ⟩ ⟨captured.toList.map ρ⟩))) (.fail "makeFunc") := rfl
@[go_sem] theorem fnPlain_func {f : FuncId} : fnPlain (.func f) = true := rfl
def callQ (P : Program) (f : Value) (args : List Value) : AP ANext := match f with
 | .func fn first captured => aInvoke P fn captured.toList (first.toList ++ args)
 | _ => .fail "call nil function"
@[go_sem] theorem aOp_call {f : Operand} {as : Array Operand} {ts : Array TypeId} : aOp P ρ ⟨d, .call ⟨.value f, as, ts⟩, ty, pos, af, g⟩ = callQ P (ρ f) (as.toList.map ρ) := rfl
@[go_sem] theorem callQ_func {f : FuncId} {first captured : Array Value} {args : List Value} : callQ P (.func (.func f) first captured) args = aCallFunc P f ((first.toList ++ args) ++ captured.toList) := rfl
def bltQ (P : Program) (b : Builtin) (ts : List TypeId) (args : List Value) : AP ANext := (aBuiltin P b ts args).bind fun v => .pure (.value v)
@[go_sem] theorem aOp_builtin {b : Builtin} {as : Array Operand} {ts : Array TypeId} : aOp P ρ ⟨d, .call ⟨.builtin b, as, ts⟩, ty, pos, af, g⟩ = bltQ P b ts.toList (as.toList.map ρ) := rfl
def lenV (P : Program) (u : Option TypeDesc) (x : Value) : AP ANext := (match u, x with
    | some .string, .string s => (.pure (.int .i64 s.size) : AP Value)
    | some (.array n _), _ => .pure (.int .i64 n)
    | some (.pointer arr), _ => match P.underlying arr with
     | some (.array n _) => .pure (.int .i64 n)
     | _ => .fail "len"
    | some (.slice _), .slice _ n _ => .pure (.int .i64 n)
    | some (.map _ _), x => (aMapGet x).bind fun es => .pure (.int .i64 es.length)
    | _, _ => .fail "len").bind fun v => .pure (.value v)
@[go_sem] theorem lenV_slice {e : TypeId} {a : Option Addr} {n c : Nat} : lenV P (some (.slice e)) (.slice a n c) = .pure (.value (.int .i64 n)) := rfl
@[go_sem] theorem bltQ_len {t : TypeId} {ts : List TypeId} {a : Option Addr} {n c : Nat} : bltQ P .len (t :: ts) [.slice a n c] = lenV P (P.underlying t) (.slice a n c) := rfl
end ops
end Go.Am
