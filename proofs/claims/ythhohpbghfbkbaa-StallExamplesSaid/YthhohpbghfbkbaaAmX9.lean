/-
  The abstract machine, for proofs with variables: appending, slicing, comparing: worked out.
-/
import Derived.Test.YthhohpbghfbkbaaAmX8
set_option linter.unusedSimpArgs false
set_option linter.unusedVariables false
namespace Go.Am

/-- A body: what is to be shown, the number of slots reckoned. -/
theorem EvB_run {P : Program} {O : Over} {f : FuncId} {fn : Func} {c : Code} {args : List Value} {h : PT ABlk} {n N : Nat} {R : Value → PT ABlk → Nat → Prop} (hf : P.funcs[f]? = some fn) (hb : fn.body = some c) (hN : args.length + (fn.ntmps - args.length) = N)
    (H : ∀ z : Zx, z.P = P → z.O = O → z.ro = none → z.N = N → z.Q = Fin P fn.results.toList R → EvK z c [] ⟨N, PT.ofList .leaf 0 args, []⟩ h n) : EvB P O f args h n R := by
  subst hN; exact EvB_of hf hb H
@[go_sem] theorem Fin_ret {P : Program} {rs : List ResultVar} {R : Value → PT ABlk → Nat → Prop} {m : Tm} {h : PT ABlk} {n : Nat} : Fin P rs R .ret m h n ↔ m.dfs = [] ∧ ∃ l, resV P m h rs = some l ∧ R (oneOf l) h n := by simp [Fin]
@[go_sem] theorem Fin_normal {P : Program} {rs : List ResultVar} {R : Value → PT ABlk → Nat → Prop} {m : Tm} {h : PT ABlk} {n : Nat} : Fin P rs R .normal m h n ↔ m.dfs = [] ∧ ∃ l, resV P m h rs = some l ∧ R (oneOf l) h n := by simp [Fin]
attribute [go_sem] Option.some.injEq exists_eq_left'
@[go_sem] theorem not_decide' {p : Prop} [Decidable p] : (!decide p) = decide (¬ p) := by by_cases h : p <;> simp [h]
@[go_sem] theorem and_decide' {p q : Prop} [Decidable p] [Decidable q] : (decide p && decide q) = decide (p ∧ q) := by by_cases h : p <;> by_cases k : q <;> simp [h, k]
@[go_sem] theorem or_decide' {p q : Prop} [Decidable p] [Decidable q] : (decide p || decide q) = decide (p ∨ q) := by by_cases h : p <;> by_cases k : q <;> simp [h, k]
section
variable {z : Zx} {K : List KF} {m : Tm} {h : PT ABlk} {n : Nat} {p : Prop} [Decidable p]
theorem EvC_ndec {a b : Code} (h1 : ¬ p → EvK z a K m h n) (h2 : p → EvK z b K m h n) : EvC z (.bool (decide (¬ p))) a b K m h n := by
  by_cases hp : p
  · simpa [hp, EvC_false] using h2 hp
  · simpa [hp, EvC_true] using h1 hp
theorem EvC_nbool {a b : Code} {t : Bool} (h1 : t = false → EvK z a K m h n) (h2 : t = true → EvK z b K m h n) : EvC z (.bool !t) a b K m h n := by
  cases t
  · exact EvC_true.2 (h1 rfl)
  · exact EvC_false.2 (h2 rfl)
theorem EvG_bool {o : Oper} {ops r : List Oper} {t : Bool} (h1 : t = true → EvG z true o ops r K m h n) (h2 : t = false → EvG z false o ops r K m h n) : EvG z t o ops r K m h n := by
  cases t <;> first | exact h1 rfl | exact h2 rfl
theorem EvG_nbool {o : Oper} {ops r : List Oper} {t : Bool} (h1 : t = false → EvG z true o ops r K m h n) (h2 : t = true → EvG z false o ops r K m h n) : EvG z (!t) o ops r K m h n := by
  cases t <;> first | exact h1 rfl | exact h2 rfl
theorem EvH_bool {L : List (Nat × Nat)} {o : Oper} {ops r : List Oper} {fs : List Foot} {t : Bool} (h1 : t = true → EvH z L true o ops r K m h n fs) (h2 : t = false → EvH z L false o ops r K m h n fs) : EvH z L t o ops r K m h n fs := by
  cases t <;> first | exact h1 rfl | exact h2 rfl
theorem EvH_nbool {L : List (Nat × Nat)} {o : Oper} {ops r : List Oper} {fs : List Foot} {t : Bool} (h1 : t = false → EvH z L true o ops r K m h n fs) (h2 : t = true → EvH z L false o ops r K m h n fs) : EvH z L (!t) o ops r K m h n fs := by
  cases t <;> first | exact h1 rfl | exact h2 rfl
theorem EvG_ndec {o : Oper} {ops r : List Oper} (h1 : ¬ p → EvG z true o ops r K m h n) (h2 : p → EvG z false o ops r K m h n) : EvG z (decide (¬ p)) o ops r K m h n := by
  by_cases hp : p
  · simpa [hp] using h2 hp
  · simpa [hp] using h1 hp
theorem EvH_ndec {L : List (Nat × Nat)} {o : Oper} {ops r : List Oper} {fs : List Foot} (h1 : ¬ p → EvH z L true o ops r K m h n fs) (h2 : p → EvH z L false o ops r K m h n fs) : EvH z L (decide (¬ p)) o ops r K m h n fs := by
  by_cases hp : p
  · simpa [hp] using h2 hp
  · simpa [hp] using h1 hp
end
attribute [go_sem] not_true_eq_false not_false_eq_true false_and and_false true_or or_true false_or or_false Decidable.not_not

section ops
variable {P : Program} {ρ : Operand → Value} {d : Option Tmp} {ty : TypeId} {pos : String} {af : Array Edge} {g : Option (Nat × Bool)}

@[go_sem] theorem apQ_some {sz by' zl len cap : Nat} {base : Option Addr} {x : Value} {fb : AP ANext} : apQ (some (sz, by', zl)) (.slice base len cap) x fb = ((aFirst sz x).bind fun p => apTo sz by' zl base len cap p.1 p.2).bind fun v => .pure (.value v) := rfl
@[go_sem] theorem aFirst_nil {sz n c : Nat} : aFirst sz (.slice none n c) = .pure (n, []) := rfl
def fsB (off k n : Nat) : ABlk → AP (Nat × List Value)
  | .cells c _ => match readCells c off k with | some l => .pure (n, l) | none => .fail "cells"
  | _ => .fail "cells"
@[go_sem] theorem aFirst_row {sz b off n c : Nat} {sp : Option Nat} : aFirst sz (.slice (some ⟨b, off, sp⟩) n c) = .get b (fsB off (n * sz) n) := rfl
@[go_sem] theorem fsB_row {off k n : Nat} {L : List Value} {ro : Bool} : fsB off k n (.cells (PT.ofList .leaf 0 L) ro) = cond (Nat.ble (off + k) L.length || Nat.beq k 0) (.pure (n, (L.drop off).take k)) (.fail "cells") := by
  simp only [fsB, readCells_row]
  cases (Nat.ble (off + k) L.length || Nat.beq k 0) <;> rfl
@[go_sem] theorem apTo_none {s by' zl len cap n : Nat} {new : List Value} : apTo s by' zl none len cap n new = cond (Nat.beq n 0 && Nat.ble len cap && new.isEmpty) (.pure (.slice none len cap)) (cond (Nat.ble capInf cap) (.fail "append") (cond (Nat.ble (len + n) cap) (.fail "append") (apGrow s by' zl len n [] new))) := rfl
def apB1 (b off s by' zl len n : Nat) (new : List Value) : ABlk → AP Value
  | .cells c false => match readCells c off (len * s) with
    | some old => .kill b (apGrow s by' zl len n old new)
    | none => .fail "append"
  | _ => .fail "append"
def apB2 (b off s len cap n : Nat) (sp : Option Nat) (new : List Value) : ABlk → AP Value
  | .cells c false => match writeCells c (off + len * s) new with
    | some c' => .set b (.cells c' false) (.pure (.slice (some ⟨b, off, sp⟩) (len + n) cap))
    | none => .fail "append"
  | _ => .fail "append"
@[go_sem] theorem apTo_some {s by' zl len cap n b off : Nat} {sp : Option Nat} {new : List Value} : apTo s by' zl (some ⟨b, off, sp⟩) len cap n new = cond (Nat.beq n 0 && Nat.ble len cap && new.isEmpty) (.pure (.slice (some ⟨b, off, sp⟩) len cap))
    (cond (Nat.ble capInf cap) (cond (Nat.beq cap (capInf + s) && new.all oneCell) (.get b (apB1 b off s by' zl len n new)) (.fail "append"))
      (cond (Nat.ble (len + n) cap) (.get b (apB2 b off s len cap n sp new)) ((AP.get b (fsB off (len * s) len)).bind fun p => apGrow s by' zl len n p.2 new))) := rfl
@[go_sem] theorem apB1_row {b off s by' zl len n : Nat} {new L : List Value} : apB1 b off s by' zl len n new (.cells (PT.ofList .leaf 0 L) false) = cond (Nat.ble (off + len * s) L.length || Nat.beq (len * s) 0) (.kill b (apGrow s by' zl len n ((L.drop off).take (len * s)) new)) (.fail "append") := by
  simp only [apB1, readCells_row]
  cases (Nat.ble (off + len * s) L.length || Nat.beq (len * s) 0) <;> rfl
@[go_sem] theorem apB2_row {b off s len cap n : Nat} {sp : Option Nat} {new L : List Value} : apB2 b off s len cap n sp new (.cells (PT.ofList .leaf 0 L) false) = cond ((Nat.ble (off + len * s + new.length) L.length || new.isEmpty) && new.all oneCell) (.set b (.cells (PT.ofList .leaf 0 (putL L (off + len * s) new)) false) (.pure (.slice (some ⟨b, off, sp⟩) (len + n) cap))) (.fail "append") := by
  simp only [apB2, writeCells_row]
  cases ((Nat.ble (off + len * s + new.length) L.length || new.isEmpty) && new.all oneCell) <;> rfl
@[go_sem] theorem apGrow_eq {s by' zl len n : Nat} {old new : List Value} : apGrow s by' zl len n old new = cond (Nat.ble (len + n) 1048576 && Nat.ble by' 65536 && Nat.beq zl s && Nat.beq old.length (len * s) && Nat.beq new.length (n * s))
    (.new (.cells (PT.ofList .leaf 0 (old ++ new)) false) fun id => .pure (.slice (some ⟨id, 0, none⟩) (len + n) (capInf + s))) (.fail "append") := rfl
@[go_sem] theorem ble_capInf {c : Nat} (h : c < 4611686018427387904) : Nat.ble capInf c = false := ble_false (by unfold capInf; omega)
@[go_sem] theorem ble_capInf' {c : Nat} : Nat.ble capInf (capInf + c) = true := ble_true (by omega)
@[go_sem] theorem take_map_self {α : Type} {f : α → Value} {l : List α} : (l.map f).take l.length = l.map f := by rw [List.take_of_length_le (by simp)]
@[go_sem] theorem beq_eq {a b : Nat} (h : a = b) : Nat.beq a b = true := by subst h; exact beq_self a

/-! a slice against nil -/
def snQ (u : Option TypeDesc) (neg : Bool) (x : Option Addr) : AP ANext := match u with
  | some (.slice _) => .pure (.value (.bool (x.isNone ^^ neg)))
  | _ => .fail "equal"
section
variable {t : TypeId} {cx cy : Bool}
theorem aEqual_snil {D : Nat} {x : Option Addr} {n c n' c' : Nat} : aEqual P (D + 1) t (.slice x n c) (.slice none n' c') = match P.underlying t with | some (.slice _) => .pure x.isNone | _ => .fail "equal" := by
  unfold aEqual
  cases P.underlying t with
  | none => cases x <;> rfl
  | some u => cases u <;> cases x <;> rfl
@[go_sem] theorem binV_eq_snil {x : Option Addr} {n c n' c' : Nat} : binV P .eql t cx cy (.slice x n c) (.slice none n' c') = snQ (P.underlying t) false x := by
  have : binV P .eql t cx cy (.slice x n c) (.slice none n' c') = AP.bind ((aEqual P (11 + 1) t (.slice x n c) (.slice none n' c')).bind fun b => .pure (.bool b)) fun v => .pure (.value v) := by
    simp only [binV, aBinOp, eqGuardOk, cond_true]
  rw [this, aEqual_snil]; unfold snQ
  cases P.underlying t with
  | none => rfl
  | some u => cases u <;> first | rfl | (cases x <;> rfl)
@[go_sem] theorem binV_ne_snil {x : Option Addr} {n c n' c' : Nat} : binV P .neq t cx cy (.slice x n c) (.slice none n' c') = snQ (P.underlying t) true x := by
  have : binV P .neq t cx cy (.slice x n c) (.slice none n' c') = AP.bind ((aEqual P (11 + 1) t (.slice x n c) (.slice none n' c')).bind fun b => .pure (.bool !b)) fun v => .pure (.value v) := by
    simp only [binV, aBinOp, eqGuardOk, cond_true]
  rw [this, aEqual_snil]; unfold snQ
  cases P.underlying t with
  | none => rfl
  | some u => cases u <;> first | rfl | (cases x <;> rfl)
@[go_sem] theorem snQ_slice {e : TypeId} {neg : Bool} {x : Option Addr} : snQ (some (.slice e)) neg x = .pure (.value (.bool (x.isNone ^^ neg))) := rfl

/-! truth values compared -/
theorem aEqual_bool {D : Nat} {a b : Bool} : aEqual P (D + 1) t (.bool a) (.bool b) = match P.underlying t with | some .bool => .pure (a == b) | _ => .fail "equal" := by
  unfold aEqual
  cases P.underlying t with
  | none => rfl
  | some u => cases u <;> rfl
def beqQ (u : Option TypeDesc) (neg : Bool) (a b : Bool) : AP ANext := match u with
  | some .bool => .pure (.value (.bool ((a == b) ^^ neg)))
  | _ => .fail "equal"
@[go_sem] theorem binV_eq_bool {a b : Bool} : binV P .eql t cx cy (.bool a) (.bool b) = beqQ (P.underlying t) false a b := by
  have : binV P .eql t cx cy (.bool a) (.bool b) = AP.bind ((aEqual P (11 + 1) t (.bool a) (.bool b)).bind fun b => .pure (.bool b)) fun v => .pure (.value v) := by
    simp only [binV, aBinOp, eqGuardOk, cond_true]
  rw [this, aEqual_bool]; unfold beqQ
  cases P.underlying t with
  | none => rfl
  | some u => cases u <;> first | rfl | (cases a <;> cases b <;> rfl)
@[go_sem] theorem binV_ne_bool {a b : Bool} : binV P .neq t cx cy (.bool a) (.bool b) = beqQ (P.underlying t) true a b := by
  have : binV P .neq t cx cy (.bool a) (.bool b) = AP.bind ((aEqual P (11 + 1) t (.bool a) (.bool b)).bind fun b => .pure (.bool !b)) fun v => .pure (.value v) := by
    simp only [binV, aBinOp, eqGuardOk, cond_true]
  rw [this, aEqual_bool]; unfold beqQ
  cases P.underlying t with
  | none => rfl
  | some u => cases u <;> first | rfl | (cases a <;> cases b <;> rfl)
@[go_sem] theorem beqQ_bool {neg a b : Bool} : beqQ (some .bool) neg a b = .pure (.value (.bool ((a == b) ^^ neg))) := rfl
end

/-! slicing -/
def slV (P : Program) (t : TypeId) (x : Value) (lo hi mx : Option Value) : AP ANext := (aSlice P t x lo hi mx).bind fun v => .pure (.value v)
@[go_sem] theorem aOp_slice {t : TypeId} {x : Operand} {lo hi mx : Option Operand} : aOp P ρ ⟨d, .slice t x lo hi mx, ty, pos, af, g⟩ = slV P t (ρ x) (lo.map ρ) (hi.map ρ) (mx.map ρ) := rfl
/-- 's[lo:hi]' of a slice with a row. -/
def slK (a : Addr) (s len cap : Nat) (lo hi : Option Nat) : AP ANext := match hi, lo with
  | some h, some l =>
    cond (Nat.ble l h && Nat.ble h (cond (Nat.ble capInf cap) len cap))
      (cond (Nat.ble capInf cap) (cond (Nat.beq cap (capInf + s)) (.pure (.value (.slice (some (aAdd a (l * s))) (h - l) cap))) (.fail "slice"))
        (.pure (.value (.slice (some (cond (Nat.beq cap l) a (aAdd a (l * s)))) (h - l) (cap - l))))) (.fail "slice")
  | _, _ => .fail "slice"
def slW (k : Option (Option Nat × Nat)) (a : Addr) (len cap : Nat) (lo hi : Option Value) : AP ANext := match k with
  | some (none, s) => slK a s len cap (boundOr 0 lo) (boundOr len hi)
  | _ => .fail "slice"
@[go_sem] theorem slV_slice {t : TypeId} {a : Addr} {len cap : Nat} {lo hi : Option Value} : slV P t (.slice (some a) len cap) lo hi none = slW (iaT P t) a len cap lo hi := by
  unfold slV aSlice slW iaT
  cases P.underlying t with
  | none => rfl
  | some u =>
    cases u with
    | slice e =>
      dsimp only
      cases P.info? e with
      | none => rfl
      | some i =>
        simp only [Option.map_some, aSliceFrom, slK]
        cases boundOr len hi with
        | none => rfl
        | some h => cases boundOr 0 lo with
          | none => rfl
          | some l =>
            dsimp only
            cases (Nat.ble l h && Nat.ble h (cond (Nat.ble capInf cap) len cap)) with
            | false => rfl
            | true =>
              simp only [cond_true]
              cases Nat.ble capInf cap with
              | false => rfl
              | true => simp only [cond_true]; cases Nat.beq cap (capInf + i.size) <;> rfl
    | array len e => dsimp only; cases P.info? e <;> rfl
    | _ => rfl
@[go_sem] theorem slW_some {s len cap : Nat} {a : Addr} {lo hi : Option Value} : slW (some (none, s)) a len cap lo hi = slK a s len cap (boundOr 0 lo) (boundOr len hi) := rfl
@[go_sem] theorem boundOr_none {n : Nat} : boundOr n none = some n := rfl
@[go_sem] theorem boundOr_some {n : Nat} {v : Value} : boundOr n (some v) = asNat v := rfl
@[go_sem] theorem slK_inf {b off s len l h : Nat} {sp : Option Nat} : slK ⟨b, off, sp⟩ s len (capInf + s) (some l) (some h) = cond (Nat.ble l h && Nat.ble h len) (.pure (.value (.slice (some ⟨b, off + l * s, none⟩) (h - l) (capInf + s)))) (.fail "slice") := by
  simp only [slK, ble_capInf', cond_true, beq_self, aAdd]
theorem slK_cap {b off s len cap l h : Nat} {sp : Option Nat} (hc : cap < 4611686018427387904) (hl : l < cap) : slK ⟨b, off, sp⟩ s len cap (some l) (some h) = cond (Nat.ble l h && Nat.ble h cap) (.pure (.value (.slice (some ⟨b, off + l * s, none⟩) (h - l) (cap - l)))) (.fail "slice") := by
  simp only [slK, ble_capInf hc, cond_false, beq_ne (show cap ≠ l by omega), aAdd]
theorem slK_cap0 {b off s len cap h : Nat} {sp : Option Nat} (hc : cap < 4611686018427387904) : slK ⟨b, off, sp⟩ s len cap (some 0) (some h) = cond (Nat.ble h cap) (.pure (.value (.slice (some (cond (Nat.beq cap 0) ⟨b, off, sp⟩ ⟨b, off, none⟩)) h cap))) (.fail "slice") := by
  simp only [slK, ble_capInf hc, cond_false, aAdd, Nat.zero_mul, Nat.add_zero, Nat.sub_zero, ble_true (Nat.zero_le h), Bool.true_and]

@[go_sem] theorem bltQ_min {ts : List TypeId} {k k' : IntKind} {a b : Int} : bltQ P .min ts [.int k a, .int k' b] = .pure (.value (.int k (if b < a then b else a))) := rfl
@[go_sem] theorem bltQ_max {ts : List TypeId} {k k' : IntKind} {a b : Int} : bltQ P .max ts [.int k a, .int k' b] = .pure (.value (.int k (if b > a then b else a))) := rfl
end ops
end Go.Am
