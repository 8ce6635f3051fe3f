/-
  A part of the proof of the laws of layer 9: contracts of inner functions.
-/
import Derived.Test.YtakfjoelpploeaaAmY7
/-
  The abstract machine: what a slice of numbers gives to append; a value by what its program's run gives.
-/
set_option linter.unusedSimpArgs false
set_option linter.unusedVariables false
namespace Go.Am
open Go.RowKit

theorem aFirst_look {k : IntKind} {h : PT ABlk} {a : Option Addr} {cap : Nat} {xs : List Int} (hs : IsInts k h (.slice a xs.length cap) xs) : (aFirst 1 (.slice a xs.length cap)).look h = some (xs.length, xs.map (.int k)) := by
  rcases hs.shapes with ⟨e, rfl⟩ | ⟨b, off, sp, c, L, ro, e, rfl, hb⟩ | ⟨b, off, sp, c, L, ro, e, hb, hB, hT⟩
  · cases e; rfl
  · cases e
    rw [List.length_nil, aFirst_row, look_get, hb]
    simp only [fsB_row, Nat.zero_mul, Nat.beq_refl, Bool.or_true, cond_true, look_pure, List.take_zero, List.map_nil]
  · cases e
    rw [aFirst_row, look_get, hb]
    simp only [fsB_row, Nat.mul_one]
    have h1 : (Nat.ble (off + xs.length) L.length || Nat.beq xs.length 0) = true := by first | exact hB | (rw [show Nat.ble (off + xs.length) L.length = true from by first | exact hB | exact Nat.ble_eq_true_of_le hB]; rfl)
    rw [h1, cond_true, look_pure, hT]

/-- A value, by what its program's run gives. -/
theorem EvV_via {q : AP Value} {z : Zx} {d : Option Nat} {ops r : List Oper} {K : List KF} {m : Tm} {h : PT ABlk} {n : Nat} (I : Value → PT ABlk → Nat → Prop) (hI : ∃ v h' n', q.run 0 (S0 h n) = .ok v (S0 h' n') ∧ I v h' n')
    (hk : ∀ v h' n', I v h' n' → EvV z (.pure (.value v)) d ops r K m h' n') : EvV z (q.bind fun v => .pure (.value v)) d ops r K m h n := by
  obtain ⟨v, h', n', e, hi⟩ := hI
  have := hk v h' n' hi
  unfold EvV at *
  simp only [run_bind, e, bnd_ok_eq]
  exact this
theorem EvV_via2 {β : Type} {q : AP β} {f : β → AP Value} {z : Zx} {d : Option Nat} {ops r : List Oper} {K : List KF} {m : Tm} {h : PT ABlk} {n : Nat} (I : Value → PT ABlk → Nat → Prop) (hI : ∃ v h' n', (q.bind f).run 0 (S0 h n) = .ok v (S0 h' n') ∧ I v h' n')
    (hk : ∀ v h' n', I v h' n' → EvV z (.pure (.value v)) d ops r K m h' n') : EvV z (q.bind fun a => (f a).bind fun v => .pure (.value v)) d ops r K m h n := by
  obtain ⟨v, h', n', e, hi⟩ := hI
  have := hk v h' n' hi
  rw [run_bind] at e
  obtain ⟨a, s, e1, e2⟩ := bnd_ok e
  unfold EvV at *
  simp only [run_bind, e1, e2, bnd_ok_eq]
  exact this
end Go.Am

/-
  The abstract machine, for proofs with variables: maps (made, looked up, written, counted).
-/
set_option linter.unusedSimpArgs false
set_option linter.unusedVariables false
namespace Go.Am

section
variable {P : Program} {ρ : Operand → Value} {d : Option Tmp} {ty : TypeId} {pos : String} {af : Array Edge} {g : Option (Nat × Bool)}

@[go_sem] theorem aOp_makeMap {t : TypeId} : aOp P ρ ⟨d, .makeMap t none, ty, pos, af, g⟩ = .new (.map [] 0) fun id => .pure (.value (.map (some id))) := rfl
def lkQ (P : Program) (t : TypeId) (x k : Value) (ok : Bool) : AP ANext := (aLookup P t x k ok).bind fun v => .pure (.value v)
@[go_sem] theorem aOp_lookup {t : TypeId} {x i : Operand} {ok : Bool} : aOp P ρ ⟨d, .lookup t x i ok, ty, pos, af, g⟩ = lkQ P t (ρ x) (ρ i) ok := rfl
def muQ (P : Program) (t : TypeId) (x k v : Value) : AP ANext := (aMapUpdate P t x k v).bind fun _ => .pure .skip
@[go_sem] theorem aOp_mapUpdate {t : TypeId} {x i v : Operand} : aOp P ρ ⟨d, .mapUpdate t x i v, ty, pos, af, g⟩ = muQ P t (ρ x) (ρ i) (ρ v) := rfl

/-- The answer of a look-up. -/
def lkR (P : Program) (et : TypeId) (ok : Bool) : Option (Option (Nat × Value)) → AP ANext
  | some (some (_, v)) => .pure (.value (cond ok (.tuple ⟨[v, .bool true]⟩) v))
  | some none => match zeroOf P et with
    | some z => .pure (.value (cond ok (.tuple ⟨[z, .bool false]⟩) z))
    | none => .fail "lookup"
  | none => .fail "lookup"
def lkB (P : Program) (kd : TypeDesc) (et : TypeId) (k : Value) (ok : Bool) : ABlk → AP ANext
  | .map es _ => lkR P et ok (findKeyA P kd k es 0)
  | _ => .fail "map block"
theorem lkQ_map {t kt et : TypeId} {kd : TypeDesc} {r : Nat} {k : Value} {ok : Bool} (h1 : P.underlying t = some (.map kt et)) (h2 : P.underlying kt = some kd) (h3 : keyOk P kt kd k = true) : lkQ P t (.map (some r)) k ok = .get r (lkB P kd et k ok) := by
  unfold lkQ aLookup aMapGet
  simp only [h1, h2, h3, cond_true, AP.bind]
  congr 1
  funext b
  cases b with
  | map es c =>
    simp only [AP.bind, lkB]
    unfold lkR
    cases findKeyA P kd k es 0 with
    | none => rfl
    | some q =>
      cases q with
      | none => simp only; cases zeroOf P et <;> rfl
      | some p => rfl
  | _ => rfl
theorem lkB_map {kd : TypeDesc} {et : TypeId} {k : Value} {ok : Bool} {es : List (Value × Value × Nat)} {c : Nat} : lkB P kd et k ok (.map es c) = lkR P et ok (findKeyA P kd k es 0) := rfl

def muR (r : Nat) (simple : Bool) (k v : Value) (es : List (Value × Value × Nat)) (clk : Nat) : Option (Option (Nat × Value)) → AP ANext
  | some (some (i, _)) => cond simple (.set r (.map (putEntry k v es i) clk) (.pure .skip)) (.fail "mapUpdate")
  | some none => .set r (.map (es ++ [(k, v, clk)]) (clk + 1)) (.pure .skip)
  | none => .fail "mapUpdate"
def muB (P : Program) (r : Nat) (kd : TypeDesc) (k v : Value) : ABlk → AP ANext
  | .map es clk => muR r (simpleKey kd) k v es clk (findKeyA P kd k es 0)
  | _ => .fail "mapUpdate"
theorem muQ_map {t kt et : TypeId} {kd : TypeDesc} {r : Nat} {k v : Value} (h1 : P.underlying t = some (.map kt et)) (h2 : P.underlying kt = some kd) (h3 : keyOk P kt kd k = true) : muQ P t (.map (some r)) k v = .get r (muB P r kd k v) := by
  unfold muQ aMapUpdate
  simp only [h1, h2, h3, cond_true, AP.bind]
  congr 1
  funext b
  cases b with
  | map es c =>
    simp only [muB]
    unfold muR
    cases findKeyA P kd k es 0 with
    | none => rfl
    | some q =>
      cases q with
      | none => rfl
      | some p => simp only; cases simpleKey kd <;> rfl
  | _ => rfl
theorem muB_map {r : Nat} {kd : TypeDesc} {k v : Value} {es : List (Value × Value × Nat)} {c : Nat} : muB P r kd k v (.map es c) = muR r (simpleKey kd) k v es c (findKeyA P kd k es 0) := rfl

def mlB : ABlk → AP ANext
  | .map es _ => .pure (.value (.int .i64 es.length))
  | _ => .fail "map block"
theorem bltQ_lenmap {t kt et : TypeId} {ts : List TypeId} {r : Nat} (h1 : P.underlying t = some (.map kt et)) : bltQ P .len (t :: ts) [.map (some r)] = .get r mlB := by
  unfold bltQ
  show (aLen P (t :: ts) [.map (some r)]).bind _ = _
  unfold aLen aMapGet
  simp only [h1, AP.bind]
  congr 1
  funext b
  cases b <;> rfl
@[go_sem] theorem mlB_map {es : List (Value × Value × Nat)} {c : Nat} : mlB (.map es c) = .pure (.value (.int .i64 es.length)) := rfl
end
end Go.Am
