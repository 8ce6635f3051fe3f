/-
  The abstract machine: what a slice of numbers gives to append; a value by what its program's run gives.
-/
import Derived.Test.YtakfjoelpploeaaAmY7
set_option linter.unusedSimpArgs false
set_option linter.unusedVariables false
namespace Go.Am
open Go.RowKit

theorem aFirst_look {k : IntKind} {h : PT ABlk} {a : Option Addr} {cap : Nat} {xs : List Int} (hs : IsInts k h (.slice a xs.length cap) xs) : (aFirst 1 (.slice a xs.length cap)).look h = some (xs.length, xs.map (.int k)) := by
  rcases hs.shapes with ⟨e, rfl⟩ | ⟨b, off, sp, c, L, ro, e, rfl, hb⟩ | ⟨b, off, sp, c, L, ro, e, hb, hB, hT⟩
  · cases e; rfl
  · cases e
    rw [List.length_nil, aFirst_row, look_get, hb]
    simp only [fsB_row, Nat.zero_mul, Nat.beq_refl, Bool.or_true, cond_true, look_pure, List.take_zero, List.map_nil]
  · cases e
    rw [aFirst_row, look_get, hb]
    simp only [fsB_row, Nat.mul_one]
    have h1 : (Nat.ble (off + xs.length) L.length || Nat.beq xs.length 0) = true := by first | exact hB | (rw [show Nat.ble (off + xs.length) L.length = true from by first | exact hB | exact Nat.ble_eq_true_of_le hB]; rfl)
    rw [h1, cond_true, look_pure, hT]

/-- A value, by what its program's run gives. -/
theorem EvV_via {q : AP Value} {z : Zx} {d : Option Nat} {ops r : List Oper} {K : List KF} {m : Tm} {h : PT ABlk} {n : Nat} (I : Value → PT ABlk → Nat → Prop) (hI : ∃ v h' n', q.run 0 (S0 h n) = .ok v (S0 h' n') ∧ I v h' n')
    (hk : ∀ v h' n', I v h' n' → EvV z (.pure (.value v)) d ops r K m h' n') : EvV z (q.bind fun v => .pure (.value v)) d ops r K m h n := by
  obtain ⟨v, h', n', e, hi⟩ := hI
  have := hk v h' n' hi
  unfold EvV at *
  simp only [run_bind, e, bnd_ok_eq]
  exact this
theorem EvV_via2 {β : Type} {q : AP β} {f : β → AP Value} {z : Zx} {d : Option Nat} {ops r : List Oper} {K : List KF} {m : Tm} {h : PT ABlk} {n : Nat} (I : Value → PT ABlk → Nat → Prop) (hI : ∃ v h' n', (q.bind f).run 0 (S0 h n) = .ok v (S0 h' n') ∧ I v h' n')
    (hk : ∀ v h' n', I v h' n' → EvV z (.pure (.value v)) d ops r K m h' n') : EvV z (q.bind fun a => (f a).bind fun v => .pure (.value v)) d ops r K m h n := by
  obtain ⟨v, h', n', e, hi⟩ := hI
  have := hk v h' n' hi
  rw [run_bind] at e
  obtain ⟨a, s, e1, e2⟩ := bnd_ok e
  unfold EvV at *
  simp only [run_bind, e1, e2, bnd_ok_eq]
  exact this
end Go.Am
