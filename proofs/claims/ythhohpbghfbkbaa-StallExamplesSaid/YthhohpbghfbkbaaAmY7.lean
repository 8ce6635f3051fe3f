/-
  The abstract machine: arrays of numbers compared.
-/
import Derived.Test.YthhohpbghfbkbaaAmY6
set_option linter.unusedSimpArgs false
set_option linter.unusedVariables false
namespace Go.Am
open Go.RowKit

theorem elemsEq_ints {P : Program} {e : TypeId} {k : IntKind} {i : TypeInfo} {D : Nat} (he : P.underlying e = some (.int k)) (hi : P.info? e = some i) : ∀ (n j : Nat) (xs ys : List Int), j + n ≤ xs.length → j + n ≤ ys.length →
    elemsEq P (aEqual P (D + 1)) e 1 (xs.map (.int k)) (ys.map (.int k)) n j = .pure (decide ((xs.drop j).take n = (ys.drop j).take n))
  | 0, j, xs, ys, _, _ => by simp [elemsEq]
  | n + 1, j, xs, ys, hx, hy => by
    have e1 : xs.drop j = xs[j] :: xs.drop (j + 1) := List.drop_eq_getElem_cons (by omega)
    have e2 : ys.drop j = ys[j] :: ys.drop (j + 1) := List.drop_eq_getElem_cons (by omega)
    have p1 : aPart P e (xs.map (.int k)) (j * 1) = some (.int k xs[j]) := by simp [aPart, hi, he, isAgg, List.getElem?_map, List.getElem?_eq_getElem (show j < xs.length by omega)]
    have p2 : aPart P e (ys.map (.int k)) (j * 1) = some (.int k ys[j]) := by simp [aPart, hi, he, isAgg, List.getElem?_map, List.getElem?_eq_getElem (show j < ys.length by omega)]
    have q : aEqual P (D + 1) e (.int k xs[j]) (.int k ys[j]) = .pure (xs[j] == ys[j]) := by unfold aEqual; rw [he]; exact if_pos rfl
    rw [elemsEq, p1, p2]
    simp only [q, AP.bind]
    rw [elemsEq_ints he hi n (j + 1) xs ys (by omega) (by omega), e1, e2]
    by_cases h : xs[j] = ys[j]
    · rw [h]; simp only [beq_self_eq_true, cond_true, List.take_succ_cons, List.cons.injEq, true_and]
    · simp only [beq_eq_false_iff_ne.2 h, cond_false, List.take_succ_cons, List.cons.injEq, h, false_and, decide_false]

theorem binV_eql_ints {P : Program} {t e : TypeId} {k : IntKind} {i : TypeInfo} {n : Nat} {xs ys : List Int} {cx cy : Bool} (ht : P.underlying t = some (.array n e)) (he : P.underlying e = some (.int k)) (hi : P.info? e = some i) (h1 : i.size = 1) (hg : P.eqGuardType P.depth t = false)
    (hx : xs.length = n) (hy : ys.length = n) : binV P .eql t cx cy (.agg ⟨xs.map (.int k)⟩) (.agg ⟨ys.map (.int k)⟩) = .pure (.value (.bool (decide (xs = ys)))) := by
  have e0 : aEqual P 12 t (.agg ⟨xs.map (.int k)⟩) (.agg ⟨ys.map (.int k)⟩) = .pure (decide (xs = ys)) := by
    unfold aEqual
    rw [ht]
    simp only [hi, h1]
    rw [elemsEq_ints he hi n 0 xs ys (by omega) (by omega)]
    rw [List.drop_zero, List.drop_zero, ← hx, List.take_length, hx, ← hy, List.take_length]
  simp only [binV, aBinOp, eqGuardOk, hg, Bool.not_false, cond_true, e0, AP.bind]
end Go.Am
