/-
  A part of the proof of the laws of layer 9: contracts of inner functions.
-/
import Derived.Test.YtakfjoelpploeaaL9T
set_option linter.unusedVariables false
set_option linter.unusedSimpArgs false
namespace Go.Proofs.Ytakfjoelpploeaa
open Go.Am
variable {O : Over}

theorem within (a b c : Int) (h : PT ABlk) (n : Nat) : EvB Try.prog O 49 [.int .i64 a, .int .i64 b, .int .i64 c] h n fun v h' n' => v = .bool (decide (b ≤ a) && decide (a ≤ c)) ∧ h' = h ∧ n' = n := by
  refine EvB_run (N := 15) Try.func49 rfl rfl ?_
  intro z hP hO hro hN hQ
  repeat' first | simp (disch := first | omega | (repeat first | assumption | exact Kept.refl _ | refine Kept.set (by assumption) ?_ ?_ | omega)) only [go_sem, *, Try.results49, Nat.reduceLT, Nat.reduceAdd, Nat.reduceMul, Nat.reduceSub, Nat.reduceEqDiff, Nat.reduceLeDiff, Int.reduceToNat, Int.reduceLT, Int.reduceLE, Int.reduceEq, Int.reduceNe, Int.reduceAdd, Int.reduceSub, Int.reduceMul, Int.reduceNeg, ↓reduceIte, reduceCtorEq] | (apply EvG_ndec <;> intro _) | (apply EvC_ndec <;> intro _) | (apply EvG_dec <;> intro _) | (apply EvC_dec <;> intro _) | refine EvK_draw (by rfl) (by rfl) ?_ | (apply EvH_ndec <;> intro _) | (apply EvH_dec <;> intro _) | (apply EvC_nbool <;> intro _) | (apply EvC_bool <;> intro _) | (apply EvG_nbool <;> intro _) | (apply EvG_bool <;> intro _) | (apply EvH_nbool <;> intro _) | (apply EvH_bool <;> intro _)
end Go.Proofs.Ytakfjoelpploeaa
