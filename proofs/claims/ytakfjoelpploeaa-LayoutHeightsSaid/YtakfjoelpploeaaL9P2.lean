/-
  A part of the proof of the laws of layer 9: contracts of inner functions.
-/
import Derived.Test.YtakfjoelpploeaaL9T
import Derived.Test.YtakfjoelpploeaaAmY1
set_option linter.unusedVariables false
set_option linter.unusedSimpArgs false
namespace Go.Proofs.Ytakfjoelpploeaa
open Go.Am
variable {O : Over}

def asc : Int → List Int → Bool
  | _, [] => true
  | b, x :: xs => if x ≤ b then false else asc x xs

theorem asc_drop {b : Int} {xs : List Int} {i : Nat} (hi : i < xs.length) : asc b (xs.drop i) = if xs.getD i 0 ≤ b then false else asc (xs.getD i 0) (xs.drop (i + 1)) := by
  rw [List.drop_eq_getElem_cons hi]
  simp [asc, List.getD, hi]

theorem ascending (xs : List Int) (s : Value) (h : PT ABlk) (n : Nat) (hs : IsInts .u64 h s xs) (hl : xs.length < 1000000000000000) : EvB Try.prog O 58 [s] h n fun v h' n' => v = .bool (asc 0 xs) ∧ h' = h ∧ n' = n := by
  obtain ⟨a, cap, rfl, hA⟩ := hs.len
  clear hs
  refine EvB_run (N := 17) Try.func58 rfl rfl ?_
  intro z hP hO hro hN hQ
  repeat' first | simp (config := { maxSteps := 2000000 }) (disch := first | omega | (repeat first | assumption | exact Kept.refl _ | refine Kept.set' (by assumption) ?_ ?_ | refine Kept.set (by assumption) ?_ ?_ | omega)) only [go_sem, *, Try.results58, Nat.reduceLT, Nat.reduceAdd, Nat.reduceMul, Nat.reduceSub, Nat.reduceEqDiff, Nat.reduceLeDiff, Int.reduceToNat, Int.reduceLT, Int.reduceLE, Int.reduceEq, Int.reduceNe, Int.reduceAdd, Int.reduceSub, Int.reduceMul, Int.reduceNeg, ↓reduceIte, reduceCtorEq] | (apply EvG_ndec <;> intro _) | (apply EvC_ndec <;> intro _) | (apply EvG_dec <;> intro _) | (apply EvC_dec <;> intro _) | refine EvK_draw (by cbv) (by first | rfl | cbv) ?_ | (apply EvH_ndec <;> intro _) | (apply EvH_dec <;> intro _) | (apply EvC_nbool <;> intro _) | (apply EvC_bool <;> intro _) | (apply EvG_nbool <;> intro _) | (apply EvG_bool <;> intro _) | (apply EvH_nbool <;> intro _) | (apply EvH_bool <;> intro _)
  refine ind_loop (fun t m h' n' => h' = h ∧ n' = n ∧ ∃ (i : Nat) (b : Int), i ≤ xs.length ∧ t = xs.length - i ∧ asc 0 xs = asc b (xs.drop i) ∧ m.n = 17 ∧ m.dfs = [] ∧ m.get 6 = .slice a xs.length cap ∧ m.get 7 = .int .i64 xs.length ∧ m.get 8 = .int .i64 i ∧ m.get 3 = .int .u64 b) xs.length ?_ ?_
  · refine ⟨rfl, rfl, 0, 0, by omega, by omega, by simp, ?_⟩
    simp (config := { maxSteps := 2000000 }) (disch := first | omega | (repeat first | assumption | exact Kept.refl _ | refine Kept.set' (by assumption) ?_ ?_ | refine Kept.set (by assumption) ?_ ?_ | omega)) only [go_sem, *, Nat.reduceLT, Nat.reduceAdd, Nat.reduceMul, Nat.reduceSub, Nat.reduceEqDiff, Nat.reduceLeDiff, Int.reduceToNat, Int.reduceLT, Int.reduceLE, Int.reduceEq, Int.reduceNe, Int.reduceAdd, Int.reduceSub, Int.reduceMul, Int.reduceNeg, ↓reduceIte, reduceCtorEq]
  · rintro t m h n ih ⟨rfl, rfl, i, b, hi, rfl, hasc, m1, m2, m3, m4, m5, m6⟩
    rcases Nat.lt_or_ge i xs.length with hlt | hge
    · obtain ⟨bk, off, sp, L, ro, rfl, hb, hL⟩ := hA i hlt
      have e1 : (i : Int) < xs.length := by omega
      rw [asc_drop hlt] at hasc
      clear hA
      repeat' first | simp (config := { maxSteps := 2000000 }) (disch := first | omega | (repeat first | assumption | exact Kept.refl _ | refine Kept.set' (by assumption) ?_ ?_ | refine Kept.set (by assumption) ?_ ?_ | omega)) only [go_sem, *, Try.results58, Nat.reduceLT, Nat.reduceAdd, Nat.reduceMul, Nat.reduceSub, Nat.reduceEqDiff, Nat.reduceLeDiff, Int.reduceToNat, Int.reduceLT, Int.reduceLE, Int.reduceEq, Int.reduceNe, Int.reduceAdd, Int.reduceSub, Int.reduceMul, Int.reduceNeg, ↓reduceIte, reduceCtorEq] | (apply EvG_ndec <;> intro _) | (apply EvC_ndec <;> intro _) | (apply EvG_dec <;> intro _) | (apply EvC_dec <;> intro _) | refine EvK_draw (by cbv) (by first | rfl | cbv) ?_ | (apply EvH_ndec <;> intro _) | (apply EvH_dec <;> intro _) | (apply EvC_nbool <;> intro _) | (apply EvC_bool <;> intro _) | (apply EvG_nbool <;> intro _) | (apply EvG_bool <;> intro _) | (apply EvH_nbool <;> intro _) | (apply EvH_bool <;> intro _)
      refine ih (xs.length - (i + 1)) _ _ _ (by omega) ⟨rfl, rfl, i + 1, xs.getD i 0, by omega, by omega, ?_⟩
      simp (config := { maxSteps := 2000000 }) (disch := first | omega | (repeat first | assumption | exact Kept.refl _ | refine Kept.set' (by assumption) ?_ ?_ | refine Kept.set (by assumption) ?_ ?_ | omega)) only [go_sem, *, Nat.reduceLT, Nat.reduceAdd, Nat.reduceMul, Nat.reduceSub, Nat.reduceEqDiff, Nat.reduceLeDiff, Int.reduceToNat, Int.reduceLT, Int.reduceLE, Int.reduceEq, Int.reduceNe, Int.reduceAdd, Int.reduceSub, Int.reduceMul, Int.reduceNeg, ↓reduceIte, reduceCtorEq]
      simp
    · have e1 : ¬ (i : Int) < xs.length := by omega
      rw [List.drop_eq_nil_of_le hge] at hasc
      repeat' first | simp (config := { maxSteps := 2000000 }) (disch := first | omega | (repeat first | assumption | exact Kept.refl _ | refine Kept.set' (by assumption) ?_ ?_ | refine Kept.set (by assumption) ?_ ?_ | omega)) only [go_sem, *, Try.results58, asc, Nat.reduceLT, Nat.reduceAdd, Nat.reduceMul, Nat.reduceSub, Nat.reduceEqDiff, Nat.reduceLeDiff, Int.reduceToNat, Int.reduceLT, Int.reduceLE, Int.reduceEq, Int.reduceNe, Int.reduceAdd, Int.reduceSub, Int.reduceMul, Int.reduceNeg, ↓reduceIte, reduceCtorEq] | (apply EvG_ndec <;> intro _) | (apply EvC_ndec <;> intro _) | (apply EvG_dec <;> intro _) | (apply EvC_dec <;> intro _) | refine EvK_draw (by cbv) (by first | rfl | cbv) ?_ | (apply EvH_ndec <;> intro _) | (apply EvH_dec <;> intro _) | (apply EvC_nbool <;> intro _) | (apply EvC_bool <;> intro _) | (apply EvG_nbool <;> intro _) | (apply EvG_bool <;> intro _) | (apply EvH_nbool <;> intro _) | (apply EvH_bool <;> intro _)
end Go.Proofs.Ytakfjoelpploeaa
