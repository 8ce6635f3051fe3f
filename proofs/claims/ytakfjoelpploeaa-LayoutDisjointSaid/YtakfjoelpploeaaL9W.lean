/-
  A part of the proof of the laws of layer 9: contracts of inner functions.
-/
import Derived.Test.YtakfjoelpploeaaL9P4
import Derived.Test.YtakfjoelpploeaaL9C
import Derived.Test.YtakfjoelpploeaaL9T
import Derived.Test.YtakfjoelpploeaaAmY3
set_option linter.unusedVariables false
set_option linter.unusedSimpArgs false
namespace Go.Proofs.Ytakfjoelpploeaa
open Go.Am

theorem asc_zero {xs : List Int} (h : 0 < xs.length) (h0 : ∀ x ∈ xs, 0 ≤ x) : asc 0 xs = if xs.getD 0 0 = 0 then false else asc (xs.getD 0 0) (xs.drop 1) := by
  have := asc_drop (b := 0) (xs := xs) (i := 0) h
  rw [List.drop_zero] at this
  rw [this]
  have h1 : 0 ≤ xs.getD 0 0 := by
    match xs, h with
    | x :: r, _ => exact h0 x (by simp)
  by_cases hx : xs.getD 0 0 = 0
  · rw [if_pos (by omega), if_pos hx]
  · rw [if_neg (by omega), if_neg hx]

set_option maxRecDepth 100000 in
set_option maxHeartbeats 4000000 in
theorem refDom {O : Over} (kd n : Int) (s : Value) (xs : List Int) (h : PT ABlk) (N : Nat) (hN : ∀ i B, h.get i = some B → i < N) (hs : IsInts .u64 h s xs) (hl : xs.length < 1000000000000000) (h0 : ∀ x ∈ xs, 0 ≤ x) :
    EvB Try.prog O 51 [.agg ⟨[.int .u8 kd, .int .i64 n, s]⟩] h N fun v h' n' => v = .int .i64 (errIf (domOk kd n xs)) ∧ ∀ i, i < N → h'.get i = h.get i := by
  have hW := WfH.of_lt hN
  by_cases h3 : kd = 3 ∧ n = 0 ∧ 1 ≤ xs.length ∧ xs.length ≤ 63
  · obtain ⟨rfl, rfl, hx1, hx2⟩ := h3
    rcases hs.shapes with ⟨rfl, rfl⟩ | ⟨b, off, sp, cap, L, ro, rfl, rfl, hb⟩ | ⟨b, off, sp, cap, L, ro, rfl, hb, hB, hT⟩
    · simp at hx1
    · simp at hx1
    clear hB hs
    have hL := isInts_at hT 0 (by omega)
    have hbN := hN _ _ hb
    have hlt1 : ¬ ((xs.length : Int) < 1) := by omega
    have hlt2 : ¬ (63 < (xs.length : Int)) := by omega
    have hd : domOk 3 0 xs = asc 0 xs := by
      have e1 : (1 : Int) ≤ xs.length := by omega
      have e2 : (xs.length : Int) < 64 := by omega
      simp [domOk, e1, e2]
    rw [hd, asc_zero hx1 h0]
    clear hN h0 hd
    refine EvB_run (N := 76) Try.func51 rfl rfl fun z hP hO hro hN hQ => ?_
    rw [Nat.add_zero] at hL
    repeat' first | simp (config := { maxSteps := 2000000 }) (disch := first | omega | (repeat first | assumption | exact Kept.refl _ | refine Kept.set' (by assumption) ?_ ?_ | refine Kept.set (by assumption) ?_ ?_ | omega)) only [go_sem, *, Try.results51, Nat.reduceLT, Nat.reduceAdd, Nat.reduceMul, Nat.reduceSub, Nat.reduceEqDiff, Nat.reduceLeDiff, Int.reduceToNat, Int.reduceLT, Int.reduceLE, Int.reduceEq, Int.reduceNe, Int.reduceAdd, Int.reduceSub, Int.reduceMul, Int.reduceNeg, ↓reduceIte, reduceCtorEq] | (apply EvG_ndec <;> intro _) | (apply EvC_ndec <;> intro _) | (apply EvG_dec <;> intro _) | (apply EvC_dec <;> intro _) | refine EvK_draw (id := 14) (L := [(0, 2), (1, 2), (0, 5), (1, 5), (2, 5), (3, 5), (4, 5), (0, 6), (1, 6), (2, 6), (3, 6), (4, 6), (0, 7), (1, 7), (2, 7), (3, 7), (4, 7), (5, 7), (6, 7), (0, 8), (1, 8), (2, 8), (3, 8), (4, 8), (5, 8), (6, 8), (0, 9), (1, 9), (2, 9), (3, 9), (4, 9), (0, 10), (1, 10), (2, 10), (3, 10), (4, 10)]) (by kernel_rfl) (by kernel_rfl) ?_ | (apply EvH_ndec <;> intro _) | (apply EvH_dec <;> intro _) | (apply EvC_nbool <;> intro _) | (apply EvC_bool <;> intro _) | (apply EvG_nbool <;> intro _) | (apply EvG_bool <;> intro _) | (apply EvH_nbool <;> intro _) | (apply EvH_bool <;> intro _)
    · refine ⟨by simp [errIf, *], fun i hi => by simp (disch := omega) only [heap_ne]⟩
    · rename_i hx0
      rw [if_neg hx0] at hQ
      clear hL hx0
      have hbn : (h.set N (some (.cells (PT.ofList .leaf 0 [.int .u8 3, .int .i64 0, .slice (some ⟨b, off, sp⟩) xs.length cap]) false))).get b = some (.cells (PT.ofList .leaf 0 L) ro) := by rw [heap_ne (by omega)]; exact hb
      have hold2 : ∀ i, i < N → (h.set N (some (.cells (PT.ofList .leaf 0 [.int .u8 3, .int .i64 0, .slice (some ⟨b, off, sp⟩) xs.length cap]) false))).get i = h.get i := fun i hi => by rw [heap_ne (by omega)]
      generalize hh2 : h.set N _ = h2 at *
      have e2 := get_of_set hh2
      clear hh2
      refine ind_loop (fun t m h' n' => ∃ i : Nat, 1 ≤ i ∧ i ≤ xs.length ∧ t = xs.length + 1 - i ∧ asc (xs.getD 0 0) (xs.drop 1) = asc (xs.getD (i - 1) 0) (xs.drop i) ∧ m.n = 76 ∧ m.dfs = [] ∧ m.get 1 = .pointer (some ⟨N, 0, none⟩) ∧ m.get 3 = .int .i64 i ∧ h2 = h') xs.length ?_ ?_
      · refine ⟨1, by omega, by omega, by omega, rfl, ?_⟩
        simp (config := { maxSteps := 2000000 }) (disch := first | omega | (repeat first | assumption | exact Kept.refl _ | refine Kept.set' (by assumption) ?_ ?_ | refine Kept.set (by assumption) ?_ ?_ | omega)) only [go_sem, *, Nat.reduceLT, Nat.reduceAdd, Nat.reduceMul, Nat.reduceSub, Nat.reduceEqDiff, Nat.reduceLeDiff, Int.reduceToNat, Int.reduceLT, Int.reduceLE, Int.reduceEq, Int.reduceNe, Int.reduceAdd, Int.reduceSub, Int.reduceMul, Int.reduceNeg, ↓reduceIte, reduceCtorEq]
        all_goals simp
      · rintro t m h' n' ih ⟨i, hi1, hi2, rfl, hasc, m1, m2, m3, m4, e⟩
        subst e
        by_cases hlt : i < xs.length
        · obtain ⟨j, hj⟩ : ∃ j, j = i - 1 := ⟨_, rfl⟩
          have hL1 := isInts_at hT i hlt
          have hL2 := isInts_at hT j (by omega)
          have hji : (i : Int) - 1 = j := by omega
          have hi7 : (i : Int) < xs.length := by omega
          rw [asc_drop hlt, ← hj] at hasc
          clear hT hj
          repeat' first | simp (config := { maxSteps := 2000000 }) (disch := first | omega | (repeat first | assumption | exact Kept.refl _ | refine Kept.set' (by assumption) ?_ ?_ | refine Kept.set (by assumption) ?_ ?_ | omega)) only [go_sem, *, Try.results51, Nat.reduceLT, Nat.reduceAdd, Nat.reduceMul, Nat.reduceSub, Nat.reduceEqDiff, Nat.reduceLeDiff, Int.reduceToNat, Int.reduceLT, Int.reduceLE, Int.reduceEq, Int.reduceNe, Int.reduceAdd, Int.reduceSub, Int.reduceMul, Int.reduceNeg, ↓reduceIte, reduceCtorEq] | (apply EvG_ndec <;> intro _) | (apply EvC_ndec <;> intro _) | (apply EvG_dec <;> intro _) | (apply EvC_dec <;> intro _) | refine EvK_draw (id := 14) (L := [(0, 2), (1, 2), (0, 5), (1, 5), (2, 5), (3, 5), (4, 5), (0, 6), (1, 6), (2, 6), (3, 6), (4, 6), (0, 7), (1, 7), (2, 7), (3, 7), (4, 7), (5, 7), (6, 7), (0, 8), (1, 8), (2, 8), (3, 8), (4, 8), (5, 8), (6, 8), (0, 9), (1, 9), (2, 9), (3, 9), (4, 9), (0, 10), (1, 10), (2, 10), (3, 10), (4, 10)]) (by kernel_rfl) (by kernel_rfl) ?_ | (apply EvH_ndec <;> intro _) | (apply EvH_dec <;> intro _) | (apply EvC_nbool <;> intro _) | (apply EvC_bool <;> intro _) | (apply EvG_nbool <;> intro _) | (apply EvG_bool <;> intro _) | (apply EvH_nbool <;> intro _) | (apply EvH_bool <;> intro _)
          · exact ⟨by simp [errIf], hold2⟩
          · rename_i hle
            rw [if_neg hle] at hasc
            refine ih (xs.length + 1 - (i + 1)) _ _ _ (by omega) ⟨i + 1, by omega, by omega, by omega, by simpa using hasc, ?_⟩
            clear ih
            simp (config := { maxSteps := 2000000 }) (disch := first | omega | (repeat first | assumption | exact Kept.refl _ | refine Kept.set' (by assumption) ?_ ?_ | refine Kept.set (by assumption) ?_ ?_ | omega)) only [go_sem, *, Nat.reduceLT, Nat.reduceAdd, Nat.reduceMul, Nat.reduceSub, Nat.reduceEqDiff, Nat.reduceLeDiff, Int.reduceToNat, Int.reduceLT, Int.reduceLE, Int.reduceEq, Int.reduceNe, Int.reduceAdd, Int.reduceSub, Int.reduceMul, Int.reduceNeg, ↓reduceIte, reduceCtorEq]
            all_goals simp
        · have hi7 : ¬ (i : Int) < xs.length := by omega
          have hnil : xs.drop i = [] := List.drop_eq_nil_of_le (by omega)
          rw [hnil, asc] at hasc
          clear hT hnil
          repeat' first | simp (config := { maxSteps := 2000000 }) (disch := first | omega | (repeat first | assumption | exact Kept.refl _ | refine Kept.set' (by assumption) ?_ ?_ | refine Kept.set (by assumption) ?_ ?_ | omega)) only [go_sem, *, Try.results51, Nat.reduceLT, Nat.reduceAdd, Nat.reduceMul, Nat.reduceSub, Nat.reduceEqDiff, Nat.reduceLeDiff, Int.reduceToNat, Int.reduceLT, Int.reduceLE, Int.reduceEq, Int.reduceNe, Int.reduceAdd, Int.reduceSub, Int.reduceMul, Int.reduceNeg, ↓reduceIte, reduceCtorEq] | (apply EvG_ndec <;> intro _) | (apply EvC_ndec <;> intro _) | (apply EvG_dec <;> intro _) | (apply EvC_dec <;> intro _) | refine EvK_draw (id := 14) (L := [(0, 2), (1, 2), (0, 5), (1, 5), (2, 5), (3, 5), (4, 5), (0, 6), (1, 6), (2, 6), (3, 6), (4, 6), (0, 7), (1, 7), (2, 7), (3, 7), (4, 7), (5, 7), (6, 7), (0, 8), (1, 8), (2, 8), (3, 8), (4, 8), (5, 8), (6, 8), (0, 9), (1, 9), (2, 9), (3, 9), (4, 9), (0, 10), (1, 10), (2, 10), (3, 10), (4, 10)]) (by kernel_rfl) (by kernel_rfl) ?_ | (apply EvH_ndec <;> intro _) | (apply EvH_dec <;> intro _) | (apply EvC_nbool <;> intro _) | (apply EvC_bool <;> intro _) | (apply EvG_nbool <;> intro _) | (apply EvG_bool <;> intro _) | (apply EvH_nbool <;> intro _) | (apply EvH_bool <;> intro _)
          exact ⟨by simp [errIf], hold2⟩
  · obtain ⟨a, cap, rfl, hA⟩ := hs.len
    clear hs hA
    refine EvB_run (N := 76) Try.func51 rfl rfl fun z hP hO hro hN hQ => ?_
    repeat' first | simp (config := { maxSteps := 2000000 }) (disch := first | omega | (repeat first | assumption | exact Kept.refl _ | refine Kept.set' (by assumption) ?_ ?_ | refine Kept.set (by assumption) ?_ ?_ | omega)) only [go_sem, *, Try.results51, Nat.reduceLT, Nat.reduceAdd, Nat.reduceMul, Nat.reduceSub, Nat.reduceEqDiff, Nat.reduceLeDiff, Int.reduceToNat, Int.reduceLT, Int.reduceLE, Int.reduceEq, Int.reduceNe, Int.reduceAdd, Int.reduceSub, Int.reduceMul, Int.reduceNeg, ↓reduceIte, reduceCtorEq] | (apply EvG_ndec <;> intro _) | (apply EvC_ndec <;> intro _) | (apply EvG_dec <;> intro _) | (apply EvC_dec <;> intro _) | refine EvK_draw (id := 14) (L := [(0, 2), (1, 2), (0, 5), (1, 5), (2, 5), (3, 5), (4, 5), (0, 6), (1, 6), (2, 6), (3, 6), (4, 6), (0, 7), (1, 7), (2, 7), (3, 7), (4, 7), (5, 7), (6, 7), (0, 8), (1, 8), (2, 8), (3, 8), (4, 8), (5, 8), (6, 8), (0, 9), (1, 9), (2, 9), (3, 9), (4, 9), (0, 10), (1, 10), (2, 10), (3, 10), (4, 10)]) (by kernel_rfl) (by kernel_rfl) ?_ | (apply EvH_ndec <;> intro _) | (apply EvH_dec <;> intro _) | (apply EvC_nbool <;> intro _) | (apply EvC_bool <;> intro _) | (apply EvG_nbool <;> intro _) | (apply EvG_bool <;> intro _) | (apply EvH_nbool <;> intro _) | (apply EvH_bool <;> intro _)
    all_goals first | (exfalso; omega) | skip
    all_goals refine ⟨?_, fun i hi => by simp (disch := omega) only [heap_ne]⟩
    all_goals simp (config := { maxSteps := 2000000 }) (disch := first | omega | (repeat first | assumption | exact Kept.refl _ | refine Kept.set' (by assumption) ?_ ?_ | refine Kept.set (by assumption) ?_ ?_ | omega)) only [go_sem, *, errIf, domOk, Bool.false_eq_true, Nat.reduceLT, Nat.reduceAdd, Nat.reduceMul, Nat.reduceSub, Nat.reduceEqDiff, Nat.reduceLeDiff, Int.reduceToNat, Int.reduceLT, Int.reduceLE, Int.reduceEq, Int.reduceNe, Int.reduceAdd, Int.reduceSub, Int.reduceMul, Int.reduceNeg, ↓reduceIte, reduceCtorEq]
    all_goals rw [if_neg (fun hh => by simp only [Bool.and_eq_true, decide_eq_true_eq] at hh; omega)]
end Go.Proofs.Ytakfjoelpploeaa

set_option linter.unusedVariables false
namespace Go.Proofs.Ytakfjoelpploeaa
open Go.Am
theorem worksOrders : Try.prog.follows .mixedOrders = true := by kernel_rfl
theorem worksTrue : lawTrue Try.prog (tabO []) 200 35 = true := by kernel_rfl
theorem worksF : SoundF Try.prog 35 trueS := closedF (tab_sound .nil) worksOrders worksTrue
end Go.Proofs.Ytakfjoelpploeaa
