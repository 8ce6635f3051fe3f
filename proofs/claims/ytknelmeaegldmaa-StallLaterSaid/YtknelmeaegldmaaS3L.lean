/-
  A part of the proof: contracts of inner functions.
-/
import Derived.Test.YtknelmeaegldmaaS3G
import Derived.Test.YtknelmeaegldmaaS3J
set_option linter.unusedVariables false
set_option linter.unusedSimpArgs false
namespace Go.Proofs.Ytknelmeaegldmaa
open Go.Am

/-- The events of an argument. -/
def ArgEvs (h : PT ABlk) (s : Value) (E : List Ev) : Prop := (s = .slice none 0 0 ∧ E = []) ∨ ∃ b cap ro, s = .slice (some ⟨b, 0, none⟩) E.length cap ∧ E.length ≤ cap ∧ cap < 4611686018427387904 ∧ h.get b = some (.cells (PT.ofList .leaf 0 (evCs E)) ro)
theorem ArgEvs.keep {h h' : PT ABlk} {s : Value} {E : List Ev} (H : ArgEvs h s E) (k : Kept h h') : ArgEvs h' s E := by
  rcases H with H | ⟨b, cap, ro, e, e1, e2, q⟩
  · exact .inl H
  · exact .inr ⟨b, cap, ro, e, e1, e2, k _ _ q⟩
theorem evCs_take (E : List Ev) (n : Nat) : (evCs E).take (n * 4) = evCs (E.take n) := by
  rcases Nat.lt_or_ge E.length n with h | h
  · rw [List.take_of_length_le (by rw [evCs_length]; omega), List.take_of_length_le (by omega)]
  · have e1 : evCs E = evCs (E.take n) ++ evCs (E.drop n) := by
      unfold evCs
      rw [← List.flatMap_append, List.take_append_drop]
    have e2 : (evCs (E.take n)).length = n * 4 := by rw [evCs_length, List.length_take]; omega
    rw [e1, List.take_append_of_le_length (by omega), List.take_of_length_le (by omega)]
theorem copyB0 {O : Over} (h : PT ABlk) (N : Nat) : EvB Try.prog O 32 [.slice none 0 0] h N fun v h' n' => v = .slice none 0 0 ∧ h' = h ∧ n' = N := by
  refine EvB_run (N := 5) Try.func32 rfl rfl fun z hP hO hro hN hQ => ?_
  repeat' first | simp (config := { maxSteps := 2000000 }) (disch := first | omega | (repeat first | assumption | exact Kept.refl _ | refine Kept.set' (by assumption) ?_ ?_ | refine Kept.set (by assumption) ?_ ?_ | omega)) only [go_sem, *, Try.results32, apTo_none, Nat.reduceLT, Nat.reduceAdd, Nat.reduceMul, Nat.reduceSub, Nat.reduceEqDiff, Nat.reduceLeDiff, Int.reduceToNat, Int.reduceLT, Int.reduceLE, Int.reduceEq, Int.reduceNe, Int.reduceAdd, Int.reduceSub, Int.reduceMul, Int.reduceNeg, ↓reduceIte, reduceCtorEq] | (apply EvG_ndec <;> intro _) | (apply EvC_ndec <;> intro _) | (apply EvG_dec <;> intro _) | (apply EvC_dec <;> intro _) | fail | (apply EvH_ndec <;> intro _) | (apply EvH_dec <;> intro _) | (apply EvC_nbool <;> intro _) | (apply EvC_bool <;> intro _) | (apply EvG_nbool <;> intro _) | (apply EvG_bool <;> intro _) | (apply EvH_nbool <;> intro _) | (apply EvH_bool <;> intro _)
theorem copyB {O : Over} (E : List Ev) (n b cap : Nat) (ro : Bool) (hn : n ≤ E.length) (hn1 : n ≤ 80) (h : PT ABlk) (N : Nat) (hW : WfH h N) (hs : h.get b = some (.cells (PT.ofList .leaf 0 (evCs E)) ro)) :
    EvB Try.prog O 32 [.slice (some ⟨b, 0, none⟩) n cap] h N fun v h' n' => IsEvs h' v (E.take n) ∧ Kept h h' := by
  refine EvB_run (N := 5) Try.func32 rfl rfl fun z hP hO hro hN hQ => ?_
  cases n with
  | zero =>
    rw [List.take_zero] at hQ
    repeat' first | simp (config := { maxSteps := 2000000 }) (disch := first | omega | (repeat first | assumption | exact Kept.refl _ | refine Kept.set' (by assumption) ?_ ?_ | refine Kept.set (by assumption) ?_ ?_ | omega)) only [go_sem, *, Try.results32, apTo_none, Nat.reduceLT, Nat.reduceAdd, Nat.reduceMul, Nat.reduceSub, Nat.reduceEqDiff, Nat.reduceLeDiff, Int.reduceToNat, Int.reduceLT, Int.reduceLE, Int.reduceEq, Int.reduceNe, Int.reduceAdd, Int.reduceSub, Int.reduceMul, Int.reduceNeg, ↓reduceIte, reduceCtorEq] | (apply EvG_ndec <;> intro _) | (apply EvC_ndec <;> intro _) | (apply EvG_dec <;> intro _) | (apply EvC_dec <;> intro _) | fail | (apply EvH_ndec <;> intro _) | (apply EvH_dec <;> intro _) | (apply EvC_nbool <;> intro _) | (apply EvC_bool <;> intro _) | (apply EvG_nbool <;> intro _) | (apply EvG_bool <;> intro _) | (apply EvH_nbool <;> intro _) | (apply EvH_bool <;> intro _)
    exact ⟨.inl ⟨rfl, rfl⟩, Kept.refl _⟩
  | succ m =>
    have hk := evCs_take E (m + 1)
    have hl : (evCs (E.take (m + 1))).length = (m + 1) * 4 := by rw [evCs_length, List.length_take]; omega
    have hle : (E.take (m + 1)).length = m + 1 := by rw [List.length_take]; omega
    have hpl := evCs_length E
    have hb1 : Nat.ble ((m + 1) * 4) (E.length * 4) = true := Nat.ble_eq_true_of_le (by omega)
    have hb2 : Nat.ble (m + 1) 1048576 = true := Nat.ble_eq_true_of_le (by omega)
    have hb3 : Nat.beq ((m + 1) * 4) ((m + 1) * 4) = true := Nat.beq_refl _
    generalize E.take (m + 1) = T at *
    have key : ∀ h', h'.get N = some (.cells (PT.ofList .leaf 0 (evCs T)) false) → IsEvs h' (.slice (some ⟨N, 0, none⟩) (m + 1) (capInf + 4)) T := fun h' q => .inr ⟨N, _, by rw [hle], q⟩
    repeat' first | simp (config := { maxSteps := 2000000 }) (disch := first | omega | (repeat first | assumption | exact Kept.refl _ | refine Kept.set' (by assumption) ?_ ?_ | refine Kept.set (by assumption) ?_ ?_ | omega)) only [go_sem, *, Try.results32, apTo_none, Nat.reduceLT, Nat.reduceAdd, Nat.reduceMul, Nat.reduceSub, Nat.reduceEqDiff, Nat.reduceLeDiff, Int.reduceToNat, Int.reduceLT, Int.reduceLE, Int.reduceEq, Int.reduceNe, Int.reduceAdd, Int.reduceSub, Int.reduceMul, Int.reduceNeg, ↓reduceIte, reduceCtorEq] | (apply EvG_ndec <;> intro _) | (apply EvC_ndec <;> intro _) | (apply EvG_dec <;> intro _) | (apply EvC_dec <;> intro _) | fail | (apply EvH_ndec <;> intro _) | (apply EvH_dec <;> intro _) | (apply EvC_nbool <;> intro _) | (apply EvC_bool <;> intro _) | (apply EvG_nbool <;> intro _) | (apply EvG_bool <;> intro _) | (apply EvH_nbool <;> intro _) | (apply EvH_bool <;> intro _)
    exact ⟨key _ heap_same, hW.kept (Nat.le_refl _)⟩
theorem slV32_nil : slV Try.prog 32 (.slice none 0 0) none (some (.int .i64 0)) none = .pure (.value (.slice none 0 0)) := by
  kernel_rfl
theorem fewB {O : Over} (o32 : O 32 = fun _ => none) (E : List Ev) (s : Value) (h : PT ABlk) (N : Nat) (hW : WfH h N) (hs : ArgEvs h s E) :
    EvB Try.prog O 12 [s] h N fun v h' n' => IsEvs h' v (E.take 80) ∧ Kept h h' := by
  refine EvB_run (N := 9) Try.func12 rfl rfl fun z hP hO hro hN hQ => ?_
  rcases hs with ⟨rfl, rfl⟩ | ⟨b, cap, ro, rfl, hcap, hcl, hb⟩
  · rw [List.take_nil] at hQ
    repeat' first | simp (config := { maxSteps := 2000000 }) (disch := first | omega | (repeat first | assumption | exact Kept.refl _ | refine Kept.set' (by assumption) ?_ ?_ | refine Kept.set (by assumption) ?_ ?_ | omega)) only [go_sem, *, Try.results12, slV32_nil, Nat.reduceLT, Nat.reduceAdd, Nat.reduceMul, Nat.reduceSub, Nat.reduceEqDiff, Nat.reduceLeDiff, Int.reduceToNat, Int.reduceLT, Int.reduceLE, Int.reduceEq, Int.reduceNe, Int.reduceAdd, Int.reduceSub, Int.reduceMul, Int.reduceNeg, ↓reduceIte, reduceCtorEq] | (apply EvG_ndec <;> intro _) | (apply EvC_ndec <;> intro _) | (apply EvG_dec <;> intro _) | (apply EvC_dec <;> intro _) | fail | (apply EvH_ndec <;> intro _) | (apply EvH_dec <;> intro _) | (apply EvC_nbool <;> intro _) | (apply EvC_bool <;> intro _) | (apply EvG_nbool <;> intro _) | (apply EvG_bool <;> intro _) | (apply EvH_nbool <;> intro _) | (apply EvH_bool <;> intro _)
    refine EvQ_call ?_ ?_ (by rw [hP, hO]; exact copyB0 _ _) ?_
    · simp (config := { maxSteps := 2000000 }) (disch := first | omega | (repeat first | assumption | exact Kept.refl _ | refine Kept.set' (by assumption) ?_ ?_ | refine Kept.set (by assumption) ?_ ?_ | omega)) only [go_sem, *, Nat.reduceLT, Nat.reduceAdd, Nat.reduceMul, Nat.reduceSub, Nat.reduceEqDiff, Nat.reduceLeDiff, Int.reduceToNat, Int.reduceLT, Int.reduceLE, Int.reduceEq, Int.reduceNe, Int.reduceAdd, Int.reduceSub, Int.reduceMul, Int.reduceNeg, ↓reduceIte, reduceCtorEq]
    · simp (config := { maxSteps := 2000000 }) (disch := first | omega | (repeat first | assumption | exact Kept.refl _ | refine Kept.set' (by assumption) ?_ ?_ | refine Kept.set (by assumption) ?_ ?_ | omega)) only [go_sem, *, Nat.reduceLT, Nat.reduceAdd, Nat.reduceMul, Nat.reduceSub, Nat.reduceEqDiff, Nat.reduceLeDiff, Int.reduceToNat, Int.reduceLT, Int.reduceLE, Int.reduceEq, Int.reduceNe, Int.reduceAdd, Int.reduceSub, Int.reduceMul, Int.reduceNeg, ↓reduceIte, reduceCtorEq]
    rintro v h2 n2 ⟨rfl, rfl, rfl⟩
    repeat' first | simp (config := { maxSteps := 2000000 }) (disch := first | omega | (repeat first | assumption | exact Kept.refl _ | refine Kept.set' (by assumption) ?_ ?_ | refine Kept.set (by assumption) ?_ ?_ | omega)) only [go_sem, *, Try.results12, Nat.reduceLT, Nat.reduceAdd, Nat.reduceMul, Nat.reduceSub, Nat.reduceEqDiff, Nat.reduceLeDiff, Int.reduceToNat, Int.reduceLT, Int.reduceLE, Int.reduceEq, Int.reduceNe, Int.reduceAdd, Int.reduceSub, Int.reduceMul, Int.reduceNeg, ↓reduceIte, reduceCtorEq] | (apply EvG_ndec <;> intro _) | (apply EvC_ndec <;> intro _) | (apply EvG_dec <;> intro _) | (apply EvC_dec <;> intro _) | fail | (apply EvH_ndec <;> intro _) | (apply EvH_dec <;> intro _) | (apply EvC_nbool <;> intro _) | (apply EvC_bool <;> intro _) | (apply EvG_nbool <;> intro _) | (apply EvG_bool <;> intro _) | (apply EvH_nbool <;> intro _) | (apply EvH_bool <;> intro _)
    exact ⟨.inl ⟨rfl, rfl⟩, Kept.refl _⟩
  · by_cases h80 : 80 < E.length
    · have h80' : (80 : Int) < (E.length : Int) := by omega
      have hb1 : Nat.ble 80 cap = true := Nat.ble_eq_true_of_le (by omega)
      have hsl := fun (off : Nat) => @slK_cap0 b off 4 E.length cap 80 none hcl
      have hsl2 := hsl 0
      clear hsl
      repeat' first | simp (config := { maxSteps := 2000000 }) (disch := first | omega | (repeat first | assumption | exact Kept.refl _ | refine Kept.set' (by assumption) ?_ ?_ | refine Kept.set (by assumption) ?_ ?_ | omega)) only [go_sem, *, Try.results12, Bool.cond_self, Nat.reduceLT, Nat.reduceAdd, Nat.reduceMul, Nat.reduceSub, Nat.reduceEqDiff, Nat.reduceLeDiff, Int.reduceToNat, Int.reduceLT, Int.reduceLE, Int.reduceEq, Int.reduceNe, Int.reduceAdd, Int.reduceSub, Int.reduceMul, Int.reduceNeg, ↓reduceIte, reduceCtorEq] | (apply EvG_ndec <;> intro _) | (apply EvC_ndec <;> intro _) | (apply EvG_dec <;> intro _) | (apply EvC_dec <;> intro _) | fail | (apply EvH_ndec <;> intro _) | (apply EvH_dec <;> intro _) | (apply EvC_nbool <;> intro _) | (apply EvC_bool <;> intro _) | (apply EvG_nbool <;> intro _) | (apply EvG_bool <;> intro _) | (apply EvH_nbool <;> intro _) | (apply EvH_bool <;> intro _)
      refine EvQ_call ?_ ?_ (by rw [hP, hO]; exact copyB E 80 b cap ro (by omega) (by omega) _ _ hW hb) ?_
      · simp (config := { maxSteps := 2000000 }) (disch := first | omega | (repeat first | assumption | exact Kept.refl _ | refine Kept.set' (by assumption) ?_ ?_ | refine Kept.set (by assumption) ?_ ?_ | omega)) only [go_sem, *, Nat.reduceLT, Nat.reduceAdd, Nat.reduceMul, Nat.reduceSub, Nat.reduceEqDiff, Nat.reduceLeDiff, Int.reduceToNat, Int.reduceLT, Int.reduceLE, Int.reduceEq, Int.reduceNe, Int.reduceAdd, Int.reduceSub, Int.reduceMul, Int.reduceNeg, ↓reduceIte, reduceCtorEq]
      · simp (config := { maxSteps := 2000000 }) (disch := first | omega | (repeat first | assumption | exact Kept.refl _ | refine Kept.set' (by assumption) ?_ ?_ | refine Kept.set (by assumption) ?_ ?_ | omega)) only [go_sem, *, Nat.reduceLT, Nat.reduceAdd, Nat.reduceMul, Nat.reduceSub, Nat.reduceEqDiff, Nat.reduceLeDiff, Int.reduceToNat, Int.reduceLT, Int.reduceLE, Int.reduceEq, Int.reduceNe, Int.reduceAdd, Int.reduceSub, Int.reduceMul, Int.reduceNeg, ↓reduceIte, reduceCtorEq]
      rintro v h2 n2 ⟨q1, q2⟩
      repeat' first | simp (config := { maxSteps := 2000000 }) (disch := first | omega | (repeat first | assumption | exact Kept.refl _ | refine Kept.set' (by assumption) ?_ ?_ | refine Kept.set (by assumption) ?_ ?_ | omega)) only [go_sem, *, Try.results12, Nat.reduceLT, Nat.reduceAdd, Nat.reduceMul, Nat.reduceSub, Nat.reduceEqDiff, Nat.reduceLeDiff, Int.reduceToNat, Int.reduceLT, Int.reduceLE, Int.reduceEq, Int.reduceNe, Int.reduceAdd, Int.reduceSub, Int.reduceMul, Int.reduceNeg, ↓reduceIte, reduceCtorEq] | (apply EvG_ndec <;> intro _) | (apply EvC_ndec <;> intro _) | (apply EvG_dec <;> intro _) | (apply EvC_dec <;> intro _) | fail | (apply EvH_ndec <;> intro _) | (apply EvH_dec <;> intro _) | (apply EvC_nbool <;> intro _) | (apply EvC_bool <;> intro _) | (apply EvG_nbool <;> intro _) | (apply EvG_bool <;> intro _) | (apply EvH_nbool <;> intro _) | (apply EvH_bool <;> intro _)
    · have h80' : ¬ (80 : Int) < (E.length : Int) := by omega
      have hb1 : Nat.ble E.length cap = true := Nat.ble_eq_true_of_le (by omega)
      have hsl := fun (off : Nat) => @slK_cap0 b off 4 E.length cap E.length none hcl
      have hsl2 := hsl 0
      have htk : E.take 80 = E := List.take_of_length_le (by omega)
      rw [htk] at hQ
      clear hsl
      repeat' first | simp (config := { maxSteps := 2000000 }) (disch := first | omega | (repeat first | assumption | exact Kept.refl _ | refine Kept.set' (by assumption) ?_ ?_ | refine Kept.set (by assumption) ?_ ?_ | omega)) only [go_sem, *, Try.results12, Bool.cond_self, Nat.reduceLT, Nat.reduceAdd, Nat.reduceMul, Nat.reduceSub, Nat.reduceEqDiff, Nat.reduceLeDiff, Int.reduceToNat, Int.reduceLT, Int.reduceLE, Int.reduceEq, Int.reduceNe, Int.reduceAdd, Int.reduceSub, Int.reduceMul, Int.reduceNeg, ↓reduceIte, reduceCtorEq] | (apply EvG_ndec <;> intro _) | (apply EvC_ndec <;> intro _) | (apply EvG_dec <;> intro _) | (apply EvC_dec <;> intro _) | fail | (apply EvH_ndec <;> intro _) | (apply EvH_dec <;> intro _) | (apply EvC_nbool <;> intro _) | (apply EvC_bool <;> intro _) | (apply EvG_nbool <;> intro _) | (apply EvG_bool <;> intro _) | (apply EvH_nbool <;> intro _) | (apply EvH_bool <;> intro _)
      refine EvQ_call ?_ ?_ (by rw [hP, hO]; exact copyB E E.length b cap ro (Nat.le_refl _) (by omega) _ _ hW hb) ?_
      · simp (config := { maxSteps := 2000000 }) (disch := first | omega | (repeat first | assumption | exact Kept.refl _ | refine Kept.set' (by assumption) ?_ ?_ | refine Kept.set (by assumption) ?_ ?_ | omega)) only [go_sem, *, Nat.reduceLT, Nat.reduceAdd, Nat.reduceMul, Nat.reduceSub, Nat.reduceEqDiff, Nat.reduceLeDiff, Int.reduceToNat, Int.reduceLT, Int.reduceLE, Int.reduceEq, Int.reduceNe, Int.reduceAdd, Int.reduceSub, Int.reduceMul, Int.reduceNeg, ↓reduceIte, reduceCtorEq]
      · simp (config := { maxSteps := 2000000 }) (disch := first | omega | (repeat first | assumption | exact Kept.refl _ | refine Kept.set' (by assumption) ?_ ?_ | refine Kept.set (by assumption) ?_ ?_ | omega)) only [go_sem, *, Nat.reduceLT, Nat.reduceAdd, Nat.reduceMul, Nat.reduceSub, Nat.reduceEqDiff, Nat.reduceLeDiff, Int.reduceToNat, Int.reduceLT, Int.reduceLE, Int.reduceEq, Int.reduceNe, Int.reduceAdd, Int.reduceSub, Int.reduceMul, Int.reduceNeg, ↓reduceIte, reduceCtorEq]
      rintro v h2 n2 ⟨q1, q2⟩
      rw [List.take_length] at q1
      repeat' first | simp (config := { maxSteps := 2000000 }) (disch := first | omega | (repeat first | assumption | exact Kept.refl _ | refine Kept.set' (by assumption) ?_ ?_ | refine Kept.set (by assumption) ?_ ?_ | omega)) only [go_sem, *, Try.results12, Nat.reduceLT, Nat.reduceAdd, Nat.reduceMul, Nat.reduceSub, Nat.reduceEqDiff, Nat.reduceLeDiff, Int.reduceToNat, Int.reduceLT, Int.reduceLE, Int.reduceEq, Int.reduceNe, Int.reduceAdd, Int.reduceSub, Int.reduceMul, Int.reduceNeg, ↓reduceIte, reduceCtorEq] | (apply EvG_ndec <;> intro _) | (apply EvC_ndec <;> intro _) | (apply EvG_dec <;> intro _) | (apply EvC_dec <;> intro _) | fail | (apply EvH_ndec <;> intro _) | (apply EvH_dec <;> intro _) | (apply EvC_nbool <;> intro _) | (apply EvC_bool <;> intro _) | (apply EvG_nbool <;> intro _) | (apply EvG_bool <;> intro _) | (apply EvH_nbool <;> intro _) | (apply EvH_bool <;> intro _)
end Go.Proofs.Ytknelmeaegldmaa

set_option linter.unusedVariables false
set_option linter.unusedSimpArgs false
namespace Go.Proofs.Ytknelmeaegldmaa
open Go.Am

theorem filt_at {p : Sec → Bool} {A : List Sec} {i : Nat} (hi : i < A.length) : (A.drop i).filter p = if p A[i] = true then A[i] :: (A.drop (i + 1)).filter p else (A.drop (i + 1)).filter p := by
  rw [List.drop_eq_getElem_cons hi, List.filter_cons]
theorem blk_out {kd k step x1 x2 x3 d : Int} {A : List Sec} (h1 : ¬ d < 0) (h2 : d ≤ step) : blk kd k (x1, x2, x3, d) step A = [] := by
  unfold blk
  rw [if_pos ⟨by simp only; omega, h2⟩]
theorem blk_in {kd k step x1 x2 x3 d : Int} {A : List Sec} (h : d < 0 ∨ step < d) : blk kd k (x1, x2, x3, d) step A = (opn step A).filter (con kd k (x1, x2, x3, d)) := by
  unfold blk
  rw [if_neg (by simp only; omega)]
theorem opn_val {step : Int} {A : List Sec} {p : Int → Prop} (h : ∀ x ∈ A, p x.2.1) : ∀ x ∈ opn step A, p x.2.1 := by
  intro x hx
  unfold opn at hx
  obtain ⟨y, hy, rfl⟩ := List.mem_map.1 hx
  exact h y (List.mem_filter.1 hy).1
set_option maxRecDepth 100000 in
set_option maxHeartbeats 4000000 in
theorem blockersP {O : Over} (H : QuO O) (kd k wait step : Int) (E : List Ev) (s : Value) (hv : okVals E) (hn : E.length ≤ 100000) (h : PT ABlk) (N : Nat) (hW : WfH h N) (hs : IsEvs h s E) :
    EvB Try.prog O 15 [.int .u8 kd, .int .i64 k, .int .i64 wait, .int .i64 step, s] h N fun v h' n' => BlkV kd k wait step E v h' ∧ Kept h h' := by
  unfold BlkV
  have o33 := H.o33
  have o36 := H.o36
  have o27 := H.o27
  have o43 := H.o43
  refine EvB_run (N := 78) Try.func15 rfl rfl fun z hP hO hro hN hQ => ?_
  repeat' first | simp (config := { maxSteps := 2000000 }) (disch := first | omega | (repeat first | assumption | exact Kept.refl _ | refine Kept.set' (by assumption) ?_ ?_ | refine Kept.set (by assumption) ?_ ?_ | omega)) only [go_sem, *, Try.results15, Nat.reduceLT, Nat.reduceAdd, Nat.reduceMul, Nat.reduceSub, Nat.reduceEqDiff, Nat.reduceLeDiff, Int.reduceToNat, Int.reduceLT, Int.reduceLE, Int.reduceEq, Int.reduceNe, Int.reduceAdd, Int.reduceSub, Int.reduceMul, Int.reduceNeg, ↓reduceIte, reduceCtorEq] | (apply EvG_ndec <;> intro _) | (apply EvC_ndec <;> intro _) | (apply EvG_dec <;> intro _) | (apply EvC_dec <;> intro _) | fail | (apply EvH_ndec <;> intro _) | (apply EvH_dec <;> intro _) | (apply EvC_nbool <;> intro _) | (apply EvC_bool <;> intro _) | (apply EvG_nbool <;> intro _) | (apply EvG_bool <;> intro _) | (apply EvH_nbool <;> intro _) | (apply EvH_bool <;> intro _)
  refine EvQ_call ?_ ?_ (by rw [hP, hO]; exact (foundB H.toStO kd k wait step E _ hn _ _ hW hs).wf hW) ?_
  · simp (config := { maxSteps := 2000000 }) (disch := first | omega | (repeat first | assumption | exact Kept.refl _ | refine Kept.set' (by assumption) ?_ ?_ | refine Kept.set (by assumption) ?_ ?_ | omega)) only [go_sem, *, Nat.reduceLT, Nat.reduceAdd, Nat.reduceMul, Nat.reduceSub, Nat.reduceEqDiff, Nat.reduceLeDiff, Int.reduceToNat, Int.reduceLT, Int.reduceLE, Int.reduceEq, Int.reduceNe, Int.reduceAdd, Int.reduceSub, Int.reduceMul, Int.reduceNeg, ↓reduceIte, reduceCtorEq]
  · simp (config := { maxSteps := 2000000 }) (disch := first | omega | (repeat first | assumption | exact Kept.refl _ | refine Kept.set' (by assumption) ?_ ?_ | refine Kept.set (by assumption) ?_ ?_ | omega)) only [go_sem, *, Nat.reduceLT, Nat.reduceAdd, Nat.reduceMul, Nat.reduceSub, Nat.reduceEqDiff, Nat.reduceLeDiff, Int.reduceToNat, Int.reduceLT, Int.reduceLE, Int.reduceEq, Int.reduceNe, Int.reduceAdd, Int.reduceSub, Int.reduceMul, Int.reduceNeg, ↓reduceIte, reduceCtorEq]
  rintro v h2 n2 ⟨⟨hf, k2⟩, hn2, w2⟩
  rcases hf with ⟨hq, rfl⟩ | ⟨hq, sl, wl, rfl, hI, hJ⟩
  · unfold engC
    repeat' first | simp (config := { maxSteps := 2000000 }) (disch := first | omega | (repeat first | assumption | exact Kept.refl _ | refine Kept.set' (by assumption) ?_ ?_ | refine Kept.set (by assumption) ?_ ?_ | omega)) only [go_sem, *, Try.results15, Nat.reduceLT, Nat.reduceAdd, Nat.reduceMul, Nat.reduceSub, Nat.reduceEqDiff, Nat.reduceLeDiff, Int.reduceToNat, Int.reduceLT, Int.reduceLE, Int.reduceEq, Int.reduceNe, Int.reduceAdd, Int.reduceSub, Int.reduceMul, Int.reduceNeg, ↓reduceIte, reduceCtorEq] | (apply EvG_ndec <;> intro _) | (apply EvC_ndec <;> intro _) | (apply EvG_dec <;> intro _) | (apply EvC_dec <;> intro _) | fail | (apply EvH_ndec <;> intro _) | (apply EvH_dec <;> intro _) | (apply EvC_nbool <;> intro _) | (apply EvC_bool <;> intro _) | (apply EvG_nbool <;> intro _) | (apply EvG_bool <;> intro _) | (apply EvH_nbool <;> intro _) | (apply EvH_bool <;> intro _)
    exact Kept.set' hW (by omega) (Kept.set' hW (by omega) k2)
  · rw [hq] at hQ
    obtain ⟨hvl, hc, wn, hwl, rfl, hst⟩ := qerr_zero hq
    obtain ⟨kn, rfl⟩ := vld_nat hvl
    obtain ⟨sv, hsv, hsb⟩ := wait_nat hv (List.getElem_mem hwl)
    have hfr : 0 ≤ (refS 3 E)[wn].2.2.1 := refS_from (p := fun v => 0 ≤ v) (fun x hx => runs_nonneg E none T0 hc x hx) _ (List.getElem_mem hwl)
    rw [blkB_at hwl] at hQ
    have hA : ∀ x ∈ opn step (refS 1 E), ∃ v : Nat, x.2.1 = v ∧ v < 64 := opn_val (p := fun y => ∃ v : Nat, y = v ∧ v < 64) fun x hx => sec_nat hc hv hx
    obtain ⟨wa, wc, rfl, hrw⟩ := hJ.len
    clear hI hJ hv
    have hSl := refS_length 1 E
    generalize hWW : refS 3 E = W at *
    obtain ⟨wb, rfl, hwb⟩ := hrw wn hwl
    have hro4 := secCs_row hwl
    have hpl := secCs_length W
    obtain ⟨⟨x1, x2, x3, x4⟩, hx⟩ : ∃ x, W[wn] = x := ⟨_, rfl⟩
    rw [hx] at hro4 hQ hsv hst hfr
    simp only [secC] at hro4 hsv hst hfr
    subst hsv
    have hw' : ¬ (wn : Int) < 0 := by omega
    have hw3 : (wn : Int) < (W.length : Int) := by omega
    have hwbN := w2.lt hwb
    clear hx hrw
    unfold engC
    by_cases hd : x4 < 0 ∨ step < x4
    · rw [blk_in hd] at hQ
      have hst2 : ¬ step < -1 := by omega
      have hd3 : x4 < 0 ∨ (0 ≤ x4 ∧ ¬ x4 ≤ step) := by omega
      clear hst hfr hd
      rcases hd3 with hd | ⟨hd, hd3⟩
      · have hd0 : ¬ 0 ≤ x4 := by omega
        repeat' first | simp (config := { maxSteps := 2000000 }) (disch := first | omega | (repeat first | assumption | exact Kept.refl _ | refine Kept.set' (by assumption) ?_ ?_ | refine Kept.set (by assumption) ?_ ?_ | omega)) only [go_sem, *, Try.results15, Nat.reduceLT, Nat.reduceAdd, Nat.reduceMul, Nat.reduceSub, Nat.reduceEqDiff, Nat.reduceLeDiff, Int.reduceToNat, Int.reduceLT, Int.reduceLE, Int.reduceEq, Int.reduceNe, Int.reduceAdd, Int.reduceSub, Int.reduceMul, Int.reduceNeg, ↓reduceIte, reduceCtorEq] | (apply EvG_ndec <;> intro _) | (apply EvC_ndec <;> intro _) | (apply EvG_dec <;> intro _) | (apply EvC_dec <;> intro _) | fail | (apply EvH_ndec <;> intro _) | (apply EvH_dec <;> intro _) | (apply EvC_nbool <;> intro _) | (apply EvC_bool <;> intro _) | (apply EvG_nbool <;> intro _) | (apply EvG_bool <;> intro _) | (apply EvH_nbool <;> intro _) | (apply EvH_bool <;> intro _)
        generalize hh3 : PT.set (PT.set (PT.set (PT.set h2 n2 _) n2 _) (n2 + 1) _) (n2 + 1) _ = h3
        have e1 : h3.get n2 = some (.cells (PT.ofList .leaf 0 [.int .u8 kd, .int .i64 kn]) false) := by rw [← hh3]; simp (disch := omega) only [heap_ne, heap_same]
        have e2 : h3.get (n2 + 1) = some (.cells (PT.ofList .leaf 0 [.int .i64 x1, .int .u64 sv, .int .i64 x3, .int .i64 x4]) false) := by rw [← hh3]; exact heap_same
        have k3 : Kept h2 h3 := by rw [← hh3]; exact Kept.set' w2 (by omega) (Kept.set' w2 (by omega) (Kept.set' w2 (by omega) (w2.kept (Nat.le_refl _))))
        have w3 : WfH h3 (n2 + 2) := by rw [← hh3]; exact WfH.set' (by omega) (WfH.set' (by omega) (WfH.set' (by omega) (w2.set (by omega) (by omega))))
        clear hh3
        have k03 := k2.trans k3
        refine EvQ_call ?_ ?_ (by rw [hP, hO]; exact (openB H.toEvO E _ step hn _ _ w3 (hs.keep k03)).wf w3) ?_
        · simp (config := { maxSteps := 2000000 }) (disch := first | omega | (repeat first | assumption | exact Kept.refl _ | refine Kept.set' (by assumption) ?_ ?_ | refine Kept.set (by assumption) ?_ ?_ | omega)) only [go_sem, *, Nat.reduceLT, Nat.reduceAdd, Nat.reduceMul, Nat.reduceSub, Nat.reduceEqDiff, Nat.reduceLeDiff, Int.reduceToNat, Int.reduceLT, Int.reduceLE, Int.reduceEq, Int.reduceNe, Int.reduceAdd, Int.reduceSub, Int.reduceMul, Int.reduceNeg, ↓reduceIte, reduceCtorEq]
        · simp (config := { maxSteps := 2000000 }) (disch := first | omega | (repeat first | assumption | exact Kept.refl _ | refine Kept.set' (by assumption) ?_ ?_ | refine Kept.set (by assumption) ?_ ?_ | omega)) only [go_sem, *, Nat.reduceLT, Nat.reduceAdd, Nat.reduceMul, Nat.reduceSub, Nat.reduceEqDiff, Nat.reduceLeDiff, Int.reduceToNat, Int.reduceLT, Int.reduceLE, Int.reduceEq, Int.reduceNe, Int.reduceAdd, Int.reduceSub, Int.reduceMul, Int.reduceNeg, ↓reduceIte, reduceCtorEq]
        rintro v h4 n4 ⟨⟨ho, k4⟩, hn4, w4⟩
        unfold OpenV at ho
        rcases ho with ⟨hc', -⟩ | ⟨-, hlt, -⟩ | ⟨-, -, ol, rfl, hO4⟩
        · rw [hc] at hc'; cases hc'
        · exact absurd hlt hst2
        obtain ⟨oa, oc, rfl, hrow⟩ := hO4.len
        have hSo : (opn step (refS 1 E)).length ≤ 100000 := by
          have h1 := List.length_filter_le (opnP step) (refS 1 E)
          unfold opn
          rw [List.length_map]
          omega
        generalize opn step (refS 1 E) = A at *
        have f1 := k4 _ _ e1
        have f2 := k4 _ _ e2
        have k04 := k03.trans k4
        clear hs k2 e1 e2 k3 k03 k4 w3 hwb hO4 hq hc hSl hn w2 hst2 hwbN hro4 hpl hw3 hw' hwl
        repeat' first | simp (config := { maxSteps := 2000000 }) (disch := first | omega | (repeat first | assumption | exact Kept.refl _ | refine Kept.set' (by assumption) ?_ ?_ | refine Kept.set (by assumption) ?_ ?_ | omega)) only [go_sem, *, Try.results15, Nat.reduceLT, Nat.reduceAdd, Nat.reduceMul, Nat.reduceSub, Nat.reduceEqDiff, Nat.reduceLeDiff, Int.reduceToNat, Int.reduceLT, Int.reduceLE, Int.reduceEq, Int.reduceNe, Int.reduceAdd, Int.reduceSub, Int.reduceMul, Int.reduceNeg, ↓reduceIte, reduceCtorEq] | (apply EvG_ndec <;> intro _) | (apply EvC_ndec <;> intro _) | (apply EvG_dec <;> intro _) | (apply EvC_dec <;> intro _) | fail | (apply EvH_ndec <;> intro _) | (apply EvH_dec <;> intro _) | (apply EvC_nbool <;> intro _) | (apply EvC_bool <;> intro _) | (apply EvG_nbool <;> intro _) | (apply EvG_bool <;> intro _) | (apply EvH_nbool <;> intro _) | (apply EvH_bool <;> intro _)
        refine EvQ_call ?_ ?_ (by rw [hP, hO]; exact (conB H.o50 H.o41 H.o48 H.o49 H.o51 H.o58 kd kn sv hsb hvl _ _ w4).wf w4) ?_
        · simp (config := { maxSteps := 2000000 }) (disch := first | omega | (repeat first | assumption | exact Kept.refl _ | refine Kept.set' (by assumption) ?_ ?_ | refine Kept.set (by assumption) ?_ ?_ | omega)) only [go_sem, *, Nat.reduceLT, Nat.reduceAdd, Nat.reduceMul, Nat.reduceSub, Nat.reduceEqDiff, Nat.reduceLeDiff, Int.reduceToNat, Int.reduceLT, Int.reduceLE, Int.reduceEq, Int.reduceNe, Int.reduceAdd, Int.reduceSub, Int.reduceMul, Int.reduceNeg, ↓reduceIte, reduceCtorEq]
        · simp (config := { maxSteps := 2000000 }) (disch := first | omega | (repeat first | assumption | exact Kept.refl _ | refine Kept.set' (by assumption) ?_ ?_ | refine Kept.set (by assumption) ?_ ?_ | omega)) only [go_sem, *, Nat.reduceLT, Nat.reduceAdd, Nat.reduceMul, Nat.reduceSub, Nat.reduceEqDiff, Nat.reduceLeDiff, Int.reduceToNat, Int.reduceLT, Int.reduceLE, Int.reduceEq, Int.reduceNe, Int.reduceAdd, Int.reduceSub, Int.reduceMul, Int.reduceNeg, ↓reduceIte, reduceCtorEq]
        rintro r h5 n5 ⟨⟨b2, b3, b5, rr, cc, rfl, g1, g2, g3, g4, k5⟩, hn5, w5⟩
        have k05 := k04.trans k5
        have hrow' : ∀ i, i < A.length → ∃ b, oa = some ⟨b, 0, none⟩ ∧ h5.get b = some (.cells (PT.ofList .leaf 0 (secCs A)) false) := fun i hi => by
          obtain ⟨b, p1, p2⟩ := hrow i hi
          exact ⟨b, p1, k5 _ _ p2⟩
        have f3 := k5 _ _ f2
        have hNn : N ≤ n5 := by omega
        clear hn2 hn4 hn5 hrow f1 f2 k04 k5 w4
        obtain ⟨F, hF⟩ : ∃ q, A.filter (con kd kn (x1, sv, x3, x4)) = q := ⟨_, rfl⟩
        rw [hF] at hQ
        repeat' first | simp (config := { maxSteps := 2000000 }) (disch := first | omega | (repeat first | assumption | exact Kept.refl _ | refine Kept.set' (by assumption) ?_ ?_ | refine Kept.set (by assumption) ?_ ?_ | omega)) only [go_sem, *, Try.results15, Nat.reduceLT, Nat.reduceAdd, Nat.reduceMul, Nat.reduceSub, Nat.reduceEqDiff, Nat.reduceLeDiff, Int.reduceToNat, Int.reduceLT, Int.reduceLE, Int.reduceEq, Int.reduceNe, Int.reduceAdd, Int.reduceSub, Int.reduceMul, Int.reduceNeg, ↓reduceIte, reduceCtorEq] | (apply EvG_ndec <;> intro _) | (apply EvC_ndec <;> intro _) | (apply EvG_dec <;> intro _) | (apply EvC_dec <;> intro _) | fail | (apply EvH_ndec <;> intro _) | (apply EvH_dec <;> intro _) | (apply EvC_nbool <;> intro _) | (apply EvC_bool <;> intro _) | (apply EvG_nbool <;> intro _) | (apply EvG_bool <;> intro _) | (apply EvH_nbool <;> intro _) | (apply EvH_bool <;> intro _)
        refine ind_loop (fun t m h' n' => ∃ (i : Nat) (ov : Value) (S : List Sec), i ≤ A.length ∧ t = A.length - i ∧ m.n = 78 ∧ m.dfs = [] ∧ m.get 18 = .func (.func 43) ⟨[]⟩ ⟨[.pointer (some ⟨b2, 0, none⟩), .pointer (some ⟨b3, 0, none⟩), .pointer (some ⟨b5, 0, none⟩)]⟩ ∧ m.get 19 = ov ∧
          m.get 62 = .slice oa A.length oc ∧ m.get 63 = .int .i64 A.length ∧ m.get 64 = .int .i64 i ∧ WfH h' n' ∧ n5 ≤ n' ∧ Kept h5 h' ∧ OwnSecs n5 h' ov S ∧ S.length ≤ i ∧ S ++ (A.drop i).filter (con kd kn (x1, sv, x3, x4)) = F) A.length ?_ ?_
        · refine ⟨0, .slice none 0 0, [], by omega, by omega, ?_⟩
          have how : OwnSecs n5 h5 (.slice none 0 0) [] := .inl ⟨rfl, rfl⟩
          simp (config := { maxSteps := 2000000 }) (disch := first | omega | (repeat first | assumption | exact Kept.refl _ | refine Kept.set' (by assumption) ?_ ?_ | refine Kept.set (by assumption) ?_ ?_ | omega)) only [go_sem, *, Nat.reduceLT, Nat.reduceAdd, Nat.reduceMul, Nat.reduceSub, Nat.reduceEqDiff, Nat.reduceLeDiff, Int.reduceToNat, Int.reduceLT, Int.reduceLE, Int.reduceEq, Int.reduceNe, Int.reduceAdd, Int.reduceSub, Int.reduceMul, Int.reduceNeg, ↓reduceIte, reduceCtorEq]
          exact ⟨Nat.le_refl _, Kept.refl _⟩
        · clear hF
          rintro t m h' n' ih ⟨i, ov, S, hi, rfl, m1, m2, m3, m4, m5, m6, m7, q1, q2, q3, q4, q5, q6⟩
          rcases Nat.lt_or_ge i A.length with hlt | hge
          · have e7 : (i : Int) < A.length := by omega
            obtain ⟨b, rfl, hb0⟩ := hrow' i hlt
            rw [filt_at hlt] at q6
            have hb := q3 _ _ hb0
            have hbN := q1.lt hb
            have hplA : (secCs A).length = A.length * 4 := secCs_length A
            have hro4 := secCs_row hlt
            have hci : ((i + 1 : Nat) : Int) = (i : Int) + 1 := by omega
            obtain ⟨v, hv, hvb⟩ := hA A[i] (List.getElem_mem hlt)
            obtain ⟨⟨th, val, fr, to⟩, hx⟩ : ∃ x, A[i] = x := ⟨_, rfl⟩
            rw [hx] at hro4 q6 hv
            simp only [secC] at hro4 hv
            subst hv
            rw [con_nat] at q6
            have hS4 : (secCs S).length = S.length * 4 := secCs_length S
            clear hrow' hb0 hx hA hQ k05
            repeat' first | simp (config := { maxSteps := 2000000 }) (disch := first | omega | (repeat first | assumption | exact Kept.refl _ | refine Kept.set' (by assumption) ?_ ?_ | refine Kept.set (by assumption) ?_ ?_ | omega)) only [go_sem, *, Try.results15, Nat.reduceLT, Nat.reduceAdd, Nat.reduceMul, Nat.reduceSub, Nat.reduceEqDiff, Nat.reduceLeDiff, Int.reduceToNat, Int.reduceLT, Int.reduceLE, Int.reduceEq, Int.reduceNe, Int.reduceAdd, Int.reduceSub, Int.reduceMul, Int.reduceNeg, ↓reduceIte, reduceCtorEq] | (apply EvG_ndec <;> intro _) | (apply EvC_ndec <;> intro _) | (apply EvG_dec <;> intro _) | (apply EvC_dec <;> intro _) | fail | (apply EvH_ndec <;> intro _) | (apply EvH_dec <;> intro _) | (apply EvC_nbool <;> intro _) | (apply EvC_bool <;> intro _) | (apply EvG_nbool <;> intro _) | (apply EvG_bool <;> intro _) | (apply EvH_nbool <;> intro _) | (apply EvH_bool <;> intro _)
            generalize hh6 : PT.set (PT.set h' n' _) n' _ = h6
            have r6 : h6.get n' = some (.cells (PT.ofList .leaf 0 [.int .i64 th, .int .u64 v, .int .i64 fr, .int .i64 to]) false) := by rw [← hh6]; exact heap_same
            have k6 : Kept h5 h6 := by rw [← hh6]; exact Kept.set' w5 (by omega) (Kept.set' w5 (by omega) q3)
            have w6 : WfH h6 (n' + 1) := by rw [← hh6]; exact WfH.set' (by omega) (q1.set (by omega) (by omega))
            have o6 : (ov = .slice none 0 0 ∧ S = []) ∨ ∃ g, g < n' ∧ n5 ≤ g ∧ ov = .slice (some ⟨g, 0, none⟩) S.length (capInf + 4) ∧ h6.get g = some (.cells (PT.ofList .leaf 0 (secCs S)) false) := by
              rcases q4 with q | ⟨g, gg1, gg2, gg3⟩
              · exact .inl q
              · have := q1.lt gg3
                exact .inr ⟨g, this, gg1, gg2, by rw [← hh6]; simp (disch := omega) only [heap_ne]; exact gg3⟩
            have o7 : OwnSecs n5 h6 ov S := by
              rcases o6 with q | ⟨g, -, q⟩
              · exact .inl q
              · exact .inr ⟨g, q⟩
            clear hh6 q4 hb hbN q1 q3
            refine EvQ_call ?_ ?_ (by rw [hP, hO]; exact conClB kd kn sv v hsb hvb hvl b2 b3 b5 rr cc _ _ (k6 _ _ g1) (k6 _ _ g2) (k6 _ _ g3) fun e => k6 _ _ (g4 e)) ?_
            · simp (config := { maxSteps := 2000000 }) (disch := first | omega | (repeat first | assumption | exact Kept.refl _ | refine Kept.set' (by assumption) ?_ ?_ | refine Kept.set (by assumption) ?_ ?_ | omega)) only [go_sem, *, Nat.reduceLT, Nat.reduceAdd, Nat.reduceMul, Nat.reduceSub, Nat.reduceEqDiff, Nat.reduceLeDiff, Int.reduceToNat, Int.reduceLT, Int.reduceLE, Int.reduceEq, Int.reduceNe, Int.reduceAdd, Int.reduceSub, Int.reduceMul, Int.reduceNeg, ↓reduceIte, reduceCtorEq]
            · simp (config := { maxSteps := 2000000 }) (disch := first | omega | (repeat first | assumption | exact Kept.refl _ | refine Kept.set' (by assumption) ?_ ?_ | refine Kept.set (by assumption) ?_ ?_ | omega)) only [go_sem, *, Nat.reduceLT, Nat.reduceAdd, Nat.reduceMul, Nat.reduceSub, Nat.reduceEqDiff, Nat.reduceLeDiff, Int.reduceToNat, Int.reduceLT, Int.reduceLE, Int.reduceEq, Int.reduceNe, Int.reduceAdd, Int.reduceSub, Int.reduceMul, Int.reduceNeg, ↓reduceIte, reduceCtorEq]
            rintro r h7 n7 ⟨rfl, rfl, rfl⟩
            cases hcv : conV kd kn sv v with
            | false =>
              rw [hcv, if_neg (by simp)] at q6
              clear o6
              repeat' first | simp (config := { maxSteps := 2000000 }) (disch := first | omega | (repeat first | assumption | exact Kept.refl _ | refine Kept.set' (by assumption) ?_ ?_ | refine Kept.set (by assumption) ?_ ?_ | omega)) only [go_sem, *, Try.results15, Nat.reduceLT, Nat.reduceAdd, Nat.reduceMul, Nat.reduceSub, Nat.reduceEqDiff, Nat.reduceLeDiff, Int.reduceToNat, Int.reduceLT, Int.reduceLE, Int.reduceEq, Int.reduceNe, Int.reduceAdd, Int.reduceSub, Int.reduceMul, Int.reduceNeg, ↓reduceIte, reduceCtorEq] | (apply EvG_ndec <;> intro _) | (apply EvC_ndec <;> intro _) | (apply EvG_dec <;> intro _) | (apply EvC_dec <;> intro _) | fail | (apply EvH_ndec <;> intro _) | (apply EvH_dec <;> intro _) | (apply EvC_nbool <;> intro _) | (apply EvC_bool <;> intro _) | (apply EvG_nbool <;> intro _) | (apply EvG_bool <;> intro _) | (apply EvH_nbool <;> intro _) | (apply EvH_bool <;> intro _)
              refine ih (A.length - (i + 1)) _ _ _ (by omega) ⟨i + 1, ov, S, by omega, rfl, ?_⟩
              rw [hci]
              clear ih
              simp (config := { maxSteps := 2000000 }) (disch := first | omega | (repeat first | assumption | exact Kept.refl _ | refine Kept.set' (by assumption) ?_ ?_ | refine Kept.set (by assumption) ?_ ?_ | omega)) only [go_sem, *, Nat.reduceLT, Nat.reduceAdd, Nat.reduceMul, Nat.reduceSub, Nat.reduceEqDiff, Nat.reduceLeDiff, Int.reduceToNat, Int.reduceLT, Int.reduceLE, Int.reduceEq, Int.reduceNe, Int.reduceAdd, Int.reduceSub, Int.reduceMul, Int.reduceNeg, ↓reduceIte, reduceCtorEq]
              exact ⟨by omega, by omega⟩
            | true =>
              rw [hcv, if_pos rfl] at q6
              have hlen : (S ++ [(th, (v : Int), fr, to)]).length = S.length + 1 := by simp
              have q7 : (S ++ [(th, (v : Int), fr, to)]) ++ (A.drop (i + 1)).filter (con kd kn (x1, sv, x3, x4)) = F := by rw [List.append_assoc]; exact q6
              clear q6
              clear o7
              rcases o6 with ⟨rfl, rfl⟩ | ⟨g, hgn, hgN, rfl, hgr⟩
              · repeat' first | simp (config := { maxSteps := 2000000 }) (disch := first | omega | (repeat first | assumption | exact Kept.refl _ | refine Kept.set' (by assumption) ?_ ?_ | refine Kept.set (by assumption) ?_ ?_ | omega)) only [go_sem, *, Try.results15, Nat.reduceLT, Nat.reduceAdd, Nat.reduceMul, Nat.reduceSub, Nat.reduceEqDiff, Nat.reduceLeDiff, Int.reduceToNat, Int.reduceLT, Int.reduceLE, Int.reduceEq, Int.reduceNe, Int.reduceAdd, Int.reduceSub, Int.reduceMul, Int.reduceNeg, ↓reduceIte, reduceCtorEq] | (apply EvG_ndec <;> intro _) | (apply EvC_ndec <;> intro _) | (apply EvG_dec <;> intro _) | (apply EvC_dec <;> intro _) | fail | (apply EvH_ndec <;> intro _) | (apply EvH_dec <;> intro _) | (apply EvC_nbool <;> intro _) | (apply EvC_bool <;> intro _) | (apply EvG_nbool <;> intro _) | (apply EvG_bool <;> intro _) | (apply EvH_nbool <;> intro _) | (apply EvH_bool <;> intro _)
                refine ih (A.length - (i + 1)) _ _ _ (by omega) ⟨i + 1, .slice (some ⟨n' + 2, 0, none⟩) 1 (capInf + 4), [(th, (v : Int), fr, to)], by omega, rfl, ?_⟩
                rw [hci]
                clear ih
                simp (config := { maxSteps := 2000000 }) (disch := first | omega | (repeat first | assumption | exact Kept.refl _ | refine Kept.set' (by assumption) ?_ ?_ | refine Kept.set (by assumption) ?_ ?_ | omega)) only [go_sem, *, Nat.reduceLT, Nat.reduceAdd, Nat.reduceMul, Nat.reduceSub, Nat.reduceEqDiff, Nat.reduceLeDiff, Int.reduceToNat, Int.reduceLT, Int.reduceLE, Int.reduceEq, Int.reduceNe, Int.reduceAdd, Int.reduceSub, Int.reduceMul, Int.reduceNeg, ↓reduceIte, reduceCtorEq]
                refine ⟨WfH.set' (by omega) (w6.set (by omega) (by omega)), by omega, Kept.set' w5 (by omega) (Kept.set' w5 (by omega) k6), .inr ⟨n' + 2, by omega, rfl, heap_same⟩, q7⟩
              · have htk : (secCs S).take (S.length * 4) = secCs S := by rw [← hS4]; exact List.take_length
                have hbq : (S.length * 4).beq (S.length * 4) = true := Nat.beq_refl _
                have hble : (S.length + 1).ble 1048576 = true := Nat.ble_eq_true_of_le (by omega)
                have hsn : secCs S ++ [.int .i64 th, .int .u64 v, .int .i64 fr, .int .i64 to] = secCs (S ++ [(th, (v : Int), fr, to)]) := (secCs_snoc S (th, (v : Int), fr, to)).symm
                have hrn : n' ≠ g := fun e => by omega
                repeat' first | simp (config := { maxSteps := 2000000 }) (disch := first | omega | (repeat first | assumption | exact Kept.refl _ | refine Kept.set' (by assumption) ?_ ?_ | refine Kept.set (by assumption) ?_ ?_ | omega)) only [go_sem, *, Try.results15, Nat.reduceLT, Nat.reduceAdd, Nat.reduceMul, Nat.reduceSub, Nat.reduceEqDiff, Nat.reduceLeDiff, Int.reduceToNat, Int.reduceLT, Int.reduceLE, Int.reduceEq, Int.reduceNe, Int.reduceAdd, Int.reduceSub, Int.reduceMul, Int.reduceNeg, ↓reduceIte, reduceCtorEq] | (apply EvG_ndec <;> intro _) | (apply EvC_ndec <;> intro _) | (apply EvG_dec <;> intro _) | (apply EvC_dec <;> intro _) | fail | (apply EvH_ndec <;> intro _) | (apply EvH_dec <;> intro _) | (apply EvC_nbool <;> intro _) | (apply EvC_bool <;> intro _) | (apply EvG_nbool <;> intro _) | (apply EvG_bool <;> intro _) | (apply EvH_nbool <;> intro _) | (apply EvH_bool <;> intro _)
                refine ih (A.length - (i + 1)) _ _ _ (by omega) ⟨i + 1, .slice (some ⟨n' + 2, 0, none⟩) (S.length + 1) (capInf + 4), S ++ [(th, (v : Int), fr, to)], by omega, rfl, ?_⟩
                rw [hci]
                clear ih
                simp (config := { maxSteps := 2000000 }) (disch := first | omega | (repeat first | assumption | exact Kept.refl _ | refine Kept.set' (by assumption) ?_ ?_ | refine Kept.set (by assumption) ?_ ?_ | omega)) only [go_sem, *, Nat.reduceLT, Nat.reduceAdd, Nat.reduceMul, Nat.reduceSub, Nat.reduceEqDiff, Nat.reduceLeDiff, Int.reduceToNat, Int.reduceLT, Int.reduceLE, Int.reduceEq, Int.reduceNe, Int.reduceAdd, Int.reduceSub, Int.reduceMul, Int.reduceNeg, ↓reduceIte, reduceCtorEq]
                refine ⟨WfH.set' (by omega) (WfH.set' (by omega) (w6.set (by omega) (by omega))), by omega, Kept.set' w5 (by omega) (Kept.set' w5 (by omega) (Kept.set' w5 (by omega) k6)), .inr ⟨n' + 2, by omega, by rw [hlen], heap_same⟩⟩
          · have e7 : ¬ (i : Int) < A.length := by omega
            obtain rfl : i = A.length := by omega
            rw [List.drop_length] at q6
            have q7 : S = F := by rw [← q6]; simp
            subst q7
            have k9 := k05.trans q3
            clear ih hrow' hA q6
            repeat' first | simp (config := { maxSteps := 2000000 }) (disch := first | omega | (repeat first | assumption | exact Kept.refl _ | refine Kept.set' (by assumption) ?_ ?_ | refine Kept.set (by assumption) ?_ ?_ | omega)) only [go_sem, *, Try.results15, Nat.reduceLT, Nat.reduceAdd, Nat.reduceMul, Nat.reduceSub, Nat.reduceEqDiff, Nat.reduceLeDiff, Int.reduceToNat, Int.reduceLT, Int.reduceLE, Int.reduceEq, Int.reduceNe, Int.reduceAdd, Int.reduceSub, Int.reduceMul, Int.reduceNeg, ↓reduceIte, reduceCtorEq] | (apply EvG_ndec <;> intro _) | (apply EvC_ndec <;> intro _) | (apply EvG_dec <;> intro _) | (apply EvC_dec <;> intro _) | fail | (apply EvH_ndec <;> intro _) | (apply EvH_dec <;> intro _) | (apply EvC_nbool <;> intro _) | (apply EvC_bool <;> intro _) | (apply EvG_nbool <;> intro _) | (apply EvG_bool <;> intro _) | (apply EvH_nbool <;> intro _) | (apply EvH_bool <;> intro _)
            exact ⟨_, rfl, q4.is⟩
      · repeat' first | simp (config := { maxSteps := 2000000 }) (disch := first | omega | (repeat first | assumption | exact Kept.refl _ | refine Kept.set' (by assumption) ?_ ?_ | refine Kept.set (by assumption) ?_ ?_ | omega)) only [go_sem, *, Try.results15, Nat.reduceLT, Nat.reduceAdd, Nat.reduceMul, Nat.reduceSub, Nat.reduceEqDiff, Nat.reduceLeDiff, Int.reduceToNat, Int.reduceLT, Int.reduceLE, Int.reduceEq, Int.reduceNe, Int.reduceAdd, Int.reduceSub, Int.reduceMul, Int.reduceNeg, ↓reduceIte, reduceCtorEq] | (apply EvG_ndec <;> intro _) | (apply EvC_ndec <;> intro _) | (apply EvG_dec <;> intro _) | (apply EvC_dec <;> intro _) | fail | (apply EvH_ndec <;> intro _) | (apply EvH_dec <;> intro _) | (apply EvC_nbool <;> intro _) | (apply EvC_bool <;> intro _) | (apply EvG_nbool <;> intro _) | (apply EvG_bool <;> intro _) | (apply EvH_nbool <;> intro _) | (apply EvH_bool <;> intro _)
        generalize hh3 : PT.set (PT.set (PT.set (PT.set h2 n2 _) n2 _) (n2 + 1) _) (n2 + 1) _ = h3
        have e1 : h3.get n2 = some (.cells (PT.ofList .leaf 0 [.int .u8 kd, .int .i64 kn]) false) := by rw [← hh3]; simp (disch := omega) only [heap_ne, heap_same]
        have e2 : h3.get (n2 + 1) = some (.cells (PT.ofList .leaf 0 [.int .i64 x1, .int .u64 sv, .int .i64 x3, .int .i64 x4]) false) := by rw [← hh3]; exact heap_same
        have k3 : Kept h2 h3 := by rw [← hh3]; exact Kept.set' w2 (by omega) (Kept.set' w2 (by omega) (Kept.set' w2 (by omega) (w2.kept (Nat.le_refl _))))
        have w3 : WfH h3 (n2 + 2) := by rw [← hh3]; exact WfH.set' (by omega) (WfH.set' (by omega) (WfH.set' (by omega) (w2.set (by omega) (by omega))))
        clear hh3
        have k03 := k2.trans k3
        refine EvQ_call ?_ ?_ (by rw [hP, hO]; exact (openB H.toEvO E _ step hn _ _ w3 (hs.keep k03)).wf w3) ?_
        · simp (config := { maxSteps := 2000000 }) (disch := first | omega | (repeat first | assumption | exact Kept.refl _ | refine Kept.set' (by assumption) ?_ ?_ | refine Kept.set (by assumption) ?_ ?_ | omega)) only [go_sem, *, Nat.reduceLT, Nat.reduceAdd, Nat.reduceMul, Nat.reduceSub, Nat.reduceEqDiff, Nat.reduceLeDiff, Int.reduceToNat, Int.reduceLT, Int.reduceLE, Int.reduceEq, Int.reduceNe, Int.reduceAdd, Int.reduceSub, Int.reduceMul, Int.reduceNeg, ↓reduceIte, reduceCtorEq]
        · simp (config := { maxSteps := 2000000 }) (disch := first | omega | (repeat first | assumption | exact Kept.refl _ | refine Kept.set' (by assumption) ?_ ?_ | refine Kept.set (by assumption) ?_ ?_ | omega)) only [go_sem, *, Nat.reduceLT, Nat.reduceAdd, Nat.reduceMul, Nat.reduceSub, Nat.reduceEqDiff, Nat.reduceLeDiff, Int.reduceToNat, Int.reduceLT, Int.reduceLE, Int.reduceEq, Int.reduceNe, Int.reduceAdd, Int.reduceSub, Int.reduceMul, Int.reduceNeg, ↓reduceIte, reduceCtorEq]
        rintro v h4 n4 ⟨⟨ho, k4⟩, hn4, w4⟩
        unfold OpenV at ho
        rcases ho with ⟨hc', -⟩ | ⟨-, hlt, -⟩ | ⟨-, -, ol, rfl, hO4⟩
        · rw [hc] at hc'; cases hc'
        · exact absurd hlt hst2
        obtain ⟨oa, oc, rfl, hrow⟩ := hO4.len
        have hSo : (opn step (refS 1 E)).length ≤ 100000 := by
          have h1 := List.length_filter_le (opnP step) (refS 1 E)
          unfold opn
          rw [List.length_map]
          omega
        generalize opn step (refS 1 E) = A at *
        have f1 := k4 _ _ e1
        have f2 := k4 _ _ e2
        have k04 := k03.trans k4
        clear hs k2 e1 e2 k3 k03 k4 w3 hwb hO4 hq hc hSl hn w2 hst2 hwbN hro4 hpl hw3 hw' hwl
        repeat' first | simp (config := { maxSteps := 2000000 }) (disch := first | omega | (repeat first | assumption | exact Kept.refl _ | refine Kept.set' (by assumption) ?_ ?_ | refine Kept.set (by assumption) ?_ ?_ | omega)) only [go_sem, *, Try.results15, Nat.reduceLT, Nat.reduceAdd, Nat.reduceMul, Nat.reduceSub, Nat.reduceEqDiff, Nat.reduceLeDiff, Int.reduceToNat, Int.reduceLT, Int.reduceLE, Int.reduceEq, Int.reduceNe, Int.reduceAdd, Int.reduceSub, Int.reduceMul, Int.reduceNeg, ↓reduceIte, reduceCtorEq] | (apply EvG_ndec <;> intro _) | (apply EvC_ndec <;> intro _) | (apply EvG_dec <;> intro _) | (apply EvC_dec <;> intro _) | fail | (apply EvH_ndec <;> intro _) | (apply EvH_dec <;> intro _) | (apply EvC_nbool <;> intro _) | (apply EvC_bool <;> intro _) | (apply EvG_nbool <;> intro _) | (apply EvG_bool <;> intro _) | (apply EvH_nbool <;> intro _) | (apply EvH_bool <;> intro _)
        refine EvQ_call ?_ ?_ (by rw [hP, hO]; exact (conB H.o50 H.o41 H.o48 H.o49 H.o51 H.o58 kd kn sv hsb hvl _ _ w4).wf w4) ?_
        · simp (config := { maxSteps := 2000000 }) (disch := first | omega | (repeat first | assumption | exact Kept.refl _ | refine Kept.set' (by assumption) ?_ ?_ | refine Kept.set (by assumption) ?_ ?_ | omega)) only [go_sem, *, Nat.reduceLT, Nat.reduceAdd, Nat.reduceMul, Nat.reduceSub, Nat.reduceEqDiff, Nat.reduceLeDiff, Int.reduceToNat, Int.reduceLT, Int.reduceLE, Int.reduceEq, Int.reduceNe, Int.reduceAdd, Int.reduceSub, Int.reduceMul, Int.reduceNeg, ↓reduceIte, reduceCtorEq]
        · simp (config := { maxSteps := 2000000 }) (disch := first | omega | (repeat first | assumption | exact Kept.refl _ | refine Kept.set' (by assumption) ?_ ?_ | refine Kept.set (by assumption) ?_ ?_ | omega)) only [go_sem, *, Nat.reduceLT, Nat.reduceAdd, Nat.reduceMul, Nat.reduceSub, Nat.reduceEqDiff, Nat.reduceLeDiff, Int.reduceToNat, Int.reduceLT, Int.reduceLE, Int.reduceEq, Int.reduceNe, Int.reduceAdd, Int.reduceSub, Int.reduceMul, Int.reduceNeg, ↓reduceIte, reduceCtorEq]
        rintro r h5 n5 ⟨⟨b2, b3, b5, rr, cc, rfl, g1, g2, g3, g4, k5⟩, hn5, w5⟩
        have k05 := k04.trans k5
        have hrow' : ∀ i, i < A.length → ∃ b, oa = some ⟨b, 0, none⟩ ∧ h5.get b = some (.cells (PT.ofList .leaf 0 (secCs A)) false) := fun i hi => by
          obtain ⟨b, p1, p2⟩ := hrow i hi
          exact ⟨b, p1, k5 _ _ p2⟩
        have f3 := k5 _ _ f2
        have hNn : N ≤ n5 := by omega
        clear hn2 hn4 hn5 hrow f1 f2 k04 k5 w4
        obtain ⟨F, hF⟩ : ∃ q, A.filter (con kd kn (x1, sv, x3, x4)) = q := ⟨_, rfl⟩
        rw [hF] at hQ
        repeat' first | simp (config := { maxSteps := 2000000 }) (disch := first | omega | (repeat first | assumption | exact Kept.refl _ | refine Kept.set' (by assumption) ?_ ?_ | refine Kept.set (by assumption) ?_ ?_ | omega)) only [go_sem, *, Try.results15, Nat.reduceLT, Nat.reduceAdd, Nat.reduceMul, Nat.reduceSub, Nat.reduceEqDiff, Nat.reduceLeDiff, Int.reduceToNat, Int.reduceLT, Int.reduceLE, Int.reduceEq, Int.reduceNe, Int.reduceAdd, Int.reduceSub, Int.reduceMul, Int.reduceNeg, ↓reduceIte, reduceCtorEq] | (apply EvG_ndec <;> intro _) | (apply EvC_ndec <;> intro _) | (apply EvG_dec <;> intro _) | (apply EvC_dec <;> intro _) | fail | (apply EvH_ndec <;> intro _) | (apply EvH_dec <;> intro _) | (apply EvC_nbool <;> intro _) | (apply EvC_bool <;> intro _) | (apply EvG_nbool <;> intro _) | (apply EvG_bool <;> intro _) | (apply EvH_nbool <;> intro _) | (apply EvH_bool <;> intro _)
        refine ind_loop (fun t m h' n' => ∃ (i : Nat) (ov : Value) (S : List Sec), i ≤ A.length ∧ t = A.length - i ∧ m.n = 78 ∧ m.dfs = [] ∧ m.get 18 = .func (.func 43) ⟨[]⟩ ⟨[.pointer (some ⟨b2, 0, none⟩), .pointer (some ⟨b3, 0, none⟩), .pointer (some ⟨b5, 0, none⟩)]⟩ ∧ m.get 19 = ov ∧
          m.get 62 = .slice oa A.length oc ∧ m.get 63 = .int .i64 A.length ∧ m.get 64 = .int .i64 i ∧ WfH h' n' ∧ n5 ≤ n' ∧ Kept h5 h' ∧ OwnSecs n5 h' ov S ∧ S.length ≤ i ∧ S ++ (A.drop i).filter (con kd kn (x1, sv, x3, x4)) = F) A.length ?_ ?_
        · refine ⟨0, .slice none 0 0, [], by omega, by omega, ?_⟩
          have how : OwnSecs n5 h5 (.slice none 0 0) [] := .inl ⟨rfl, rfl⟩
          simp (config := { maxSteps := 2000000 }) (disch := first | omega | (repeat first | assumption | exact Kept.refl _ | refine Kept.set' (by assumption) ?_ ?_ | refine Kept.set (by assumption) ?_ ?_ | omega)) only [go_sem, *, Nat.reduceLT, Nat.reduceAdd, Nat.reduceMul, Nat.reduceSub, Nat.reduceEqDiff, Nat.reduceLeDiff, Int.reduceToNat, Int.reduceLT, Int.reduceLE, Int.reduceEq, Int.reduceNe, Int.reduceAdd, Int.reduceSub, Int.reduceMul, Int.reduceNeg, ↓reduceIte, reduceCtorEq]
          exact ⟨Nat.le_refl _, Kept.refl _⟩
        · clear hF
          rintro t m h' n' ih ⟨i, ov, S, hi, rfl, m1, m2, m3, m4, m5, m6, m7, q1, q2, q3, q4, q5, q6⟩
          rcases Nat.lt_or_ge i A.length with hlt | hge
          · have e7 : (i : Int) < A.length := by omega
            obtain ⟨b, rfl, hb0⟩ := hrow' i hlt
            rw [filt_at hlt] at q6
            have hb := q3 _ _ hb0
            have hbN := q1.lt hb
            have hplA : (secCs A).length = A.length * 4 := secCs_length A
            have hro4 := secCs_row hlt
            have hci : ((i + 1 : Nat) : Int) = (i : Int) + 1 := by omega
            obtain ⟨v, hv, hvb⟩ := hA A[i] (List.getElem_mem hlt)
            obtain ⟨⟨th, val, fr, to⟩, hx⟩ : ∃ x, A[i] = x := ⟨_, rfl⟩
            rw [hx] at hro4 q6 hv
            simp only [secC] at hro4 hv
            subst hv
            rw [con_nat] at q6
            have hS4 : (secCs S).length = S.length * 4 := secCs_length S
            clear hrow' hb0 hx hA hQ k05
            repeat' first | simp (config := { maxSteps := 2000000 }) (disch := first | omega | (repeat first | assumption | exact Kept.refl _ | refine Kept.set' (by assumption) ?_ ?_ | refine Kept.set (by assumption) ?_ ?_ | omega)) only [go_sem, *, Try.results15, Nat.reduceLT, Nat.reduceAdd, Nat.reduceMul, Nat.reduceSub, Nat.reduceEqDiff, Nat.reduceLeDiff, Int.reduceToNat, Int.reduceLT, Int.reduceLE, Int.reduceEq, Int.reduceNe, Int.reduceAdd, Int.reduceSub, Int.reduceMul, Int.reduceNeg, ↓reduceIte, reduceCtorEq] | (apply EvG_ndec <;> intro _) | (apply EvC_ndec <;> intro _) | (apply EvG_dec <;> intro _) | (apply EvC_dec <;> intro _) | fail | (apply EvH_ndec <;> intro _) | (apply EvH_dec <;> intro _) | (apply EvC_nbool <;> intro _) | (apply EvC_bool <;> intro _) | (apply EvG_nbool <;> intro _) | (apply EvG_bool <;> intro _) | (apply EvH_nbool <;> intro _) | (apply EvH_bool <;> intro _)
            generalize hh6 : PT.set (PT.set h' n' _) n' _ = h6
            have r6 : h6.get n' = some (.cells (PT.ofList .leaf 0 [.int .i64 th, .int .u64 v, .int .i64 fr, .int .i64 to]) false) := by rw [← hh6]; exact heap_same
            have k6 : Kept h5 h6 := by rw [← hh6]; exact Kept.set' w5 (by omega) (Kept.set' w5 (by omega) q3)
            have w6 : WfH h6 (n' + 1) := by rw [← hh6]; exact WfH.set' (by omega) (q1.set (by omega) (by omega))
            have o6 : (ov = .slice none 0 0 ∧ S = []) ∨ ∃ g, g < n' ∧ n5 ≤ g ∧ ov = .slice (some ⟨g, 0, none⟩) S.length (capInf + 4) ∧ h6.get g = some (.cells (PT.ofList .leaf 0 (secCs S)) false) := by
              rcases q4 with q | ⟨g, gg1, gg2, gg3⟩
              · exact .inl q
              · have := q1.lt gg3
                exact .inr ⟨g, this, gg1, gg2, by rw [← hh6]; simp (disch := omega) only [heap_ne]; exact gg3⟩
            have o7 : OwnSecs n5 h6 ov S := by
              rcases o6 with q | ⟨g, -, q⟩
              · exact .inl q
              · exact .inr ⟨g, q⟩
            clear hh6 q4 hb hbN q1 q3
            refine EvQ_call ?_ ?_ (by rw [hP, hO]; exact conClB kd kn sv v hsb hvb hvl b2 b3 b5 rr cc _ _ (k6 _ _ g1) (k6 _ _ g2) (k6 _ _ g3) fun e => k6 _ _ (g4 e)) ?_
            · simp (config := { maxSteps := 2000000 }) (disch := first | omega | (repeat first | assumption | exact Kept.refl _ | refine Kept.set' (by assumption) ?_ ?_ | refine Kept.set (by assumption) ?_ ?_ | omega)) only [go_sem, *, Nat.reduceLT, Nat.reduceAdd, Nat.reduceMul, Nat.reduceSub, Nat.reduceEqDiff, Nat.reduceLeDiff, Int.reduceToNat, Int.reduceLT, Int.reduceLE, Int.reduceEq, Int.reduceNe, Int.reduceAdd, Int.reduceSub, Int.reduceMul, Int.reduceNeg, ↓reduceIte, reduceCtorEq]
            · simp (config := { maxSteps := 2000000 }) (disch := first | omega | (repeat first | assumption | exact Kept.refl _ | refine Kept.set' (by assumption) ?_ ?_ | refine Kept.set (by assumption) ?_ ?_ | omega)) only [go_sem, *, Nat.reduceLT, Nat.reduceAdd, Nat.reduceMul, Nat.reduceSub, Nat.reduceEqDiff, Nat.reduceLeDiff, Int.reduceToNat, Int.reduceLT, Int.reduceLE, Int.reduceEq, Int.reduceNe, Int.reduceAdd, Int.reduceSub, Int.reduceMul, Int.reduceNeg, ↓reduceIte, reduceCtorEq]
            rintro r h7 n7 ⟨rfl, rfl, rfl⟩
            cases hcv : conV kd kn sv v with
            | false =>
              rw [hcv, if_neg (by simp)] at q6
              clear o6
              repeat' first | simp (config := { maxSteps := 2000000 }) (disch := first | omega | (repeat first | assumption | exact Kept.refl _ | refine Kept.set' (by assumption) ?_ ?_ | refine Kept.set (by assumption) ?_ ?_ | omega)) only [go_sem, *, Try.results15, Nat.reduceLT, Nat.reduceAdd, Nat.reduceMul, Nat.reduceSub, Nat.reduceEqDiff, Nat.reduceLeDiff, Int.reduceToNat, Int.reduceLT, Int.reduceLE, Int.reduceEq, Int.reduceNe, Int.reduceAdd, Int.reduceSub, Int.reduceMul, Int.reduceNeg, ↓reduceIte, reduceCtorEq] | (apply EvG_ndec <;> intro _) | (apply EvC_ndec <;> intro _) | (apply EvG_dec <;> intro _) | (apply EvC_dec <;> intro _) | fail | (apply EvH_ndec <;> intro _) | (apply EvH_dec <;> intro _) | (apply EvC_nbool <;> intro _) | (apply EvC_bool <;> intro _) | (apply EvG_nbool <;> intro _) | (apply EvG_bool <;> intro _) | (apply EvH_nbool <;> intro _) | (apply EvH_bool <;> intro _)
              refine ih (A.length - (i + 1)) _ _ _ (by omega) ⟨i + 1, ov, S, by omega, rfl, ?_⟩
              rw [hci]
              clear ih
              simp (config := { maxSteps := 2000000 }) (disch := first | omega | (repeat first | assumption | exact Kept.refl _ | refine Kept.set' (by assumption) ?_ ?_ | refine Kept.set (by assumption) ?_ ?_ | omega)) only [go_sem, *, Nat.reduceLT, Nat.reduceAdd, Nat.reduceMul, Nat.reduceSub, Nat.reduceEqDiff, Nat.reduceLeDiff, Int.reduceToNat, Int.reduceLT, Int.reduceLE, Int.reduceEq, Int.reduceNe, Int.reduceAdd, Int.reduceSub, Int.reduceMul, Int.reduceNeg, ↓reduceIte, reduceCtorEq]
              exact ⟨by omega, by omega⟩
            | true =>
              rw [hcv, if_pos rfl] at q6
              have hlen : (S ++ [(th, (v : Int), fr, to)]).length = S.length + 1 := by simp
              have q7 : (S ++ [(th, (v : Int), fr, to)]) ++ (A.drop (i + 1)).filter (con kd kn (x1, sv, x3, x4)) = F := by rw [List.append_assoc]; exact q6
              clear q6
              clear o7
              rcases o6 with ⟨rfl, rfl⟩ | ⟨g, hgn, hgN, rfl, hgr⟩
              · repeat' first | simp (config := { maxSteps := 2000000 }) (disch := first | omega | (repeat first | assumption | exact Kept.refl _ | refine Kept.set' (by assumption) ?_ ?_ | refine Kept.set (by assumption) ?_ ?_ | omega)) only [go_sem, *, Try.results15, Nat.reduceLT, Nat.reduceAdd, Nat.reduceMul, Nat.reduceSub, Nat.reduceEqDiff, Nat.reduceLeDiff, Int.reduceToNat, Int.reduceLT, Int.reduceLE, Int.reduceEq, Int.reduceNe, Int.reduceAdd, Int.reduceSub, Int.reduceMul, Int.reduceNeg, ↓reduceIte, reduceCtorEq] | (apply EvG_ndec <;> intro _) | (apply EvC_ndec <;> intro _) | (apply EvG_dec <;> intro _) | (apply EvC_dec <;> intro _) | fail | (apply EvH_ndec <;> intro _) | (apply EvH_dec <;> intro _) | (apply EvC_nbool <;> intro _) | (apply EvC_bool <;> intro _) | (apply EvG_nbool <;> intro _) | (apply EvG_bool <;> intro _) | (apply EvH_nbool <;> intro _) | (apply EvH_bool <;> intro _)
                refine ih (A.length - (i + 1)) _ _ _ (by omega) ⟨i + 1, .slice (some ⟨n' + 2, 0, none⟩) 1 (capInf + 4), [(th, (v : Int), fr, to)], by omega, rfl, ?_⟩
                rw [hci]
                clear ih
                simp (config := { maxSteps := 2000000 }) (disch := first | omega | (repeat first | assumption | exact Kept.refl _ | refine Kept.set' (by assumption) ?_ ?_ | refine Kept.set (by assumption) ?_ ?_ | omega)) only [go_sem, *, Nat.reduceLT, Nat.reduceAdd, Nat.reduceMul, Nat.reduceSub, Nat.reduceEqDiff, Nat.reduceLeDiff, Int.reduceToNat, Int.reduceLT, Int.reduceLE, Int.reduceEq, Int.reduceNe, Int.reduceAdd, Int.reduceSub, Int.reduceMul, Int.reduceNeg, ↓reduceIte, reduceCtorEq]
                refine ⟨WfH.set' (by omega) (w6.set (by omega) (by omega)), by omega, Kept.set' w5 (by omega) (Kept.set' w5 (by omega) k6), .inr ⟨n' + 2, by omega, rfl, heap_same⟩, q7⟩
              · have htk : (secCs S).take (S.length * 4) = secCs S := by rw [← hS4]; exact List.take_length
                have hbq : (S.length * 4).beq (S.length * 4) = true := Nat.beq_refl _
                have hble : (S.length + 1).ble 1048576 = true := Nat.ble_eq_true_of_le (by omega)
                have hsn : secCs S ++ [.int .i64 th, .int .u64 v, .int .i64 fr, .int .i64 to] = secCs (S ++ [(th, (v : Int), fr, to)]) := (secCs_snoc S (th, (v : Int), fr, to)).symm
                have hrn : n' ≠ g := fun e => by omega
                repeat' first | simp (config := { maxSteps := 2000000 }) (disch := first | omega | (repeat first | assumption | exact Kept.refl _ | refine Kept.set' (by assumption) ?_ ?_ | refine Kept.set (by assumption) ?_ ?_ | omega)) only [go_sem, *, Try.results15, Nat.reduceLT, Nat.reduceAdd, Nat.reduceMul, Nat.reduceSub, Nat.reduceEqDiff, Nat.reduceLeDiff, Int.reduceToNat, Int.reduceLT, Int.reduceLE, Int.reduceEq, Int.reduceNe, Int.reduceAdd, Int.reduceSub, Int.reduceMul, Int.reduceNeg, ↓reduceIte, reduceCtorEq] | (apply EvG_ndec <;> intro _) | (apply EvC_ndec <;> intro _) | (apply EvG_dec <;> intro _) | (apply EvC_dec <;> intro _) | fail | (apply EvH_ndec <;> intro _) | (apply EvH_dec <;> intro _) | (apply EvC_nbool <;> intro _) | (apply EvC_bool <;> intro _) | (apply EvG_nbool <;> intro _) | (apply EvG_bool <;> intro _) | (apply EvH_nbool <;> intro _) | (apply EvH_bool <;> intro _)
                refine ih (A.length - (i + 1)) _ _ _ (by omega) ⟨i + 1, .slice (some ⟨n' + 2, 0, none⟩) (S.length + 1) (capInf + 4), S ++ [(th, (v : Int), fr, to)], by omega, rfl, ?_⟩
                rw [hci]
                clear ih
                simp (config := { maxSteps := 2000000 }) (disch := first | omega | (repeat first | assumption | exact Kept.refl _ | refine Kept.set' (by assumption) ?_ ?_ | refine Kept.set (by assumption) ?_ ?_ | omega)) only [go_sem, *, Nat.reduceLT, Nat.reduceAdd, Nat.reduceMul, Nat.reduceSub, Nat.reduceEqDiff, Nat.reduceLeDiff, Int.reduceToNat, Int.reduceLT, Int.reduceLE, Int.reduceEq, Int.reduceNe, Int.reduceAdd, Int.reduceSub, Int.reduceMul, Int.reduceNeg, ↓reduceIte, reduceCtorEq]
                refine ⟨WfH.set' (by omega) (WfH.set' (by omega) (w6.set (by omega) (by omega))), by omega, Kept.set' w5 (by omega) (Kept.set' w5 (by omega) (Kept.set' w5 (by omega) k6)), .inr ⟨n' + 2, by omega, by rw [hlen], heap_same⟩⟩
          · have e7 : ¬ (i : Int) < A.length := by omega
            obtain rfl : i = A.length := by omega
            rw [List.drop_length] at q6
            have q7 : S = F := by rw [← q6]; simp
            subst q7
            have k9 := k05.trans q3
            clear ih hrow' hA q6
            repeat' first | simp (config := { maxSteps := 2000000 }) (disch := first | omega | (repeat first | assumption | exact Kept.refl _ | refine Kept.set' (by assumption) ?_ ?_ | refine Kept.set (by assumption) ?_ ?_ | omega)) only [go_sem, *, Try.results15, Nat.reduceLT, Nat.reduceAdd, Nat.reduceMul, Nat.reduceSub, Nat.reduceEqDiff, Nat.reduceLeDiff, Int.reduceToNat, Int.reduceLT, Int.reduceLE, Int.reduceEq, Int.reduceNe, Int.reduceAdd, Int.reduceSub, Int.reduceMul, Int.reduceNeg, ↓reduceIte, reduceCtorEq] | (apply EvG_ndec <;> intro _) | (apply EvC_ndec <;> intro _) | (apply EvG_dec <;> intro _) | (apply EvC_dec <;> intro _) | fail | (apply EvH_ndec <;> intro _) | (apply EvH_dec <;> intro _) | (apply EvC_nbool <;> intro _) | (apply EvC_bool <;> intro _) | (apply EvG_nbool <;> intro _) | (apply EvG_bool <;> intro _) | (apply EvH_nbool <;> intro _) | (apply EvH_bool <;> intro _)
            exact ⟨_, rfl, q4.is⟩
    · have hd1 : ¬ x4 < 0 := by omega
      have hd3 : 0 ≤ x4 := by omega
      have hd2 : x4 ≤ step := by omega
      rw [blk_out hd1 hd2] at hQ
      clear hd
      repeat' first | simp (config := { maxSteps := 2000000 }) (disch := first | omega | (repeat first | assumption | exact Kept.refl _ | refine Kept.set' (by assumption) ?_ ?_ | refine Kept.set (by assumption) ?_ ?_ | omega)) only [go_sem, *, Try.results15, Nat.reduceLT, Nat.reduceAdd, Nat.reduceMul, Nat.reduceSub, Nat.reduceEqDiff, Nat.reduceLeDiff, Int.reduceToNat, Int.reduceLT, Int.reduceLE, Int.reduceEq, Int.reduceNe, Int.reduceAdd, Int.reduceSub, Int.reduceMul, Int.reduceNeg, ↓reduceIte, reduceCtorEq] | (apply EvG_ndec <;> intro _) | (apply EvC_ndec <;> intro _) | (apply EvG_dec <;> intro _) | (apply EvC_dec <;> intro _) | fail | (apply EvH_ndec <;> intro _) | (apply EvH_dec <;> intro _) | (apply EvC_nbool <;> intro _) | (apply EvC_bool <;> intro _) | (apply EvG_nbool <;> intro _) | (apply EvG_bool <;> intro _) | (apply EvH_nbool <;> intro _) | (apply EvH_bool <;> intro _)
      exact ⟨⟨_, rfl, .inl ⟨rfl, rfl⟩⟩, Kept.set' hW (by omega) (Kept.set' hW (by omega) (Kept.set' hW (by omega) (Kept.set' hW (by omega) k2)))⟩
end Go.Proofs.Ytknelmeaegldmaa
