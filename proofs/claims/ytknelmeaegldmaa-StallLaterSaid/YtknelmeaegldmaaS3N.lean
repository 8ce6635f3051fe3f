/-
  A part of the proof: contracts of inner functions.
-/
import Derived.Test.YtknelmeaegldmaaS3L
import Derived.Test.YtknelmeaegldmaaAmY6
import Derived.WalkKit
import Derived.ProofKit
import Derived.OpenShut
set_option linter.unusedVariables false
set_option linter.unusedSimpArgs false
namespace Go.Proofs.Ytknelmeaegldmaa
open Go.Am

noncomputable abbrev OL : Over := tabO [(50, sortS), (11, trueS), (62, thS enterT), (63, thS exitT), (64, thS waitT), (65, thS doneT), (40, endS), (54, endS), (56, endsS)]
theorem OLok : SoundO Try.prog OL := tab_sound (.cons sortF50 (.cons awakeF (.cons enterF (.cons exitF (.cons waitF (.cons doneF (.cons endW (.cons endE (.cons endsF .nil)))))))))
theorem OLq : QuO OL where
  fol := ⟨rfl, rfl, rfl, rfl⟩
  o57 := rfl
  o47 := rfl
  o39 := rfl
  o53 := rfl
  o40 := rfl
  o54 := rfl
  o38 := rfl
  o52 := rfl
  o20 := rfl
  o44 := rfl
  o55 := rfl
  o61 := rfl
  o56 := rfl
  o45 := rfl
  o46 := rfl
  o36 := rfl
  o37 := rfl
  o21 := rfl
  o25 := rfl
  o33 := rfl
  o35 := rfl
  o34 := rfl
  o50 := rfl
  o41 := rfl
  o48 := rfl
  o49 := rfl
  o51 := rfl
  o58 := rfl
  o27 := rfl
  o43 := rfl
set_option maxRecDepth 100000 in
set_option maxHeartbeats 4000000 in
theorem laterB (kd sl k wait fr step : Int) (E : List Ev) (s : Value) (hv : okVals E) (h : PT ABlk) (N : Nat) (hW : WfH h N) (hs : ArgEvs h s E) :
    EvB Try.prog OL 6 [.agg ⟨[.int .u8 kd, .int .i64 sl, .int .i64 k]⟩, s, .int .i64 wait, .int .i64 fr, .int .i64 step] h N fun v _ _ => v = .bool true := by
  refine EvB_run (N := 106) Try.func6 rfl rfl fun z hP hO hro hN hQ => ?_
  repeat' first | simp (config := { maxSteps := 2000000 }) (disch := first | omega | (repeat first | assumption | exact Kept.refl _ | refine Kept.set' (by assumption) ?_ ?_ | refine Kept.set (by assumption) ?_ ?_ | omega)) only [go_sem, *, Try.results6, Nat.reduceLT, Nat.reduceAdd, Nat.reduceMul, Nat.reduceSub, Nat.reduceEqDiff, Nat.reduceLeDiff, Int.reduceToNat, Int.reduceLT, Int.reduceLE, Int.reduceEq, Int.reduceNe, Int.reduceAdd, Int.reduceSub, Int.reduceMul, Int.reduceNeg, ↓reduceIte, reduceCtorEq] | (apply EvG_ndec <;> intro _) | (apply EvC_ndec <;> intro _) | (apply EvG_dec <;> intro _) | (apply EvC_dec <;> intro _) | fail | (apply EvH_ndec <;> intro _) | (apply EvH_dec <;> intro _) | (apply EvC_nbool <;> intro _) | (apply EvC_bool <;> intro _) | (apply EvG_nbool <;> intro _) | (apply EvG_bool <;> intro _) | (apply EvH_nbool <;> intro _) | (apply EvH_bool <;> intro _)
  generalize hh1 : h.set N _ = h1
  have e1 := get_of_set hh1
  have w1 : WfH h1 (N + 1) := by rw [← hh1]; exact hW.set (by omega) (by omega)
  have k1 : Kept h h1 := by rw [← hh1]; exact hW.kept (Nat.le_refl _)
  clear hh1
  refine EvQ_call ?_ ?_ (by rw [hP, hO]; exact (fewB rfl E s _ _ w1 (hs.keep k1)).wf w1) ?_
  · simp (config := { maxSteps := 2000000 }) (disch := first | omega | (repeat first | assumption | exact Kept.refl _ | refine Kept.set' (by assumption) ?_ ?_ | refine Kept.set (by assumption) ?_ ?_ | omega)) only [go_sem, *, Nat.reduceLT, Nat.reduceAdd, Nat.reduceMul, Nat.reduceSub, Nat.reduceEqDiff, Nat.reduceLeDiff, Int.reduceToNat, Int.reduceLT, Int.reduceLE, Int.reduceEq, Int.reduceNe, Int.reduceAdd, Int.reduceSub, Int.reduceMul, Int.reduceNeg, ↓reduceIte, reduceCtorEq]
  · simp (config := { maxSteps := 2000000 }) (disch := first | omega | (repeat first | assumption | exact Kept.refl _ | refine Kept.set' (by assumption) ?_ ?_ | refine Kept.set (by assumption) ?_ ?_ | omega)) only [go_sem, *, Nat.reduceLT, Nat.reduceAdd, Nat.reduceMul, Nat.reduceSub, Nat.reduceEqDiff, Nat.reduceLeDiff, Int.reduceToNat, Int.reduceLT, Int.reduceLE, Int.reduceEq, Int.reduceNe, Int.reduceAdd, Int.reduceSub, Int.reduceMul, Int.reduceNeg, ↓reduceIte, reduceCtorEq]
  rintro r h2 n2 ⟨⟨hI, k2⟩, hn2, w2⟩
  have e2 := k2 _ _ e1
  have hvT : okVals (E.take 80) := fun x hx => hv x (List.mem_of_mem_take hx)
  have hlT : (E.take 80).length ≤ 100000 := by rw [List.length_take]; omega
  clear hs hv e1 k1 w1 k2 hW
  generalize E.take 80 = T at *
  repeat' first | simp (config := { maxSteps := 2000000 }) (disch := first | omega | (repeat first | assumption | exact Kept.refl _ | refine Kept.set' (by assumption) ?_ ?_ | refine Kept.set (by assumption) ?_ ?_ | omega)) only [go_sem, *, Try.results6, Nat.reduceLT, Nat.reduceAdd, Nat.reduceMul, Nat.reduceSub, Nat.reduceEqDiff, Nat.reduceLeDiff, Int.reduceToNat, Int.reduceLT, Int.reduceLE, Int.reduceEq, Int.reduceNe, Int.reduceAdd, Int.reduceSub, Int.reduceMul, Int.reduceNeg, ↓reduceIte, reduceCtorEq] | (apply EvG_ndec <;> intro _) | (apply EvC_ndec <;> intro _) | (apply EvG_dec <;> intro _) | (apply EvC_dec <;> intro _) | fail | (apply EvH_ndec <;> intro _) | (apply EvH_dec <;> intro _) | (apply EvC_nbool <;> intro _) | (apply EvC_bool <;> intro _) | (apply EvG_nbool <;> intro _) | (apply EvG_bool <;> intro _) | (apply EvH_nbool <;> intro _) | (apply EvH_bool <;> intro _)
  refine EvQ_call ?_ ?_ (by rw [hP, hO]; exact (quietP OLq kd k wait fr T r hvT hlT _ _ w2 hI).wf w2) ?_
  · simp (config := { maxSteps := 2000000 }) (disch := first | omega | (repeat first | assumption | exact Kept.refl _ | refine Kept.set' (by assumption) ?_ ?_ | refine Kept.set (by assumption) ?_ ?_ | omega)) only [go_sem, *, Nat.reduceLT, Nat.reduceAdd, Nat.reduceMul, Nat.reduceSub, Nat.reduceEqDiff, Nat.reduceLeDiff, Int.reduceToNat, Int.reduceLT, Int.reduceLE, Int.reduceEq, Int.reduceNe, Int.reduceAdd, Int.reduceSub, Int.reduceMul, Int.reduceNeg, ↓reduceIte, reduceCtorEq]
  · simp (config := { maxSteps := 2000000 }) (disch := first | omega | (repeat first | assumption | exact Kept.refl _ | refine Kept.set' (by assumption) ?_ ?_ | refine Kept.set (by assumption) ?_ ?_ | omega)) only [go_sem, *, Nat.reduceLT, Nat.reduceAdd, Nat.reduceMul, Nat.reduceSub, Nat.reduceEqDiff, Nat.reduceLeDiff, Int.reduceToNat, Int.reduceLT, Int.reduceLE, Int.reduceEq, Int.reduceNe, Int.reduceAdd, Int.reduceSub, Int.reduceMul, Int.reduceNeg, ↓reduceIte, reduceCtorEq]
  rintro v h3 n3 ⟨⟨rfl, k3⟩, hn3, w3⟩
  have e3 := k3 _ _ e2
  have hI3 := hI.keep k3
  clear e2 k3 w2 hI
  by_cases hq : qerr kd k wait fr T = 0
  · have hqv : quietV kd k wait fr T = .tuple ⟨[.bool (quietB kd k wait fr T), .int .i64 0]⟩ := by unfold quietV; rw [if_pos hq]
    rw [hqv]
    clear hqv
    cases hb : quietB kd k wait fr T with
    | false =>
      clear hI3
      repeat' first | simp (config := { maxSteps := 2000000 }) (disch := first | omega | (repeat first | assumption | exact Kept.refl _ | refine Kept.set' (by assumption) ?_ ?_ | refine Kept.set (by assumption) ?_ ?_ | omega)) only [go_sem, *, Try.results6, trueS, Nat.reduceLT, Nat.reduceAdd, Nat.reduceMul, Nat.reduceSub, Nat.reduceEqDiff, Nat.reduceLeDiff, Int.reduceToNat, Int.reduceLT, Int.reduceLE, Int.reduceEq, Int.reduceNe, Int.reduceAdd, Int.reduceSub, Int.reduceMul, Int.reduceNeg, ↓reduceIte, reduceCtorEq] | (apply EvG_ndec <;> intro _) | (apply EvC_ndec <;> intro _) | (apply EvG_dec <;> intro _) | (apply EvC_dec <;> intro _) | fail | (apply EvH_ndec <;> intro _) | (apply EvH_dec <;> intro _) | (apply EvC_nbool <;> intro _) | (apply EvC_bool <;> intro _) | (apply EvG_nbool <;> intro _) | (apply EvG_bool <;> intro _) | (apply EvH_nbool <;> intro _) | (apply EvH_bool <;> intro _)
    | true =>
      have hlat := fun st hst => later (step := st) hq hb hst
      obtain ⟨hvl, hc, wn, hwl, rfl, hst⟩ := qerr_zero hq
      repeat' first | simp (config := { maxSteps := 2000000 }) (disch := first | omega | (repeat first | assumption | exact Kept.refl _ | refine Kept.set' (by assumption) ?_ ?_ | refine Kept.set (by assumption) ?_ ?_ | omega)) only [go_sem, *, Try.results6, trueS, Nat.reduceLT, Nat.reduceAdd, Nat.reduceMul, Nat.reduceSub, Nat.reduceEqDiff, Nat.reduceLeDiff, Int.reduceToNat, Int.reduceLT, Int.reduceLE, Int.reduceEq, Int.reduceNe, Int.reduceAdd, Int.reduceSub, Int.reduceMul, Int.reduceNeg, ↓reduceIte, reduceCtorEq] | (apply EvG_ndec <;> intro _) | (apply EvC_ndec <;> intro _) | (apply EvG_dec <;> intro _) | (apply EvC_dec <;> intro _) | fail | (apply EvH_ndec <;> intro _) | (apply EvH_dec <;> intro _) | (apply EvC_nbool <;> intro _) | (apply EvC_bool <;> intro _) | (apply EvG_nbool <;> intro _) | (apply EvG_bool <;> intro _) | (apply EvH_nbool <;> intro _) | (apply EvH_bool <;> intro _)
      refine EvQ_call ?_ ?_ (by rw [hP, hO]; exact (waitsB OLq.toEvO T r hlT _ _ w3 hI3).wf w3) ?_
      · simp (config := { maxSteps := 2000000 }) (disch := first | omega | (repeat first | assumption | exact Kept.refl _ | refine Kept.set' (by assumption) ?_ ?_ | refine Kept.set (by assumption) ?_ ?_ | omega)) only [go_sem, *, Nat.reduceLT, Nat.reduceAdd, Nat.reduceMul, Nat.reduceSub, Nat.reduceEqDiff, Nat.reduceLeDiff, Int.reduceToNat, Int.reduceLT, Int.reduceLE, Int.reduceEq, Int.reduceNe, Int.reduceAdd, Int.reduceSub, Int.reduceMul, Int.reduceNeg, ↓reduceIte, reduceCtorEq]
      · simp (config := { maxSteps := 2000000 }) (disch := first | omega | (repeat first | assumption | exact Kept.refl _ | refine Kept.set' (by assumption) ?_ ?_ | refine Kept.set (by assumption) ?_ ?_ | omega)) only [go_sem, *, Nat.reduceLT, Nat.reduceAdd, Nat.reduceMul, Nat.reduceSub, Nat.reduceEqDiff, Nat.reduceLeDiff, Int.reduceToNat, Int.reduceLT, Int.reduceLE, Int.reduceEq, Int.reduceNe, Int.reduceAdd, Int.reduceSub, Int.reduceMul, Int.reduceNeg, ↓reduceIte, reduceCtorEq]
      rintro v h4 n4 ⟨⟨hsv, k4⟩, hn4, w4⟩
      have e4 := k4 _ _ e3
      have hI4 := hI3.keep k4
      clear e3 k4 w3 hI3
      rcases hsv with ⟨hc2, -⟩ | ⟨-, sl4, rfl, hJ⟩
      · rw [hc] at hc2; simp at hc2
      obtain ⟨wa, wc, rfl, -⟩ := hJ.len
      have hw' : ¬ (wn : Int) < 0 := by omega
      have hw2 : ¬ (wn : Int) ≥ ((refS 3 T).length : Int) := by omega
      have hw3 : ¬ ((refS 3 T).length : Int) ≤ (wn : Int) := by omega
      clear hJ hwl hst
      by_cases hmx : step < fr
      · obtain ⟨h1, h2, h3⟩ := hlat fr (by omega)
        have hqv : quietV kd k wn fr T = .tuple ⟨[.bool true, .int .i64 0]⟩ := by unfold quietV; rw [if_pos h1, h2]
        clear hlat
        repeat' first | simp (config := { maxSteps := 2000000 }) (disch := first | omega | (repeat first | assumption | exact Kept.refl _ | refine Kept.set' (by assumption) ?_ ?_ | refine Kept.set (by assumption) ?_ ?_ | omega)) only [go_sem, *, Try.results6, Nat.reduceLT, Nat.reduceAdd, Nat.reduceMul, Nat.reduceSub, Nat.reduceEqDiff, Nat.reduceLeDiff, Int.reduceToNat, Int.reduceLT, Int.reduceLE, Int.reduceEq, Int.reduceNe, Int.reduceAdd, Int.reduceSub, Int.reduceMul, Int.reduceNeg, ↓reduceIte, reduceCtorEq] | (apply EvG_ndec <;> intro _) | (apply EvC_ndec <;> intro _) | (apply EvG_dec <;> intro _) | (apply EvC_dec <;> intro _) | fail | (apply EvH_ndec <;> intro _) | (apply EvH_dec <;> intro _) | (apply EvC_nbool <;> intro _) | (apply EvC_bool <;> intro _) | (apply EvG_nbool <;> intro _) | (apply EvG_bool <;> intro _) | (apply EvH_nbool <;> intro _) | (apply EvH_bool <;> intro _)
        refine EvQ_call ?_ ?_ (by rw [hP, hO]; exact (quietP OLq kd k wn fr T r hvT hlT _ _ w4 hI4).wf w4) ?_
        · simp (config := { maxSteps := 2000000 }) (disch := first | omega | (repeat first | assumption | exact Kept.refl _ | refine Kept.set' (by assumption) ?_ ?_ | refine Kept.set (by assumption) ?_ ?_ | omega)) only [go_sem, *, Nat.reduceLT, Nat.reduceAdd, Nat.reduceMul, Nat.reduceSub, Nat.reduceEqDiff, Nat.reduceLeDiff, Int.reduceToNat, Int.reduceLT, Int.reduceLE, Int.reduceEq, Int.reduceNe, Int.reduceAdd, Int.reduceSub, Int.reduceMul, Int.reduceNeg, ↓reduceIte, reduceCtorEq]
        · simp (config := { maxSteps := 2000000 }) (disch := first | omega | (repeat first | assumption | exact Kept.refl _ | refine Kept.set' (by assumption) ?_ ?_ | refine Kept.set (by assumption) ?_ ?_ | omega)) only [go_sem, *, Nat.reduceLT, Nat.reduceAdd, Nat.reduceMul, Nat.reduceSub, Nat.reduceEqDiff, Nat.reduceLeDiff, Int.reduceToNat, Int.reduceLT, Int.reduceLE, Int.reduceEq, Int.reduceNe, Int.reduceAdd, Int.reduceSub, Int.reduceMul, Int.reduceNeg, ↓reduceIte, reduceCtorEq]
        rintro v h5 n5 ⟨⟨rfl, k5⟩, hn5, w5⟩
        have e5 := k5 _ _ e4
        have hI5 := hI4.keep k5
        rw [hqv]
        clear e4 k5 w4 hI4 hqv
        repeat' first | simp (config := { maxSteps := 2000000 }) (disch := first | omega | (repeat first | assumption | exact Kept.refl _ | refine Kept.set' (by assumption) ?_ ?_ | refine Kept.set (by assumption) ?_ ?_ | omega)) only [go_sem, *, Try.results6, Nat.reduceLT, Nat.reduceAdd, Nat.reduceMul, Nat.reduceSub, Nat.reduceEqDiff, Nat.reduceLeDiff, Int.reduceToNat, Int.reduceLT, Int.reduceLE, Int.reduceEq, Int.reduceNe, Int.reduceAdd, Int.reduceSub, Int.reduceMul, Int.reduceNeg, ↓reduceIte, reduceCtorEq] | (apply EvG_ndec <;> intro _) | (apply EvC_ndec <;> intro _) | (apply EvG_dec <;> intro _) | (apply EvC_dec <;> intro _) | fail | (apply EvH_ndec <;> intro _) | (apply EvH_dec <;> intro _) | (apply EvC_nbool <;> intro _) | (apply EvC_bool <;> intro _) | (apply EvG_nbool <;> intro _) | (apply EvG_bool <;> intro _) | (apply EvH_nbool <;> intro _) | (apply EvH_bool <;> intro _)
        refine EvQ_call ?_ ?_ (by rw [hP, hO]; exact (blockersP OLq kd k wn fr T r hvT hlT _ _ w5 hI5).wf w5) ?_
        · simp (config := { maxSteps := 2000000 }) (disch := first | omega | (repeat first | assumption | exact Kept.refl _ | refine Kept.set' (by assumption) ?_ ?_ | refine Kept.set (by assumption) ?_ ?_ | omega)) only [go_sem, *, Nat.reduceLT, Nat.reduceAdd, Nat.reduceMul, Nat.reduceSub, Nat.reduceEqDiff, Nat.reduceLeDiff, Int.reduceToNat, Int.reduceLT, Int.reduceLE, Int.reduceEq, Int.reduceNe, Int.reduceAdd, Int.reduceSub, Int.reduceMul, Int.reduceNeg, ↓reduceIte, reduceCtorEq]
        · simp (config := { maxSteps := 2000000 }) (disch := first | omega | (repeat first | assumption | exact Kept.refl _ | refine Kept.set' (by assumption) ?_ ?_ | refine Kept.set (by assumption) ?_ ?_ | omega)) only [go_sem, *, Nat.reduceLT, Nat.reduceAdd, Nat.reduceMul, Nat.reduceSub, Nat.reduceEqDiff, Nat.reduceLeDiff, Int.reduceToNat, Int.reduceLT, Int.reduceLE, Int.reduceEq, Int.reduceNe, Int.reduceAdd, Int.reduceSub, Int.reduceMul, Int.reduceNeg, ↓reduceIte, reduceCtorEq]
        rintro v h6 n6 ⟨⟨hB, k6⟩, hn6, w6⟩
        rcases hB with ⟨hq6, -⟩ | ⟨-, sl6, rfl, hS⟩
        · exact absurd h1 hq6
        rw [h3] at hS
        obtain ⟨a6, c6, rfl, -⟩ := hS.len
        clear hS h1 h2 h3 hI5
        repeat' first | simp (config := { maxSteps := 2000000 }) (disch := first | omega | (repeat first | assumption | exact Kept.refl _ | refine Kept.set' (by assumption) ?_ ?_ | refine Kept.set (by assumption) ?_ ?_ | omega)) only [go_sem, *, Try.results6, trueS, Nat.reduceLT, Nat.reduceAdd, Nat.reduceMul, Nat.reduceSub, Nat.reduceEqDiff, Nat.reduceLeDiff, Int.reduceToNat, Int.reduceLT, Int.reduceLE, Int.reduceEq, Int.reduceNe, Int.reduceAdd, Int.reduceSub, Int.reduceMul, Int.reduceNeg, ↓reduceIte, reduceCtorEq] | (apply EvG_ndec <;> intro _) | (apply EvC_ndec <;> intro _) | (apply EvG_dec <;> intro _) | (apply EvC_dec <;> intro _) | fail | (apply EvH_ndec <;> intro _) | (apply EvH_dec <;> intro _) | (apply EvC_nbool <;> intro _) | (apply EvC_bool <;> intro _) | (apply EvG_nbool <;> intro _) | (apply EvG_bool <;> intro _) | (apply EvH_nbool <;> intro _) | (apply EvH_bool <;> intro _)
      · obtain ⟨h1, h2, h3⟩ := hlat step (by omega)
        have hqv : quietV kd k wn step T = .tuple ⟨[.bool true, .int .i64 0]⟩ := by unfold quietV; rw [if_pos h1, h2]
        clear hlat
        repeat' first | simp (config := { maxSteps := 2000000 }) (disch := first | omega | (repeat first | assumption | exact Kept.refl _ | refine Kept.set' (by assumption) ?_ ?_ | refine Kept.set (by assumption) ?_ ?_ | omega)) only [go_sem, *, Try.results6, Nat.reduceLT, Nat.reduceAdd, Nat.reduceMul, Nat.reduceSub, Nat.reduceEqDiff, Nat.reduceLeDiff, Int.reduceToNat, Int.reduceLT, Int.reduceLE, Int.reduceEq, Int.reduceNe, Int.reduceAdd, Int.reduceSub, Int.reduceMul, Int.reduceNeg, ↓reduceIte, reduceCtorEq] | (apply EvG_ndec <;> intro _) | (apply EvC_ndec <;> intro _) | (apply EvG_dec <;> intro _) | (apply EvC_dec <;> intro _) | fail | (apply EvH_ndec <;> intro _) | (apply EvH_dec <;> intro _) | (apply EvC_nbool <;> intro _) | (apply EvC_bool <;> intro _) | (apply EvG_nbool <;> intro _) | (apply EvG_bool <;> intro _) | (apply EvH_nbool <;> intro _) | (apply EvH_bool <;> intro _)
        refine EvQ_call ?_ ?_ (by rw [hP, hO]; exact (quietP OLq kd k wn step T r hvT hlT _ _ w4 hI4).wf w4) ?_
        · simp (config := { maxSteps := 2000000 }) (disch := first | omega | (repeat first | assumption | exact Kept.refl _ | refine Kept.set' (by assumption) ?_ ?_ | refine Kept.set (by assumption) ?_ ?_ | omega)) only [go_sem, *, Nat.reduceLT, Nat.reduceAdd, Nat.reduceMul, Nat.reduceSub, Nat.reduceEqDiff, Nat.reduceLeDiff, Int.reduceToNat, Int.reduceLT, Int.reduceLE, Int.reduceEq, Int.reduceNe, Int.reduceAdd, Int.reduceSub, Int.reduceMul, Int.reduceNeg, ↓reduceIte, reduceCtorEq]
        · simp (config := { maxSteps := 2000000 }) (disch := first | omega | (repeat first | assumption | exact Kept.refl _ | refine Kept.set' (by assumption) ?_ ?_ | refine Kept.set (by assumption) ?_ ?_ | omega)) only [go_sem, *, Nat.reduceLT, Nat.reduceAdd, Nat.reduceMul, Nat.reduceSub, Nat.reduceEqDiff, Nat.reduceLeDiff, Int.reduceToNat, Int.reduceLT, Int.reduceLE, Int.reduceEq, Int.reduceNe, Int.reduceAdd, Int.reduceSub, Int.reduceMul, Int.reduceNeg, ↓reduceIte, reduceCtorEq]
        rintro v h5 n5 ⟨⟨rfl, k5⟩, hn5, w5⟩
        have e5 := k5 _ _ e4
        have hI5 := hI4.keep k5
        rw [hqv]
        clear e4 k5 w4 hI4 hqv
        repeat' first | simp (config := { maxSteps := 2000000 }) (disch := first | omega | (repeat first | assumption | exact Kept.refl _ | refine Kept.set' (by assumption) ?_ ?_ | refine Kept.set (by assumption) ?_ ?_ | omega)) only [go_sem, *, Try.results6, Nat.reduceLT, Nat.reduceAdd, Nat.reduceMul, Nat.reduceSub, Nat.reduceEqDiff, Nat.reduceLeDiff, Int.reduceToNat, Int.reduceLT, Int.reduceLE, Int.reduceEq, Int.reduceNe, Int.reduceAdd, Int.reduceSub, Int.reduceMul, Int.reduceNeg, ↓reduceIte, reduceCtorEq] | (apply EvG_ndec <;> intro _) | (apply EvC_ndec <;> intro _) | (apply EvG_dec <;> intro _) | (apply EvC_dec <;> intro _) | fail | (apply EvH_ndec <;> intro _) | (apply EvH_dec <;> intro _) | (apply EvC_nbool <;> intro _) | (apply EvC_bool <;> intro _) | (apply EvG_nbool <;> intro _) | (apply EvG_bool <;> intro _) | (apply EvH_nbool <;> intro _) | (apply EvH_bool <;> intro _)
        refine EvQ_call ?_ ?_ (by rw [hP, hO]; exact (blockersP OLq kd k wn step T r hvT hlT _ _ w5 hI5).wf w5) ?_
        · simp (config := { maxSteps := 2000000 }) (disch := first | omega | (repeat first | assumption | exact Kept.refl _ | refine Kept.set' (by assumption) ?_ ?_ | refine Kept.set (by assumption) ?_ ?_ | omega)) only [go_sem, *, Nat.reduceLT, Nat.reduceAdd, Nat.reduceMul, Nat.reduceSub, Nat.reduceEqDiff, Nat.reduceLeDiff, Int.reduceToNat, Int.reduceLT, Int.reduceLE, Int.reduceEq, Int.reduceNe, Int.reduceAdd, Int.reduceSub, Int.reduceMul, Int.reduceNeg, ↓reduceIte, reduceCtorEq]
        · simp (config := { maxSteps := 2000000 }) (disch := first | omega | (repeat first | assumption | exact Kept.refl _ | refine Kept.set' (by assumption) ?_ ?_ | refine Kept.set (by assumption) ?_ ?_ | omega)) only [go_sem, *, Nat.reduceLT, Nat.reduceAdd, Nat.reduceMul, Nat.reduceSub, Nat.reduceEqDiff, Nat.reduceLeDiff, Int.reduceToNat, Int.reduceLT, Int.reduceLE, Int.reduceEq, Int.reduceNe, Int.reduceAdd, Int.reduceSub, Int.reduceMul, Int.reduceNeg, ↓reduceIte, reduceCtorEq]
        rintro v h6 n6 ⟨⟨hB, k6⟩, hn6, w6⟩
        rcases hB with ⟨hq6, -⟩ | ⟨-, sl6, rfl, hS⟩
        · exact absurd h1 hq6
        rw [h3] at hS
        obtain ⟨a6, c6, rfl, -⟩ := hS.len
        clear hS h1 h2 h3 hI5
        repeat' first | simp (config := { maxSteps := 2000000 }) (disch := first | omega | (repeat first | assumption | exact Kept.refl _ | refine Kept.set' (by assumption) ?_ ?_ | refine Kept.set (by assumption) ?_ ?_ | omega)) only [go_sem, *, Try.results6, trueS, Nat.reduceLT, Nat.reduceAdd, Nat.reduceMul, Nat.reduceSub, Nat.reduceEqDiff, Nat.reduceLeDiff, Int.reduceToNat, Int.reduceLT, Int.reduceLE, Int.reduceEq, Int.reduceNe, Int.reduceAdd, Int.reduceSub, Int.reduceMul, Int.reduceNeg, ↓reduceIte, reduceCtorEq] | (apply EvG_ndec <;> intro _) | (apply EvC_ndec <;> intro _) | (apply EvG_dec <;> intro _) | (apply EvC_dec <;> intro _) | fail | (apply EvH_ndec <;> intro _) | (apply EvH_dec <;> intro _) | (apply EvC_nbool <;> intro _) | (apply EvC_bool <;> intro _) | (apply EvG_nbool <;> intro _) | (apply EvG_bool <;> intro _) | (apply EvH_nbool <;> intro _) | (apply EvH_bool <;> intro _)
  · have hqv : quietV kd k wait fr T = .tuple ⟨[.bool false, .int .i64 (qerr kd k wait fr T)]⟩ := by unfold quietV; rw [if_neg hq]
    rw [hqv]
    generalize qerr kd k wait fr T = x at *
    clear hI3 hqv
    repeat' first | simp (config := { maxSteps := 2000000 }) (disch := first | omega | (repeat first | assumption | exact Kept.refl _ | refine Kept.set' (by assumption) ?_ ?_ | refine Kept.set (by assumption) ?_ ?_ | omega)) only [go_sem, *, Try.results6, trueS, Nat.reduceLT, Nat.reduceAdd, Nat.reduceMul, Nat.reduceSub, Nat.reduceEqDiff, Nat.reduceLeDiff, Int.reduceToNat, Int.reduceLT, Int.reduceLE, Int.reduceEq, Int.reduceNe, Int.reduceAdd, Int.reduceSub, Int.reduceMul, Int.reduceNeg, ↓reduceIte, reduceCtorEq] | (apply EvG_ndec <;> intro _) | (apply EvC_ndec <;> intro _) | (apply EvG_dec <;> intro _) | (apply EvC_dec <;> intro _) | fail | (apply EvH_ndec <;> intro _) | (apply EvH_dec <;> intro _) | (apply EvC_nbool <;> intro _) | (apply EvC_bool <;> intro _) | (apply EvG_nbool <;> intro _) | (apply EvG_bool <;> intro _) | (apply EvH_nbool <;> intro _) | (apply EvH_bool <;> intro _)
end Go.Proofs.Ytknelmeaegldmaa

set_option linter.unusedVariables false
namespace Go.Proofs.Ytknelmeaegldmaa
open Go.ChangeShapes Go.WideShapes Go.ChangeAt Go.RowKit Go.Am

theorem viewG_le (v0 v1 : List View) : (viewG v0).le (viewG (v0 ++ v1)) := by
  refine ⟨fun i x h => ?_, fun b n h => by simp [viewG] at h⟩
  simp only [viewG] at h ⊢
  cases hi : v0[i]? with
  | none => rw [hi] at h; simp at h
  | some v =>
    rw [hi] at h
    rw [List.getElem?_append_left (List.getElem?_eq_some_iff.1 hi).1, hi]
    exact h
theorem viewH_kept (v0 v1 : List View) : Kept (viewH v0) (viewH (v0 ++ v1)) := by
  intro i B h
  rw [viewH_get] at h ⊢
  cases hi : v0[i]? with
  | none => rw [hi] at h; simp at h
  | some v =>
    rw [hi] at h
    rw [List.getElem?_append_left (List.getElem?_eq_some_iff.1 hi).1, hi]
    exact h
theorem viewOk_snoc {v0 : List View} {v : View} {w : World} (h0 : ViewOk v0 w) (h1 : ∃ cs el fz, w.heap[v.b]? = some (.cells cs el fz) ∧ ∀ (i : Nat) (x : Value), v.L[i]? = some x → ∃ x', cs[v.s + i]? = some x' ∧ VRel (viewG (v0 ++ [v])) x x') : ViewOk (v0 ++ [v]) w := by
  intro k u hk
  rcases Nat.lt_trichotomy k v0.length with q | q | q
  · rw [List.getElem?_append_left q] at hk
    obtain ⟨cs, el, fz, e1, e2⟩ := h0 k u hk
    exact ⟨cs, el, fz, e1, fun i x hx => by obtain ⟨x', a, b⟩ := e2 i x hx; exact ⟨x', a, b.mono (viewG_le v0 [v])⟩⟩
  · subst q
    rw [List.getElem?_append_right (Nat.le_refl _), Nat.sub_self] at hk
    simp only [List.getElem?_cons_zero, Option.some.injEq] at hk
    subst hk
    exact h1
  · rw [List.getElem?_eq_none (by simp; omega)] at hk; simp at hk

theorem evCs_get {A : List Ev} {i : Nat} {x : Value} (h : (evCs A)[i]? = some x) : ∃ y, A[i / 4]? = some y ∧ (evC y)[i % 4]? = some x := by
  have hi := (List.getElem?_eq_some_iff.1 h).1
  rw [evCs_length] at hi
  have hq : i / 4 < A.length := by omega
  refine ⟨A[i / 4], List.getElem?_eq_getElem hq, ?_⟩
  have e : i = i / 4 * 4 + i % 4 := by omega
  rw [e, ← List.getElem?_drop, evCs_drop, List.drop_eq_getElem_cons hq] at h
  unfold evCs at h
  rw [List.flatMap_cons, List.getElem?_append_left (by simp [evC]; omega)] at h
  exact h
theorem cells23 : Try.prog.cellsOf 23 = 3 := by kernel_rfl
theorem cells3 : Try.prog.cellsOf 3 = 1 := by kernel_rfl
theorem cells5 : Try.prog.cellsOf 5 = 1 := by kernel_rfl
theorem list3 {α : Type} {cs : List α} (h : cs.length = 3) : ∃ c0 c1 c2, cs = [c0, c1, c2] := by
  match cs, h with
  | [c0, c1, c2], _ => exact ⟨c0, c1, c2, rfl⟩
theorem cells24 : Try.prog.cellsOf 24 = 1 := by kernel_rfl
theorem cells75 : Try.prog.cellsOf 75 = 4 := by kernel_rfl
theorem bytes75 : Try.prog.bytesOf 75 = 32 := by kernel_rfl
theorem list4 {α : Type} {cs : List α} (h : cs.length = 4) : ∃ c0 c1 c2 c3, cs = [c0, c1, c2, c3] := by
  match cs, h with
  | [c0, c1, c2, c3], _ => exact ⟨c0, c1, c2, c3, rfl⟩
section
variable {H : Type} {enc : TypeId × Value → H} {w : World} {base : Nat} {held : Bool}
theorem part_int {fuel : Nat} {t : TypeId} {k : IntKind} {c : Value} {y : DataW H × List MemPlace} (ht : Try.prog.underlying t = some (.int k)) (h : DataW.trod enc Try.prog w base (fun _ => true) held fuel t [c] = some y) : ∃ n, c = .int k n ∧ (Lit.int k n).wf = true := by
  obtain ⟨n, e, hw⟩ := trod_int ht h
  simp only [List.cons.injEq, and_true] at e
  exact ⟨n, e, hw⟩
set_option maxRecDepth 100000 in
theorem open_eng {v : Value} {d : DataW H} {p : List MemPlace} {base' : Nat} (hok : Value.okWide Try.prog w .any base' 23 v) (h : DataW.Trod enc Try.prog w base (fun _ => true) held 23 v d p) : ∃ kd sl k, v = .agg ⟨[.int .u8 kd, .int .i64 sl, .int .i64 k]⟩ := by
  unfold Value.okWide at hok
  rw [Try.underlying23] at hok
  obtain ⟨⟨cs⟩, rfl, hsz, -⟩ := hok
  rw [cells23] at hsz
  obtain ⟨c0, c1, c2, e⟩ := list3 hsz
  subst e
  obtain ⟨fuel, h⟩ := h
  obtain ⟨-, fuel', parts, hp, ha⟩ := trod_struct_at Try.underlying23 h
  obtain ⟨y0, -, h0⟩ := ha 0 _ rfl
  obtain ⟨y1, -, h1⟩ := ha 1 _ rfl
  obtain ⟨y2, -, h2⟩ := ha 2 _ rfl
  simp only [cells3, cells5] at h0 h1 h2
  obtain ⟨n0, rfl, -⟩ := part_int Try.underlying5 h0
  obtain ⟨n1, rfl, -⟩ := part_int Try.underlying3 h1
  obtain ⟨n2, rfl, -⟩ := part_int Try.underlying3 h2
  exact ⟨n0, n1, n2, rfl⟩
set_option maxRecDepth 100000 in
theorem open_i64 {v : Value} {d : DataW H} {p : List MemPlace} {base' : Nat} (hok : Value.okWide Try.prog w .any base' 3 v) (h : DataW.Trod enc Try.prog w base (fun _ => true) held 3 v d p) : ∃ n : Int, v = .int .i64 n := by
  unfold Value.okWide at hok
  rw [Try.underlying3] at hok
  simp only at hok
  obtain ⟨fuel, h⟩ := h
  have hv : ∃ kk n, v = .int kk n := by
    unfold Cell.okWide at hok
    rw [Try.underlying3] at hok
    cases v <;> first | exact ⟨_, _, rfl⟩ | (simp [Cell.ok, Try.underlying3] at hok; done)
  obtain ⟨kk, n, rfl⟩ := hv
  obtain ⟨m, e, hw⟩ := trod_int Try.underlying3 h
  simp only [Value.cells, List.cons.injEq, and_true] at e
  cases e
  exact ⟨_, rfl⟩
theorem cells?_at {n : Nat} {a : Addr} {l : List Value} (h : w.cells? base a n = some l) {i : Nat} {c : Value} (hc : l[i]? = some c) : w.cell? (a.add i) = some c := by
  unfold World.cells? at h
  split at h
  · have hl := mapM_some_length h
    have hi : i < n := by have := (List.getElem?_eq_some_iff.1 hc).1; rw [hl, List.length_range] at this; exact this
    have := mapM_some_get h i i (by simp [hi])
    rw [← hc]; exact this
  · simp at h
set_option maxRecDepth 100000 in
theorem ev_cells {fuel : Nat} {l : List Value} {y : DataW H × List MemPlace} (h : DataW.trod enc Try.prog w base (fun _ => true) held fuel 75 l = some y) : ∃ x : Ev, l = evC x ∧ (Lit.int .u64 x.2.2.2).wf = true := by
  obtain ⟨hl, fuel', parts, hp, ha⟩ := trod_struct_at Try.underlying75 h
  rw [cells75] at hl
  obtain ⟨c0, c1, c2, c3, rfl⟩ := list4 hl
  obtain ⟨y0, -, h0⟩ := ha 0 _ rfl
  obtain ⟨y1, -, h1⟩ := ha 1 _ rfl
  obtain ⟨y2, -, h2⟩ := ha 2 _ rfl
  obtain ⟨y3, -, h3⟩ := ha 3 _ rfl
  simp only [cells3, cells5, cells24] at h0 h1 h2 h3
  obtain ⟨n0, rfl, w0⟩ := part_int Try.underlying3 h0
  obtain ⟨n1, rfl, w1⟩ := part_int Try.underlying3 h1
  obtain ⟨n2, rfl, w2⟩ := part_int Try.underlying5 h2
  obtain ⟨n3, rfl, w3⟩ := part_int Try.underlying24 h3
  exact ⟨(n0, n1, n2, n3), rfl, w3⟩

set_option maxRecDepth 100000 in
/-- The events among the arguments. -/
theorem open_evs {v : Value} {d : DataW H} {p : List MemPlace} {base' : Nat} {v0 : List View} (hv0 : ViewOk v0 w) (hok : Value.okWide Try.prog w .any base' 32 v) (h : DataW.Trod enc Try.prog w base (fun _ => true) held 32 v d p) (hz : ∀ n ∈ d.weights Try.prog 32, n ≤ reachBytes) :
    ∃ (v1 : List View) (sl : Value) (A : List Ev), ViewOk (v0 ++ v1) w ∧ VRel (viewG (v0 ++ v1)) sl v ∧ (∀ x ∈ A, (Lit.int .u64 x.2.2.2).wf = true) ∧ A.length ≤ reachBytes ∧
      ((sl = .slice none 0 0 ∧ A = []) ∨ ∃ cap, sl = .slice (some ⟨v0.length, 0, none⟩) A.length cap ∧ A.length ≤ cap ∧ cap < 4611686018427387904 ∧ (viewH (v0 ++ v1)).get v0.length = some (.cells (PT.ofList .leaf 0 (evCs A)) true)) := by
  unfold Value.okWide at hok
  rw [Try.underlying32] at hok
  simp only at hok
  obtain ⟨fuel, h⟩ := h
  have hv : ∃ a len cap, v = .slice a len cap := by
    unfold Cell.okWide at hok
    rw [Try.underlying32] at hok
    cases v <;> first | exact ⟨_, _, _, rfl⟩ | (simp [Cell.ok, Try.underlying32] at hok; done)
  obtain ⟨a0, len, cap, rfl⟩ := hv
  rcases trod_slice_at Try.underlying32 h with e | ⟨a, len', cap', elems, rest, e, hx, hcap, hle, fuel', hel⟩
  · simp only [Value.cells, List.cons.injEq, and_true] at e
    cases e
    exact ⟨[], .slice none 0 0, [], by rw [List.append_nil]; exact hv0, .nilslice 0 0, by simp, by simp, .inl ⟨rfl, rfl⟩⟩
  · simp only [Value.cells, List.cons.injEq, and_true] at e
    cases e
    unfold Cell.okWide at hok
    rw [Try.underlying32] at hok
    simp only [Cell.ok, Try.underlying32] at hok
    obtain ⟨-, -, -, hspot, row, cells, hshape, -⟩ := hok
    have hcells : ∃ c el fz, w.heap[a.block]? = some (.cells c el fz) := by
      unfold World.shape? at hshape
      split at hshape
      · exact ⟨_, _, _, by assumption⟩
      · simp at hshape
    obtain ⟨c, el, fz, hc⟩ := hcells
    obtain ⟨A, hAl, hAs⟩ : ∃ A : List Ev, A.length = len ∧ ∀ (i : Nat) x, A[i]? = some x → (∀ (j : Nat) u, (evC x)[j]? = some u → c[a.off + (i * 4 + j)]? = some u) ∧ (Lit.int .u64 x.2.2.2).wf = true := by
      refine list_of len fun i hi => ?_
      obtain ⟨l, y, hl, -, hy⟩ := hel i hi
      rw [cells75] at hl
      obtain ⟨x, rfl, hw⟩ := ev_cells hy
      refine ⟨x, fun j u hu => ?_, hw⟩
      have hv := cells?_at hl hu
      unfold World.cell? at hv
      have e0 : (a.add (i * 4)).add j = ⟨a.block, a.off + (i * 4 + j), none⟩ := by
        obtain ⟨ab, ao, asp⟩ := a
        simp only at hspot
        subst hspot
        unfold Addr.add
        by_cases hi0 : i * 4 = 0
        · by_cases hj0 : j = 0
          · simp [hi0, hj0]
          · simp [hi0, hj0]
        · by_cases hj0 : j = 0
          · simp [hi0, hj0]
          · simp [hi0, hj0, Nat.add_assoc]
      rw [e0] at hv
      simp only [hc] at hv
      simpa using hv
    have hsz : cap * Try.prog.bytesOf 75 ≤ reachBytes := by
      refine hz _ ?_
      simp only at hx
      rw [hx]
      simp only [DataW.weights, Try.underlying32]
      rw [hcap]
      exact List.mem_cons_self
    rw [bytes75] at hsz
    have hlt : ¬ capInf ≤ cap := by
      have : reachBytes < capInf := by decide
      omega
    subst hAl
    have hget : ∀ i x, (evCs A)[i]? = some x → c[a.off + i]? = some x ∧ VRel (viewG (v0 ++ [⟨a.block, a.off, evCs A⟩])) x x := by
      intro i x hx
      obtain ⟨y, h1, h2⟩ := evCs_get hx
      have h3 := (hAs _ _ h1).1 _ _ h2
      rw [show i / 4 * 4 + i % 4 = i by omega] at h3
      refine ⟨h3, ?_⟩
      have hm := List.mem_of_getElem? h2
      simp only [evC, List.mem_cons, List.not_mem_nil, or_false] at hm
      rcases hm with rfl | rfl | rfl | rfl <;> exact .int _ _
    refine ⟨[⟨a.block, a.off, evCs A⟩], .slice (some ⟨v0.length, 0, none⟩) A.length cap, A, viewOk_snoc hv0 ⟨c, el, fz, hc, fun i x hx => ⟨x, hget i x hx⟩⟩, ?_, fun x hx => ?_, by omega, .inr ⟨cap, rfl, by omega, by unfold capInf at hlt; omega, ?_⟩⟩
    · refine .slice _ _ _ _ _ (.inl ⟨rfl, hspot, a.off, ?_, rfl⟩) ?_
      · simp [viewG]
      · unfold Emb.cap
        rw [if_neg hlt]
    · obtain ⟨i, hi⟩ := List.getElem?_of_mem hx
      exact (hAs i x hi).2
    · rw [viewH_get, List.getElem?_append_right (Nat.le_refl _), Nat.sub_self]; rfl
/-- The values of the events are numbers of 64 bits. -/
theorem vals_ok {E : List Ev} (h : ∀ x ∈ E, (Lit.int .u64 x.2.2.2).wf = true) : okVals E := fun x hx => by
  have := h x hx
  simp only [Lit.wf, Bool.and_eq_true, decide_eq_true_eq] at this
  have e1 : IntKind.u64.min = 0 := rfl
  have e2 : IntKind.u64.max = 18446744073709551615 := rfl
  omega
end
end Go.Proofs.Ytknelmeaegldmaa
