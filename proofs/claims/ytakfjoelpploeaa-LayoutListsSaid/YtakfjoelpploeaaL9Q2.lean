/-
  A part of the proof of the laws of layer 9: contracts of inner functions.
-/
import Derived.Test.YtakfjoelpploeaaL9Q1
import Derived.Test.YtakfjoelpploeaaL9W
set_option linter.unusedVariables false
set_option linter.unusedSimpArgs false
namespace Go.Proofs.Ytakfjoelpploeaa
open Go.Am

noncomputable abbrev O8 : Over := tabO [(16, layCheckS), (46, engineS), (44, valuesS), (45, placeS), (31, latchS), (29, nextS), (20, placesS), (35, trueS)]
theorem O8ok : SoundO Try.prog O8 := tab_sound (.cons layCheckF (.cons engineF (.cons valuesF (.cons placeF (.cons latchF (.cons nextF (.cons placesF (.cons worksF .nil))))))))

theorem isHead_neg {l : LayV} {v : Int} (h0 : 0 ≤ v) (h1 : v ≤ 64) : isHead l (-1 - v) ↔ v < l.V := by
  unfold isHead
  rw [show (-1 : Int) - (-1 - v) = v by omega, wrap_i64 (by omega) (by omega)]
  constructor
  · exact fun h => h.2
  · exact fun h => ⟨by omega, h⟩
theorem headA_neg {l : LayV} {v : Int} (h0 : 0 ≤ v) (h1 : v ≤ 64) (h2 : 0 ≤ l.P.getD 7 0) (h3 : l.P.getD 7 0 ≤ 100000) : headA l (-1 - v) = l.P.getD 7 0 + v * 7 := by
  unfold headA
  rw [show (-1 : Int) - (-1 - v) = v by omega, wrap_i64 (x := v) (by omega) (by omega), wrap_i64 (x := v * 7) (by omega) (by omega), wrap_i64 (by omega) (by omega)]
theorem ltcE_head {l : LayV} {v : Int} (h0 : 0 ≤ v) (h1 : v ≤ 64) (hv : v < l.V) : ltcE l (-1 - v) = 0 := by
  unfold ltcE; rw [if_pos ((isHead_neg h0 h1).2 hv)]
theorem ltcE_none {l : LayV} {v : Int} (h0 : 0 ≤ v) (h1 : v ≤ 64) (hv : ¬ v < l.V) : ltcE l (-1 - v) = 3 := by
  unfold ltcE; rw [if_neg (fun h => hv ((isHead_neg h0 h1).1 h))]; unfold wrdE; rw [if_neg (by omega)]
theorem ltcA_head {l : LayV} {v : Int} (h0 : 0 ≤ v) (h1 : v ≤ 64) (hv : v < l.V) (h2 : 0 ≤ l.P.getD 7 0) (h3 : l.P.getD 7 0 ≤ 100000) : ltcA l (-1 - v) = l.P.getD 7 0 + v * 7 := by
  unfold ltcA; rw [if_pos ((isHead_neg h0 h1).2 hv), headA_neg h0 h1 h2 h3]
theorem nxtE_head {l : LayV} {v lv : Int} (h0 : 0 ≤ v) (h1 : v ≤ 64) (hv : v < l.V) (h4 : 0 ≤ lv) (h5 : lv ≤ 5) : nxtE l (-1 - v) lv = 0 := by
  unfold nxtE; rw [if_pos ⟨(isHead_neg h0 h1).2 hv, h4, h5⟩]
theorem nxtA_head {l : LayV} {v lv : Int} (h0 : 0 ≤ v) (h1 : v ≤ 64) (hv : v < l.V) (h4 : 0 ≤ lv) (h5 : lv ≤ 5) (h2 : 0 ≤ l.P.getD 7 0) (h3 : l.P.getD 7 0 ≤ 100000) : nxtA l (-1 - v) lv = l.P.getD 7 0 + v * 7 + 1 + lv := by
  unfold nxtA; rw [if_pos ⟨(isHead_neg h0 h1).2 hv, h4, h5⟩, headA_neg h0 h1 h2 h3, wrap_i64 (x := l.P.getD 7 0 + v * 7 + 1) (by omega) (by omega), wrap_i64 (by omega) (by omega)]
theorem nxtE_over {l : LayV} {v : Int} (h0 : 0 ≤ v) (h1 : v ≤ 64) : nxtE l (-1 - v) 6 = 3 := by
  unfold nxtE; rw [if_neg (by omega), if_neg]; unfold nxtH; omega

set_option maxRecDepth 100000 in
set_option maxHeartbeats 4000000 in
theorem lists (th sl en bu kd dn t0 t1 t2 t3 t4 t5 lo tr ba : Int) (s : Value) (xs : List Int) (h : PT ABlk) (N : Nat) (hW : WfH h N) (hs : IsInts .u64 h s xs) (hl : xs.length < 1000000000000000) :
    EvB Try.prog O8 8 [.agg ⟨[.int .i64 th, .int .i64 sl, .int .u8 en, .int .i64 bu, .int .u8 kd, .int .i64 dn, s, .int .i64 t0, .int .i64 t1, .int .i64 t2, .int .i64 t3, .int .i64 t4, .int .i64 t5, .int .i64 lo, .int .i64 tr, .int .i64 ba]⟩] h N fun v _ _ => v = .bool true := by
  refine EvB_run (N := 86) Try.func8 rfl rfl fun z hP hO hro hN hQ => ?_
  repeat' first | simp (config := { maxSteps := 2000000 }) (disch := first | omega | (repeat first | assumption | exact Kept.refl _ | refine Kept.set' (by assumption) ?_ ?_ | refine Kept.set (by assumption) ?_ ?_ | omega)) only [go_sem, *, Try.results8, Nat.reduceLT, Nat.reduceAdd, Nat.reduceMul, Nat.reduceSub, Nat.reduceEqDiff, Nat.reduceLeDiff, Int.reduceToNat, Int.reduceLT, Int.reduceLE, Int.reduceEq, Int.reduceNe, Int.reduceAdd, Int.reduceSub, Int.reduceMul, Int.reduceNeg, ↓reduceIte, reduceCtorEq] | (apply EvG_ndec <;> intro _) | (apply EvC_ndec <;> intro _) | (apply EvG_dec <;> intro _) | (apply EvC_dec <;> intro _) | fail | (apply EvH_ndec <;> intro _) | (apply EvH_dec <;> intro _) | (apply EvC_nbool <;> intro _) | (apply EvC_bool <;> intro _) | (apply EvG_nbool <;> intro _) | (apply EvG_bool <;> intro _) | (apply EvH_nbool <;> intro _) | (apply EvH_bool <;> intro _)
  refine EvQ_call ?_ ?_ (by rw [hP, hO]; exact (layNewL rfl rfl rfl rfl (fun _ => rfl) th sl en bu kd dn t0 t1 t2 t3 t4 t5 lo tr ba s xs _ _ (hW.set (Nat.le_succ _) (Nat.lt_succ_self _)) (hs.keep (hW.kept (Nat.le_refl _))) hl).wf (hW.set (Nat.le_succ _) (Nat.lt_succ_self _))) ?_
  · simp (config := { maxSteps := 2000000 }) (disch := first | omega | (repeat first | assumption | exact Kept.refl _ | refine Kept.set' (by assumption) ?_ ?_ | refine Kept.set (by assumption) ?_ ?_ | omega)) only [go_sem, *, Nat.reduceLT, Nat.reduceAdd, Nat.reduceMul, Nat.reduceSub, Nat.reduceEqDiff, Nat.reduceLeDiff, Int.reduceToNat, Int.reduceLT, Int.reduceLE, Int.reduceEq, Int.reduceNe, Int.reduceAdd, Int.reduceSub, Int.reduceMul, Int.reduceNeg, ↓reduceIte, reduceCtorEq]
  · simp (config := { maxSteps := 2000000 }) (disch := first | omega | (repeat first | assumption | exact Kept.refl _ | refine Kept.set' (by assumption) ?_ ?_ | refine Kept.set (by assumption) ?_ ?_ | omega)) only [go_sem, *, Nat.reduceLT, Nat.reduceAdd, Nat.reduceMul, Nat.reduceSub, Nat.reduceEqDiff, Nat.reduceLeDiff, Int.reduceToNat, Int.reduceLT, Int.reduceLE, Int.reduceEq, Int.reduceNe, Int.reduceAdd, Int.reduceSub, Int.reduceMul, Int.reduceNeg, ↓reduceIte, reduceCtorEq]
  · rintro v h2 n2 ⟨⟨e1, rfl, hk⟩ | ⟨lb, l, gb, cv, rfl, hk, hNl, hnew⟩, hn2, hW2⟩
    · repeat' first | simp (config := { maxSteps := 2000000 }) (disch := first | omega | (repeat first | assumption | exact Kept.refl _ | refine Kept.set' (by assumption) ?_ ?_ | refine Kept.set (by assumption) ?_ ?_ | omega)) only [go_sem, *, Try.results8, trueS, Nat.reduceLT, Nat.reduceAdd, Nat.reduceMul, Nat.reduceSub, Nat.reduceEqDiff, Nat.reduceLeDiff, Int.reduceToNat, Int.reduceLT, Int.reduceLE, Int.reduceEq, Int.reduceNe, Int.reduceAdd, Int.reduceSub, Int.reduceMul, Int.reduceNeg, ↓reduceIte, reduceCtorEq] | (apply EvG_ndec <;> intro _) | (apply EvC_ndec <;> intro _) | (apply EvG_dec <;> intro _) | (apply EvC_dec <;> intro _) | fail | (apply EvH_ndec <;> intro _) | (apply EvH_dec <;> intro _) | (apply EvC_nbool <;> intro _) | (apply EvC_bool <;> intro _) | (apply EvG_nbool <;> intro _) | (apply EvG_bool <;> intro _) | (apply EvH_nbool <;> intro _) | (apply EvH_bool <;> intro _)
    · have hl0 := hnew.look
      obtain ⟨hp7, hp7'⟩ := p7_bound hnew.ok
      obtain ⟨hv1, hv2⟩ := domCount_pos (cfgOk_facts hnew.ok).1
      have hPe := hnew.P
      unfold placesOf at hPe
      have hV := hnew.V
      generalize p7Of sl en bu lo (hts 1 [t0, t1, t2, t3, t4, t5]) = p7 at hPe hp7 hp7'
      generalize adrEnd (p7 + domCount kd dn xs * 7) (hts 1 [t0, t1, t2, t3, t4, t5]) = p9 at hPe
      rw [← hV] at hv1 hv2 hPe
      have hg7 : l.P.getD 7 0 = p7 := by rw [hPe]; rfl
      have hq1 : 0 ≤ l.P.getD 7 0 := by omega
      have hq2 : l.P.getD 7 0 ≤ 100000 := by omega
      clear hnew hV hk hs
      have hrl := fun h' hk z f d ops r K m n => @EvV_look _ _ _ _ h' hl0 z f d ops r K m n hk
      clear hl0
      repeat' first | simp (config := { maxSteps := 2000000 }) (disch := first | omega | (repeat first | assumption | exact Kept.refl _ | refine Kept.set' (by assumption) ?_ ?_ | refine Kept.set (by assumption) ?_ ?_ | omega)) only [go_sem, *, Try.results8, Nat.reduceLT, Nat.reduceAdd, Nat.reduceMul, Nat.reduceSub, Nat.reduceEqDiff, Nat.reduceLeDiff, Int.reduceToNat, Int.reduceLT, Int.reduceLE, Int.reduceEq, Int.reduceNe, Int.reduceAdd, Int.reduceSub, Int.reduceMul, Int.reduceNeg, ↓reduceIte, reduceCtorEq] | (apply EvG_ndec <;> intro _) | (apply EvC_ndec <;> intro _) | (apply EvG_dec <;> intro _) | (apply EvC_dec <;> intro _) | fail | (apply EvH_ndec <;> intro _) | (apply EvH_dec <;> intro _) | (apply EvC_nbool <;> intro _) | (apply EvC_bool <;> intro _) | (apply EvG_nbool <;> intro _) | (apply EvG_bool <;> intro _) | (apply EvH_nbool <;> intro _) | (apply EvH_bool <;> intro _)
      refine ind_loop (fun t m h' n' => ∃ v : Nat, (v : Int) ≤ l.V ∧ t = 64 - v ∧ m.n = 86 ∧ m.dfs = [] ∧ m.get 3 = .pointer (some ⟨lb, 0, none⟩) ∧ m.get 5 = .int .i64 v ∧ m.get 6 = .int .i64 v ∧ h2 = h' ∧ n2 = n') 64 ?_ ?_
      · refine ⟨0, by omega, by omega, ?_⟩
        simp (config := { maxSteps := 2000000 }) (disch := first | omega | (repeat first | assumption | exact Kept.refl _ | refine Kept.set' (by assumption) ?_ ?_ | refine Kept.set (by assumption) ?_ ?_ | omega)) only [go_sem, *, Nat.reduceLT, Nat.reduceAdd, Nat.reduceMul, Nat.reduceSub, Nat.reduceEqDiff, Nat.reduceLeDiff, Int.reduceToNat, Int.reduceLT, Int.reduceLE, Int.reduceEq, Int.reduceNe, Int.reduceAdd, Int.reduceSub, Int.reduceMul, Int.reduceNeg, ↓reduceIte, reduceCtorEq]
        all_goals simp
      · rintro t m h' n' ih ⟨v, hv, rfl, m1, m2, m3, m4, m5, e1, e2⟩
        subst e1; subst e2
        by_cases hvV : (v : Int) < l.V
        · have b0 : (0 : Int) ≤ v := by omega
          have b1 : (v : Int) ≤ 64 := by omega
          clear hPe
          repeat' first | simp (config := { maxSteps := 2000000 }) (disch := first | omega | (repeat first | assumption | exact Kept.refl _ | refine Kept.set' (by assumption) ?_ ?_ | refine Kept.set (by assumption) ?_ ?_ | omega)) only [go_sem, *, Try.results8, latchS, latchV, ltcE_head, ltcA_head, Nat.reduceLT, Nat.reduceAdd, Nat.reduceMul, Nat.reduceSub, Nat.reduceEqDiff, Nat.reduceLeDiff, Int.reduceToNat, Int.reduceLT, Int.reduceLE, Int.reduceEq, Int.reduceNe, Int.reduceAdd, Int.reduceSub, Int.reduceMul, Int.reduceNeg, ↓reduceIte, reduceCtorEq] | (apply EvG_ndec <;> intro _) | (apply EvC_ndec <;> intro _) | (apply EvG_dec <;> intro _) | (apply EvC_dec <;> intro _) | fail | (apply EvH_ndec <;> intro _) | (apply EvH_dec <;> intro _) | (apply EvC_nbool <;> intro _) | (apply EvC_bool <;> intro _) | (apply EvG_nbool <;> intro _) | (apply EvG_bool <;> intro _) | (apply EvH_nbool <;> intro _) | (apply EvH_bool <;> intro _)
          refine ind_loop (fun t m h' n' => ∃ j : Nat, j ≤ 6 ∧ t = 6 - j ∧ m.n = 86 ∧ m.dfs = [] ∧ m.get 3 = .pointer (some ⟨lb, 0, none⟩) ∧ m.get 5 = .int .i64 (v + 1) ∧ m.get 6 = .int .i64 v ∧ m.get 7 = .int .i64 (p7 + v * 7) ∧ m.get 9 = .int .i64 j ∧ h2 = h' ∧ n2 = n') 6 ?_ ?_
          · refine ⟨0, by omega, by omega, ?_⟩
            simp (config := { maxSteps := 2000000 }) (disch := first | omega | (repeat first | assumption | exact Kept.refl _ | refine Kept.set' (by assumption) ?_ ?_ | refine Kept.set (by assumption) ?_ ?_ | omega)) only [go_sem, *, Nat.reduceLT, Nat.reduceAdd, Nat.reduceMul, Nat.reduceSub, Nat.reduceEqDiff, Nat.reduceLeDiff, Int.reduceToNat, Int.reduceLT, Int.reduceLE, Int.reduceEq, Int.reduceNe, Int.reduceAdd, Int.reduceSub, Int.reduceMul, Int.reduceNeg, ↓reduceIte, reduceCtorEq]
            all_goals simp
          · clear m1 m2 m3 m4 m5
            rintro t m h' n' ih2 ⟨j, hj, rfl, m1, m2, m3, m4, m5, m6, m7, e1, e2⟩
            subst e1; subst e2
            by_cases hj6 : (j : Int) < 6
            · have b2 : (0 : Int) ≤ j := by omega
              have b3 : (j : Int) ≤ 5 := by omega
              clear ih
              repeat' first | simp (config := { maxSteps := 2000000 }) (disch := first | omega | (repeat first | assumption | exact Kept.refl _ | refine Kept.set' (by assumption) ?_ ?_ | refine Kept.set (by assumption) ?_ ?_ | omega)) only [go_sem, *, Try.results8, nextS, nextV, nxtE_head, nxtA_head, Nat.reduceLT, Nat.reduceAdd, Nat.reduceMul, Nat.reduceSub, Nat.reduceEqDiff, Nat.reduceLeDiff, Int.reduceToNat, Int.reduceLT, Int.reduceLE, Int.reduceEq, Int.reduceNe, Int.reduceAdd, Int.reduceSub, Int.reduceMul, Int.reduceNeg, ↓reduceIte, reduceCtorEq] | (apply EvG_ndec <;> intro _) | (apply EvC_ndec <;> intro _) | (apply EvG_dec <;> intro _) | (apply EvC_dec <;> intro _) | fail | (apply EvH_ndec <;> intro _) | (apply EvH_dec <;> intro _) | (apply EvC_nbool <;> intro _) | (apply EvC_bool <;> intro _) | (apply EvG_nbool <;> intro _) | (apply EvG_bool <;> intro _) | (apply EvH_nbool <;> intro _) | (apply EvH_bool <;> intro _)
              refine ih2 (6 - (j + 1)) _ _ _ (by omega) ⟨j + 1, by omega, by omega, ?_⟩
              clear ih2
              simp (config := { maxSteps := 2000000 }) (disch := first | omega | (repeat first | assumption | exact Kept.refl _ | refine Kept.set' (by assumption) ?_ ?_ | refine Kept.set (by assumption) ?_ ?_ | omega)) only [go_sem, *, Nat.reduceLT, Nat.reduceAdd, Nat.reduceMul, Nat.reduceSub, Nat.reduceEqDiff, Nat.reduceLeDiff, Int.reduceToNat, Int.reduceLT, Int.reduceLE, Int.reduceEq, Int.reduceNe, Int.reduceAdd, Int.reduceSub, Int.reduceMul, Int.reduceNeg, ↓reduceIte, reduceCtorEq]
              all_goals simp
            · obtain rfl : j = 6 := by omega
              clear ih2
              repeat' first | simp (config := { maxSteps := 2000000 }) (disch := first | omega | (repeat first | assumption | exact Kept.refl _ | refine Kept.set' (by assumption) ?_ ?_ | refine Kept.set (by assumption) ?_ ?_ | omega)) only [go_sem, *, Try.results8, nextS, nextV, nxtE_over, Nat.reduceLT, Nat.reduceAdd, Nat.reduceMul, Nat.reduceSub, Nat.reduceEqDiff, Nat.reduceLeDiff, Int.reduceToNat, Int.reduceLT, Int.reduceLE, Int.reduceEq, Int.reduceNe, Int.reduceAdd, Int.reduceSub, Int.reduceMul, Int.reduceNeg, ↓reduceIte, reduceCtorEq] | (apply EvG_ndec <;> intro _) | (apply EvC_ndec <;> intro _) | (apply EvG_dec <;> intro _) | (apply EvC_dec <;> intro _) | fail | (apply EvH_ndec <;> intro _) | (apply EvH_dec <;> intro _) | (apply EvC_nbool <;> intro _) | (apply EvC_bool <;> intro _) | (apply EvG_nbool <;> intro _) | (apply EvG_bool <;> intro _) | (apply EvH_nbool <;> intro _) | (apply EvH_bool <;> intro _)
              refine ih (64 - (v + 1)) _ _ _ (by omega) ⟨v + 1, by omega, by omega, ?_⟩
              clear ih
              simp (config := { maxSteps := 2000000 }) (disch := first | omega | (repeat first | assumption | exact Kept.refl _ | refine Kept.set' (by assumption) ?_ ?_ | refine Kept.set (by assumption) ?_ ?_ | omega)) only [go_sem, *, Nat.reduceLT, Nat.reduceAdd, Nat.reduceMul, Nat.reduceSub, Nat.reduceEqDiff, Nat.reduceLeDiff, Int.reduceToNat, Int.reduceLT, Int.reduceLE, Int.reduceEq, Int.reduceNe, Int.reduceAdd, Int.reduceSub, Int.reduceMul, Int.reduceNeg, ↓reduceIte, reduceCtorEq]
              all_goals simp
        · have b0 : (0 : Int) ≤ v := by omega
          have b1 : (v : Int) ≤ 64 := by omega
          have hvV2 : (v : Int) = l.V := by omega
          clear ih
          repeat' first | simp (config := { maxSteps := 2000000 }) (disch := first | omega | (repeat first | assumption | exact Kept.refl _ | refine Kept.set' (by assumption) ?_ ?_ | refine Kept.set (by assumption) ?_ ?_ | omega)) only [go_sem, *, Try.results8, latchS, latchV, ltcE_none, placesS, trueS, Nat.reduceLT, Nat.reduceAdd, Nat.reduceMul, Nat.reduceSub, Nat.reduceEqDiff, Nat.reduceLeDiff, Int.reduceToNat, Int.reduceLT, Int.reduceLE, Int.reduceEq, Int.reduceNe, Int.reduceAdd, Int.reduceSub, Int.reduceMul, Int.reduceNeg, ↓reduceIte, reduceCtorEq] | (apply EvG_ndec <;> intro _) | (apply EvC_ndec <;> intro _) | (apply EvG_dec <;> intro _) | (apply EvC_dec <;> intro _) | fail | (apply EvH_ndec <;> intro _) | (apply EvH_dec <;> intro _) | (apply EvC_nbool <;> intro _) | (apply EvC_bool <;> intro _) | (apply EvG_nbool <;> intro _) | (apply EvG_bool <;> intro _) | (apply EvH_nbool <;> intro _) | (apply EvH_bool <;> intro _)
          all_goals (exfalso; omega)
end Go.Proofs.Ytakfjoelpploeaa
