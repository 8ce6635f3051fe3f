/-
  A part of the proof: contracts of inner functions.
-/
import Derived.Test.YthhohpbghfbkbaaE3G
import Derived.Test.YthhohpbghfbkbaaE2L
set_option linter.unusedVariables false
set_option linter.unusedSimpArgs false
namespace Go.Proofs.Ythhohpbghfbkbaa
open Go.Am

structure QuO (O : Over) : Prop extends StO O where
  o50 : O 45 = sortS
  o41 : O 36 = fun _ => none
  o48 : O 43 = fun _ => none
  o49 : O 44 = fun _ => none
  o51 : O 46 = fun _ => none
  o58 : O 55 = fun _ => none
  o27 : O 28 = fun _ => none
  o43 : O 38 = fun _ => none
set_option maxHeartbeats 2000000 in
/-- The closure of Quiet: a wait and a section meet. -/
theorem meetsB {O : Over} (fr y1 y2 b e x1 x2 x3 d : Int) (bw bf : Nat) (h : PT ABlk) (n : Nat) (hw : h.get bw = some (.cells (PT.ofList .leaf 0 [.int .i64 x1, .int .u64 x2, .int .i64 x3, .int .i64 d]) false)) (hf : h.get bf = some (.cells (PT.ofList .leaf 0 [.int .i64 fr]) false)) :
    EvB Try.prog O 32 [.int .i64 b, .int .i64 e, .pointer (some ⟨bw, 0, none⟩), .pointer (some ⟨bf, 0, none⟩)] h n fun q h' n' => q = .bool (meets (x1, x2, x3, d) fr (y1, y2, b, e)) ∧ h' = h ∧ n' = n := by
  have hm : meets (x1, x2, x3, d) fr (y1, y2, b, e) = decide ((d < 0 ∨ b ≤ d) ∧ (e < 0 ∨ fr ≤ e)) := rfl
  rw [hm]
  clear hm
  refine EvB_run (N := 25) Try.func32 rfl rfl fun z hP hO hro hN hQ => ?_
  by_cases c1 : d < 0
  · by_cases c2 : e < 0
    · repeat' first | simp (config := { maxSteps := 2000000 }) (disch := omega) only [go_sem, *, Try.results32] | (first | apply EvG_ndec | apply EvC_ndec | apply EvG_dec | apply EvC_dec | apply EvC_nbool | apply EvC_bool | apply EvG_nbool | apply EvG_bool) <;> intro _
    · by_cases c3 : fr ≤ e
      · repeat' first | simp (config := { maxSteps := 2000000 }) (disch := omega) only [go_sem, *, Try.results32] | (first | apply EvG_ndec | apply EvC_ndec | apply EvG_dec | apply EvC_dec | apply EvC_nbool | apply EvC_bool | apply EvG_nbool | apply EvG_bool) <;> intro _
      · repeat' first | simp (config := { maxSteps := 2000000 }) (disch := omega) only [go_sem, *, Try.results32] | (first | apply EvG_ndec | apply EvC_ndec | apply EvG_dec | apply EvC_dec | apply EvC_nbool | apply EvC_bool | apply EvG_nbool | apply EvG_bool) <;> intro _
  · by_cases c4 : b ≤ d
    · by_cases c2 : e < 0
      · repeat' first | simp (config := { maxSteps := 2000000 }) (disch := omega) only [go_sem, *, Try.results32] | (first | apply EvG_ndec | apply EvC_ndec | apply EvG_dec | apply EvC_dec | apply EvC_nbool | apply EvC_bool | apply EvG_nbool | apply EvG_bool) <;> intro _
      · by_cases c3 : fr ≤ e
        · repeat' first | simp (config := { maxSteps := 2000000 }) (disch := omega) only [go_sem, *, Try.results32] | (first | apply EvG_ndec | apply EvC_ndec | apply EvG_dec | apply EvC_dec | apply EvC_nbool | apply EvC_bool | apply EvG_nbool | apply EvG_bool) <;> intro _
        · repeat' first | simp (config := { maxSteps := 2000000 }) (disch := omega) only [go_sem, *, Try.results32] | (first | apply EvG_ndec | apply EvC_ndec | apply EvG_dec | apply EvC_dec | apply EvC_nbool | apply EvC_bool | apply EvG_nbool | apply EvG_bool) <;> intro _
    · repeat' first | simp (config := { maxSteps := 2000000 }) (disch := omega) only [go_sem, *, Try.results32] | (first | apply EvG_ndec | apply EvC_ndec | apply EvG_dec | apply EvC_dec | apply EvC_nbool | apply EvC_bool | apply EvG_nbool | apply EvG_bool) <;> intro _
theorem quietB_at {kd k fr : Int} {wn : Nat} {E : List Ev} (hw : wn < (refS 3 E).length) : quietB kd k wn fr E = (qSec kd k (refS 3 E)[wn] fr (refS 1 E) && qWt (refS 3 E)[wn] fr wn 0 (refS 3 E)) := by
  unfold quietB
  rw [Int.toNat_natCast, List.getElem?_eq_getElem hw]
theorem con_nat {kd : Int} {k : Nat} {a c d s1 s3 s4 : Int} {s v : Nat} : con kd k (a, s, c, d) (s1, v, s3, s4) = conV kd k s v := rfl
end Go.Proofs.Ythhohpbghfbkbaa

set_option linter.unusedVariables false
set_option linter.unusedSimpArgs false
namespace Go.Proofs.Ythhohpbghfbkbaa
open Go.Am

set_option maxRecDepth 100000 in
set_option maxHeartbeats 4000000 in
theorem quietP {O : Over} (H : QuO O) (kd k wait fr : Int) (E : List Ev) (s : Value) (hv : okVals E) (hn : E.length ≤ 100000) (h : PT ABlk) (N : Nat) (hW : WfH h N) (hs : IsEvs h s E) :
    EvB Try.prog O 14 [.int .u8 kd, .int .i64 k, .int .i64 wait, .int .i64 fr, s] h N fun v h' n' => v = quietV kd k wait fr E ∧ Kept h h' := by
  unfold quietV
  have o33 := H.o33
  have o34 := H.o34
  have o27 := H.o27
  have o43 := H.o43
  refine EvB_run (N := 84) Try.func14 rfl rfl fun z hP hO hro hN hQ => ?_
  repeat' first | simp (config := { maxSteps := 2000000 }) (disch := omega) only [go_sem, *, Try.results14] | (first | apply EvG_ndec | apply EvC_ndec | apply EvG_dec | apply EvC_dec | apply EvC_nbool | apply EvC_bool | apply EvG_nbool | apply EvG_bool) <;> intro _
  generalize hh1 : PT.set h N _ = h1
  have hr1 : h1.get N = some (.cells (PT.ofList .leaf 0 [.int .i64 fr]) false) := get_of_set hh1
  have k1 : Kept h h1 := by rw [← hh1]; exact hW.kept (Nat.le_refl _)
  have w1 : WfH h1 (N + 1) := by rw [← hh1]; exact hW.set (Nat.le_succ _) (Nat.lt_succ_self _)
  clear hh1
  refine EvQ_call ?_ ?_ (by rw [hP, hO]; exact (foundB H.toStO kd k wait fr E _ hn _ _ w1 (hs.keep k1)).wf w1) ?_
  · simp (config := { maxSteps := 2000000 }) (disch := omega) only [go_sem, *]
  · simp (config := { maxSteps := 2000000 }) (disch := omega) only [go_sem, *]
  rintro v h2 n2 ⟨⟨hf, k2⟩, hn2, w2⟩
  have hr2 := k2 _ _ hr1
  have k02 := k1.trans k2
  clear hr1 k1 w1 k2 hs
  rcases hf with ⟨hq, rfl⟩ | ⟨hq, sl, wl, rfl, hI, hJ⟩
  · rw [if_neg hq] at hQ
    unfold engC
    repeat' first | simp (config := { maxSteps := 2000000 }) (disch := omega) only [go_sem, *, Try.results14] | (first | apply EvG_ndec | apply EvC_ndec | apply EvG_dec | apply EvC_dec | apply EvC_nbool | apply EvC_bool | apply EvG_nbool | apply EvG_bool) <;> intro _
    exact Kept.set' hW (by omega) (Kept.set' hW (by omega) k02)
  · rw [if_pos hq] at hQ
    obtain ⟨hvl, hc, wn, hwl, rfl, hst⟩ := qerr_zero hq
    obtain ⟨kn, rfl⟩ := vld_nat hvl
    obtain ⟨sv, hsv, hsb⟩ := wait_nat hv (List.getElem_mem hwl)
    rw [quietB_at hwl] at hQ
    have hA : ∀ x ∈ refS 1 E, ∃ v : Nat, x.2.1 = v ∧ v < 64 := fun x hx => sec_nat hc hv hx
    obtain ⟨sa, sc, rfl, hrow⟩ := hI.len
    obtain ⟨wa, wc, rfl, hrw⟩ := hJ.len
    have hLA := Nat.le_trans (refS_length 1 E) hn
    have hLW := Nat.le_trans (refS_length 3 E) hn
    clear hI hJ hq hst hv hn hc
    generalize refS 1 E = A at *
    generalize refS 3 E = W at *
    obtain ⟨wb, rfl, hwb⟩ := hrw wn hwl
    have hro4 := secCs_row hwl
    have hpl := secCs_length W
    obtain ⟨⟨x1, x2, x3, x4⟩, hx⟩ : ∃ x, W[wn] = x := ⟨_, rfl⟩
    rw [hx] at hro4 hQ hsv
    simp only [secC] at hro4 hsv
    subst hsv
    have hw' : ¬ (wn : Int) < 0 := by omega
    have hw3 : (wn : Int) < (W.length : Int) := by omega
    have hwbN := w2.lt hwb
    clear hx
    unfold engC
    repeat' first | simp (config := { maxSteps := 2000000 }) (disch := omega) only [go_sem, *, Try.results14] | (first | apply EvG_ndec | apply EvC_ndec | apply EvG_dec | apply EvC_dec | apply EvC_nbool | apply EvC_bool | apply EvG_nbool | apply EvG_bool) <;> intro _
    generalize hh3 : PT.set (PT.set (PT.set (PT.set h2 n2 _) n2 _) (n2 + 1) _) (n2 + 1) _ = h3
    have e2 : h3.get (n2 + 1) = some (.cells (PT.ofList .leaf 0 [.int .i64 x1, .int .u64 sv, .int .i64 x3, .int .i64 x4]) false) := by rw [← hh3]; exact heap_same
    have k3 : Kept h2 h3 := by rw [← hh3]; exact Kept.set' w2 (by omega) (Kept.set' w2 (by omega) (Kept.set' w2 (by omega) (w2.kept (Nat.le_refl _))))
    have w3 : WfH h3 (n2 + 2) := by rw [← hh3]; exact WfH.set' (by omega) (WfH.set' (by omega) (WfH.set' (by omega) (w2.set (by omega) (by omega))))
    clear hh3
    refine EvQ_call ?_ ?_ (by rw [hP, hO]; exact (conB H.o50 H.o41 H.o48 H.o49 H.o51 H.o58 kd kn sv hsb hvl _ _ w3).wf w3) ?_
    · simp (config := { maxSteps := 2000000 }) (disch := omega) only [go_sem, *]
    · simp (config := { maxSteps := 2000000 }) (disch := omega) only [go_sem, *]
    rintro r h4 n4 ⟨⟨b2, b3, b5, rr, cc, rfl, g1, g2, g3, g4, k4⟩, hn4, w4⟩
    have e2' := k4 _ _ e2
    have k24 := k3.trans k4
    have e3' := k24 _ _ hr2
    have hwb' := k24 _ _ hwb
    have k04 := k02.trans k24
    have hrow' : ∀ i, i < A.length → ∃ b, sa = some ⟨b, 0, none⟩ ∧ h4.get b = some (.cells (PT.ofList .leaf 0 (secCs A)) false) := fun i hi => by
      obtain ⟨b, p1, p2⟩ := hrow i hi
      exact ⟨b, p1, k24 _ _ p2⟩
    clear e2 k3 w3 k4 hrow hrw k24 hr2 hwb w2 k02 hwbN hro4
    obtain ⟨Q1, hQ1⟩ : ∃ q, qSec kd kn (x1, sv, x3, x4) fr A = q := ⟨_, rfl⟩
    obtain ⟨Q2, hQ2⟩ : ∃ q, qWt (x1, sv, x3, x4) fr wn 0 W = q := ⟨_, rfl⟩
    rw [hQ1, hQ2] at hQ
    have hN4 : N < n4 := by omega
    have hB4 : n2 + 1 < n4 := by omega
    clear hn2 hn4
    have hwbN := w4.lt hwb'
    repeat' first | simp (config := { maxSteps := 2000000 }) (disch := omega) only [go_sem, *, Try.results14] | (first | apply EvG_ndec | apply EvC_ndec | apply EvG_dec | apply EvC_dec | apply EvC_nbool | apply EvC_bool | apply EvG_nbool | apply EvG_bool) <;> intro _
    refine ind_loop (fun t m h' n' => ∃ i : Nat, i ≤ A.length ∧ t = A.length - i ∧ m.n = 84 ∧ m.dfs = [] ∧ m.get 2 = .int .i64 wn ∧ m.get 14 = .slice (some ⟨wb, 0, none⟩) W.length wc ∧ m.get 17 = .func (.func 32) ⟨[]⟩ ⟨[.pointer (some ⟨n2 + 1, 0, none⟩), .pointer (some ⟨N, 0, none⟩)]⟩ ∧
      m.get 18 = .func (.func 38) ⟨[]⟩ ⟨[.pointer (some ⟨b2, 0, none⟩), .pointer (some ⟨b3, 0, none⟩), .pointer (some ⟨b5, 0, none⟩)]⟩ ∧ m.get 46 = .slice sa A.length sc ∧ m.get 47 = .int .i64 A.length ∧ m.get 48 = .int .i64 i ∧ WfH h' n' ∧ n4 ≤ n' ∧ Kept h4 h' ∧ qSec kd kn (x1, sv, x3, x4) fr (A.drop i) = Q1) A.length ?_ ?_
    · refine ⟨0, by omega, by omega, ?_⟩
      simp (config := { maxSteps := 2000000 }) (disch := omega) only [go_sem, *]
      exact ⟨Nat.le_refl _, Kept.refl _⟩
    · clear hQ1
      rintro t m h' n' ih ⟨i, hi, rfl, m1, m2, m3, m4, m5, m6, m7, m8, m9, q1, q2, q3, q4⟩
      rcases Nat.lt_or_ge i A.length with hlt | hge
      · have e7 : (i : Int) < A.length := by omega
        obtain ⟨b, rfl, hb0⟩ := hrow' i hlt
        rw [qSec_at hlt] at q4
        have hb := q3 _ _ hb0
        have hbN := q1.lt hb
        have hplA : (secCs A).length = A.length * 4 := secCs_length A
        have hro4 := secCs_row hlt
        have hci : ((i + 1 : Nat) : Int) = (i : Int) + 1 := by omega
        obtain ⟨v, hv, hvb⟩ := hA A[i] (List.getElem_mem hlt)
        obtain ⟨⟨th, val, f2, to⟩, hx⟩ : ∃ x, A[i] = x := ⟨_, rfl⟩
        rw [hx] at hro4 q4 hv
        simp only [secC] at hro4 hv
        subst hv
        rw [con_nat] at q4
        clear hQ2 hrow' hb0 hx hA
        repeat' first | simp (config := { maxSteps := 2000000 }) (disch := omega) only [go_sem, *, Try.results14] | (first | apply EvG_ndec | apply EvC_ndec | apply EvG_dec | apply EvC_dec | apply EvC_nbool | apply EvC_bool | apply EvG_nbool | apply EvG_bool) <;> intro _
        generalize hh5 : PT.set (PT.set h' n' _) n' _ = h5
        have r5 : h5.get n' = some (.cells (PT.ofList .leaf 0 [.int .i64 th, .int .u64 v, .int .i64 f2, .int .i64 to]) false) := by rw [← hh5]; exact heap_same
        have k5 : Kept h4 h5 := by rw [← hh5]; exact Kept.set' w4 (by omega) (Kept.set' w4 (by omega) q3)
        have w5 : WfH h5 (n' + 1) := by rw [← hh5]; exact WfH.set' (by omega) (q1.set (by omega) (by omega))
        clear hh5
        refine EvQ_call ?_ ?_ (by rw [hP, hO]; exact conClB kd kn sv v hsb hvb hvl b2 b3 b5 rr cc _ _ (k5 _ _ g1) (k5 _ _ g2) (k5 _ _ g3) fun e => k5 _ _ (g4 e)) ?_
        · simp (config := { maxSteps := 2000000 }) (disch := omega) only [go_sem, *]
        · simp (config := { maxSteps := 2000000 }) (disch := omega) only [go_sem, *]
        rintro r h6 n6 ⟨rfl, rfl, rfl⟩
        cases hcv : conV kd kn sv v with
        | false =>
          rw [hcv] at q4
          simp only [Bool.false_and, Bool.not_false, Bool.true_and] at q4
          repeat' first | simp (config := { maxSteps := 2000000 }) (disch := omega) only [go_sem, *, Try.results14] | (first | apply EvG_ndec | apply EvC_ndec | apply EvG_dec | apply EvC_dec | apply EvC_nbool | apply EvC_bool | apply EvG_nbool | apply EvG_bool) <;> intro _
          refine ih (A.length - (i + 1)) _ _ _ (by omega) ⟨i + 1, by omega, rfl, ?_⟩
          rw [hci]
          clear ih
          simp (config := { maxSteps := 2000000 }) (disch := omega) only [go_sem, *]
          exact (by omega)
        | true =>
          rw [hcv] at q4
          simp only [Bool.true_and] at q4
          repeat' first | simp (config := { maxSteps := 2000000 }) (disch := omega) only [go_sem, *, Try.results14] | (first | apply EvG_ndec | apply EvC_ndec | apply EvG_dec | apply EvC_dec | apply EvC_nbool | apply EvC_bool | apply EvG_nbool | apply EvG_bool) <;> intro _
          refine EvQ_call ?_ ?_ (by rw [hP, hO]; exact meetsB fr th v f2 to x1 sv x3 x4 (n2 + 1) N _ _ (k5 _ _ e2') (k5 _ _ e3')) ?_
          · simp (config := { maxSteps := 2000000 }) (disch := omega) only [go_sem, *]
          · simp (config := { maxSteps := 2000000 }) (disch := omega) only [go_sem, *]
          rintro r h7 n7 ⟨rfl, rfl, rfl⟩
          cases hmm : meets (x1, sv, x3, x4) fr (th, v, f2, to) with
          | true =>
            rw [hmm] at q4
            simp only [Bool.not_true, Bool.false_and] at q4
            subst q4
            simp only [Bool.false_and] at hQ
            have k9 := k04.trans k5
            repeat' first | simp (config := { maxSteps := 2000000 }) (disch := omega) only [go_sem, *, Try.results14] | (first | apply EvG_ndec | apply EvC_ndec | apply EvG_dec | apply EvC_dec | apply EvC_nbool | apply EvC_bool | apply EvG_nbool | apply EvG_bool) <;> intro _
          | false =>
            rw [hmm] at q4
            simp only [Bool.not_false, Bool.true_and] at q4
            repeat' first | simp (config := { maxSteps := 2000000 }) (disch := omega) only [go_sem, *, Try.results14] | (first | apply EvG_ndec | apply EvC_ndec | apply EvG_dec | apply EvC_dec | apply EvC_nbool | apply EvC_bool | apply EvG_nbool | apply EvG_bool) <;> intro _
            refine ih (A.length - (i + 1)) _ _ _ (by omega) ⟨i + 1, by omega, rfl, ?_⟩
            rw [hci]
            clear ih
            simp (config := { maxSteps := 2000000 }) (disch := omega) only [go_sem, *]
            exact (by omega)
      · have e7 : ¬ (i : Int) < A.length := by omega
        obtain rfl : i = A.length := by omega
        rw [List.drop_length] at q4
        simp only [qSec] at q4
        subst q4
        simp only [Bool.true_and] at hQ
        clear ih hA hrow'
        repeat' first | simp (config := { maxSteps := 2000000 }) (disch := omega) only [go_sem, *, Try.results14] | (first | apply EvG_ndec | apply EvC_ndec | apply EvG_dec | apply EvC_dec | apply EvC_nbool | apply EvC_bool | apply EvG_nbool | apply EvG_bool) <;> intro _
        refine ind_loop (fun t m h' n' => ∃ j : Nat, j ≤ W.length ∧ t = W.length - j ∧ m.n = 84 ∧ m.dfs = [] ∧ m.get 2 = .int .i64 wn ∧ m.get 17 = .func (.func 32) ⟨[]⟩ ⟨[.pointer (some ⟨n2 + 1, 0, none⟩), .pointer (some ⟨N, 0, none⟩)]⟩ ∧
          m.get 65 = .slice (some ⟨wb, 0, none⟩) W.length wc ∧ m.get 66 = .int .i64 W.length ∧ m.get 67 = .int .i64 j ∧ WfH h' n' ∧ n4 ≤ n' ∧ Kept h4 h' ∧ qWt (x1, sv, x3, x4) fr wn j (W.drop j) = Q2) W.length ?_ ?_
        · refine ⟨0, by omega, by omega, ?_⟩
          simp (config := { maxSteps := 2000000 }) (disch := omega) only [go_sem, *]
        · clear hQ2
          rintro t m h' n' ih ⟨j, hj, rfl, m1, m2, m3, m5, m7, m8, m9, q1, q2, q3, q4⟩
          rcases Nat.lt_or_ge j W.length with hlt | hge
          · have e7 : (j : Int) < W.length := by omega
            rw [qWt_at hlt] at q4
            have hb := q3 _ _ hwb'
            have hbN : wb < n' := by omega
            have hro4 := secCs_row hlt
            have hci : ((j + 1 : Nat) : Int) = (j : Int) + 1 := by omega
            obtain ⟨⟨th, v, f2, to⟩, hx⟩ : ∃ x, W[j] = x := ⟨_, rfl⟩
            rw [hx] at hro4 q4
            simp only [secC] at hro4
            clear hx
            by_cases hjw : j = wn
            · subst hjw
              simp only [ne_eq, not_true_eq_false, decide_false, Bool.false_and, Bool.not_false, Bool.true_and] at q4
              repeat' first | simp (config := { maxSteps := 2000000 }) (disch := omega) only [go_sem, *, Try.results14] | (first | apply EvG_ndec | apply EvC_ndec | apply EvG_dec | apply EvC_dec | apply EvC_nbool | apply EvC_bool | apply EvG_nbool | apply EvG_bool) <;> intro _
              refine ih (W.length - (j + 1)) _ _ _ (by omega) ⟨j + 1, by omega, rfl, ?_⟩
              rw [hci]
              clear ih
              simp (config := { maxSteps := 2000000 }) (disch := omega) only [go_sem, *]
              exact ⟨WfH.set' (by omega) (q1.set (by omega) (by omega)), by omega, Kept.set' w4 (by omega) (Kept.set' w4 (by omega) q3)⟩
            · have hjw' : ¬ (j : Int) = wn := by omega
              simp only [ne_eq, hjw', not_false_eq_true, decide_true, Bool.true_and] at q4
              clear hjw
              repeat' first | simp (config := { maxSteps := 2000000 }) (disch := omega) only [go_sem, *, Try.results14] | (first | apply EvG_ndec | apply EvC_ndec | apply EvG_dec | apply EvC_dec | apply EvC_nbool | apply EvC_bool | apply EvG_nbool | apply EvG_bool) <;> intro _
              generalize hh5 : PT.set (PT.set h' n' _) n' _ = h5
              have r5 : h5.get n' = some (.cells (PT.ofList .leaf 0 [.int .i64 th, .int .u64 v, .int .i64 f2, .int .i64 to]) false) := by rw [← hh5]; exact heap_same
              have k5 : Kept h4 h5 := by rw [← hh5]; exact Kept.set' w4 (by omega) (Kept.set' w4 (by omega) q3)
              have w5 : WfH h5 (n' + 1) := by rw [← hh5]; exact WfH.set' (by omega) (q1.set (by omega) (by omega))
              clear hh5
              refine EvQ_call ?_ ?_ (by rw [hP, hO]; exact meetsB fr th v f2 to x1 sv x3 x4 (n2 + 1) N _ _ (k5 _ _ e2') (k5 _ _ e3')) ?_
              · simp (config := { maxSteps := 2000000 }) (disch := omega) only [go_sem, *]
              · simp (config := { maxSteps := 2000000 }) (disch := omega) only [go_sem, *]
              rintro r h7 n7 ⟨rfl, rfl, rfl⟩
              cases hmm : meets (x1, sv, x3, x4) fr (th, v, f2, to) with
              | true =>
                rw [hmm] at q4
                simp only [Bool.not_true, Bool.false_and] at q4
                subst q4
                have k9 := k04.trans k5
                repeat' first | simp (config := { maxSteps := 2000000 }) (disch := omega) only [go_sem, *, Try.results14] | (first | apply EvG_ndec | apply EvC_ndec | apply EvG_dec | apply EvC_dec | apply EvC_nbool | apply EvC_bool | apply EvG_nbool | apply EvG_bool) <;> intro _
              | false =>
                rw [hmm] at q4
                simp only [Bool.not_false, Bool.true_and] at q4
                repeat' first | simp (config := { maxSteps := 2000000 }) (disch := omega) only [go_sem, *, Try.results14] | (first | apply EvG_ndec | apply EvC_ndec | apply EvG_dec | apply EvC_dec | apply EvC_nbool | apply EvC_bool | apply EvG_nbool | apply EvG_bool) <;> intro _
                refine ih (W.length - (j + 1)) _ _ _ (by omega) ⟨j + 1, by omega, rfl, ?_⟩
                rw [hci]
                clear ih
                simp (config := { maxSteps := 2000000 }) (disch := omega) only [go_sem, *]
                exact (by omega)
          · have e7 : ¬ (j : Int) < W.length := by omega
            obtain rfl : j = W.length := by omega
            rw [List.drop_length] at q4
            simp only [qWt] at q4
            subst q4
            have k9 := k04.trans q3
            clear ih
            repeat' first | simp (config := { maxSteps := 2000000 }) (disch := omega) only [go_sem, *, Try.results14] | (first | apply EvG_ndec | apply EvC_ndec | apply EvG_dec | apply EvC_dec | apply EvC_nbool | apply EvC_bool | apply EvG_nbool | apply EvG_bool) <;> intro _
end Go.Proofs.Ythhohpbghfbkbaa

set_option linter.unusedVariables false
set_option linter.unusedSimpArgs false
namespace Go.Proofs.Ythhohpbghfbkbaa
open Go.Am

/-- What may hold up a wait after a step. -/
def blk (kd k : Int) (w : Sec) (step : Int) (A : List Sec) : List Sec := if 0 ≤ w.2.2.2 ∧ w.2.2.2 ≤ step then [] else (opn step A).filter (con kd k w)
def blkB (kd k wait step : Int) (E : List Ev) : List Sec := match (refS 3 E)[wait.toNat]? with
  | some w => blk kd k w step (refS 1 E)
  | none => []
def BlkV (kd k wait step : Int) (E : List Ev) (v : Value) (h : PT ABlk) : Prop := (qerr kd k wait step E ≠ 0 ∧ v = .tuple ⟨[.slice none 0 0, .int .i64 (qerr kd k wait step E)]⟩) ∨ (qerr kd k wait step E = 0 ∧ ∃ sl, v = .tuple ⟨[sl, .int .i64 0]⟩ ∧ IsSecs h sl (blkB kd k wait step E))
theorem blkB_at {kd k step : Int} {wn : Nat} {E : List Ev} (hw : wn < (refS 3 E).length) : blkB kd k wn step E = blk kd k (refS 3 E)[wn] step (refS 1 E) := by
  unfold blkB
  rw [Int.toNat_natCast, List.getElem?_eq_getElem hw]
theorem qSec_all {kd k : Int} {w : Sec} {fr : Int} : ∀ {A : List Sec}, qSec kd k w fr A = true → ∀ s ∈ A, con kd k w s = true → meets w fr s = true → False
  | [], _, s, hs, _, _ => by simp at hs
  | x :: A, h, s, hs, h1, h2 => by
    rw [qSec, Bool.and_eq_true] at h
    rcases List.mem_cons.1 hs with rfl | q
    · rw [h1, h2] at h; simp at h
    · exact qSec_all h.2 s q h1 h2
theorem meets_mono {w s : Sec} {fr step : Int} (hs : fr ≤ step) (h : meets w step s = true) : meets w fr s = true := by
  have := of_decide_eq_true h
  exact decide_eq_true (by omega)
theorem and_mono {a b c : Bool} (h : b = true → c = true) (q : (!(a && c)) = true) : (!(a && b)) = true := by
  cases a <;> cases b <;> cases c <;> simp_all
theorem qSec_mono {kd k : Int} {w : Sec} {fr step : Int} (hs : fr ≤ step) : ∀ {A : List Sec}, qSec kd k w fr A = true → qSec kd k w step A = true
  | [], _ => rfl
  | x :: A, h => by
    rw [qSec, Bool.and_eq_true] at h ⊢
    exact ⟨and_mono (meets_mono hs) h.1, qSec_mono hs h.2⟩
theorem qWt_mono {w : Sec} {fr step wait : Int} (hs : fr ≤ step) : ∀ {A : List Sec} {i : Int}, qWt w fr wait i A = true → qWt w step wait i A = true
  | [], _, _ => rfl
  | x :: A, i, h => by
    rw [qWt, Bool.and_eq_true] at h ⊢
    exact ⟨and_mono (meets_mono hs) h.1, qWt_mono hs h.2⟩
theorem blk_nil {kd k : Int} {w : Sec} {fr step : Int} {A : List Sec} (hs : fr ≤ step) (h : qSec kd k w fr A = true) : blk kd k w step A = [] := by
  unfold blk
  split
  · rfl
  · rename_i hw
    rw [List.filter_eq_nil_iff]
    intro s hm hc
    unfold opn at hm
    obtain ⟨x, hx, rfl⟩ := List.mem_map.1 hm
    obtain ⟨hx1, hx2⟩ := List.mem_filter.1 hx
    have hp := of_decide_eq_true hx2
    exact qSec_all h x hx1 hc (decide_eq_true (by omega))
/-- What is quiet stays quiet. -/
theorem later {kd k wait fr step : Int} {E : List Ev} (hq : qerr kd k wait fr E = 0) (hb : quietB kd k wait fr E = true) (hs : fr ≤ step) : qerr kd k wait step E = 0 ∧ quietB kd k wait step E = true ∧ blkB kd k wait step E = [] := by
  obtain ⟨hvl, hc, wn, hwl, rfl, hst⟩ := qerr_zero hq
  rw [quietB_at hwl, Bool.and_eq_true] at hb
  refine ⟨?_, ?_, ?_⟩
  · rw [qerr_in hvl hc hwl, if_pos (by omega)]
  · rw [quietB_at hwl, Bool.and_eq_true]
    exact ⟨qSec_mono hs hb.1, qWt_mono hs hb.2⟩
  · rw [blkB_at hwl]
    exact blk_nil hs hb.1
theorem blk_length {kd k : Int} {w : Sec} {step : Int} {A : List Sec} : (blk kd k w step A).length ≤ A.length := by
  unfold blk opn
  split
  · exact Nat.zero_le _
  · refine Nat.le_trans (List.length_filter_le _ _) ?_
    rw [List.length_map]
    exact List.length_filter_le _ _
end Go.Proofs.Ythhohpbghfbkbaa

set_option linter.unusedVariables false
set_option linter.unusedSimpArgs false
namespace Go.Proofs.Ythhohpbghfbkbaa
open Go.Am

theorem filt_at {p : Sec → Bool} {A : List Sec} {i : Nat} (hi : i < A.length) : (A.drop i).filter p = if p A[i] = true then A[i] :: (A.drop (i + 1)).filter p else (A.drop (i + 1)).filter p := by
  rw [List.drop_eq_getElem_cons hi, List.filter_cons]
theorem blk_out {kd k step x1 x2 x3 d : Int} {A : List Sec} (h1 : ¬ d < 0) (h2 : d ≤ step) : blk kd k (x1, x2, x3, d) step A = [] := by
  unfold blk
  rw [if_pos ⟨by simp only; omega, h2⟩]
theorem blk_in {kd k step x1 x2 x3 d : Int} {A : List Sec} (h : d < 0 ∨ step < d) : blk kd k (x1, x2, x3, d) step A = (opn step A).filter (con kd k (x1, x2, x3, d)) := by
  unfold blk
  rw [if_neg (by simp only; omega)]
theorem opn_val {step : Int} {A : List Sec} {p : Int → Prop} (h : ∀ x ∈ A, p x.2.1) : ∀ x ∈ opn step A, p x.2.1 := by
  intro x hx
  unfold opn at hx
  obtain ⟨y, hy, rfl⟩ := List.mem_map.1 hx
  exact h y (List.mem_filter.1 hy).1
set_option maxRecDepth 100000 in
set_option maxHeartbeats 4000000 in
theorem blockersP {O : Over} (H : QuO O) (kd k wait step : Int) (E : List Ev) (s : Value) (hv : okVals E) (hn : E.length ≤ 100000) (h : PT ABlk) (N : Nat) (hW : WfH h N) (hs : IsEvs h s E) :
    EvB Try.prog O 16 [.int .u8 kd, .int .i64 k, .int .i64 wait, .int .i64 step, s] h N fun v h' n' => BlkV kd k wait step E v h' ∧ Kept h h' := by
  unfold BlkV
  have o33 := H.o33
  have o36 := H.o36
  have o27 := H.o27
  have o43 := H.o43
  refine EvB_run (N := 78) Try.func16 rfl rfl fun z hP hO hro hN hQ => ?_
  repeat' first | simp (config := { maxSteps := 2000000 }) (disch := omega) only [go_sem, *, Try.results16] | (first | apply EvG_ndec | apply EvC_ndec | apply EvG_dec | apply EvC_dec | apply EvC_nbool | apply EvC_bool | apply EvG_nbool | apply EvG_bool) <;> intro _
  refine EvQ_call ?_ ?_ (by rw [hP, hO]; exact (foundB H.toStO kd k wait step E _ hn _ _ hW hs).wf hW) ?_
  · simp (config := { maxSteps := 2000000 }) (disch := omega) only [go_sem, *]
  · simp (config := { maxSteps := 2000000 }) (disch := omega) only [go_sem, *]
  rintro v h2 n2 ⟨⟨hf, k2⟩, hn2, w2⟩
  rcases hf with ⟨hq, rfl⟩ | ⟨hq, sl, wl, rfl, hI, hJ⟩
  · unfold engC
    repeat' first | simp (config := { maxSteps := 2000000 }) (disch := omega) only [go_sem, *, Try.results16] | (first | apply EvG_ndec | apply EvC_ndec | apply EvG_dec | apply EvC_dec | apply EvC_nbool | apply EvC_bool | apply EvG_nbool | apply EvG_bool) <;> intro _
    exact Kept.set' hW (by omega) (Kept.set' hW (by omega) k2)
  · rw [hq] at hQ
    obtain ⟨hvl, hc, wn, hwl, rfl, hst⟩ := qerr_zero hq
    obtain ⟨kn, rfl⟩ := vld_nat hvl
    obtain ⟨sv, hsv, hsb⟩ := wait_nat hv (List.getElem_mem hwl)
    have hfr : 0 ≤ (refS 3 E)[wn].2.2.1 := refS_from (p := fun v => 0 ≤ v) (fun x hx => runs_nonneg E none T0 hc x hx) _ (List.getElem_mem hwl)
    rw [blkB_at hwl] at hQ
    have hA : ∀ x ∈ opn step (refS 1 E), ∃ v : Nat, x.2.1 = v ∧ v < 64 := opn_val (p := fun y => ∃ v : Nat, y = v ∧ v < 64) fun x hx => sec_nat hc hv hx
    obtain ⟨wa, wc, rfl, hrw⟩ := hJ.len
    clear hI hJ hv
    have hSl := refS_length 1 E
    generalize hWW : refS 3 E = W at *
    obtain ⟨wb, rfl, hwb⟩ := hrw wn hwl
    have hro4 := secCs_row hwl
    have hpl := secCs_length W
    obtain ⟨⟨x1, x2, x3, x4⟩, hx⟩ : ∃ x, W[wn] = x := ⟨_, rfl⟩
    rw [hx] at hro4 hQ hsv hst hfr
    simp only [secC] at hro4 hsv hst hfr
    subst hsv
    have hw' : ¬ (wn : Int) < 0 := by omega
    have hw3 : (wn : Int) < (W.length : Int) := by omega
    have hwbN := w2.lt hwb
    clear hx hrw
    unfold engC
    by_cases hd : x4 < 0 ∨ step < x4
    · rw [blk_in hd] at hQ
      have hst2 : ¬ step < -1 := by omega
      have hd3 : x4 < 0 ∨ (0 ≤ x4 ∧ ¬ x4 ≤ step) := by omega
      clear hst hfr hd
      rcases hd3 with hd | ⟨hd, hd3⟩
      · have hd0 : ¬ 0 ≤ x4 := by omega
        repeat' first | simp (config := { maxSteps := 2000000 }) (disch := omega) only [go_sem, *, Try.results16] | (first | apply EvG_ndec | apply EvC_ndec | apply EvG_dec | apply EvC_dec | apply EvC_nbool | apply EvC_bool | apply EvG_nbool | apply EvG_bool) <;> intro _
        generalize hh3 : PT.set (PT.set (PT.set (PT.set h2 n2 _) n2 _) (n2 + 1) _) (n2 + 1) _ = h3
        have e1 : h3.get n2 = some (.cells (PT.ofList .leaf 0 [.int .u8 kd, .int .i64 kn]) false) := by rw [← hh3]; simp (disch := omega) only [heap_ne, heap_same]
        have e2 : h3.get (n2 + 1) = some (.cells (PT.ofList .leaf 0 [.int .i64 x1, .int .u64 sv, .int .i64 x3, .int .i64 x4]) false) := by rw [← hh3]; exact heap_same
        have k3 : Kept h2 h3 := by rw [← hh3]; exact Kept.set' w2 (by omega) (Kept.set' w2 (by omega) (Kept.set' w2 (by omega) (w2.kept (Nat.le_refl _))))
        have w3 : WfH h3 (n2 + 2) := by rw [← hh3]; exact WfH.set' (by omega) (WfH.set' (by omega) (WfH.set' (by omega) (w2.set (by omega) (by omega))))
        clear hh3
        have k03 := k2.trans k3
        refine EvQ_call ?_ ?_ (by rw [hP, hO]; exact (openB H.toEvO E _ step hn _ _ w3 (hs.keep k03)).wf w3) ?_
        · simp (config := { maxSteps := 2000000 }) (disch := omega) only [go_sem, *]
        · simp (config := { maxSteps := 2000000 }) (disch := omega) only [go_sem, *]
        rintro v h4 n4 ⟨⟨ho, k4⟩, hn4, w4⟩
        unfold OpenV at ho
        rcases ho with ⟨hc', -⟩ | ⟨-, hlt, -⟩ | ⟨-, -, ol, rfl, hO4⟩
        · rw [hc] at hc'; cases hc'
        · exact absurd hlt hst2
        obtain ⟨oa, oc, rfl, hrow⟩ := hO4.len
        have hSo : (opn step (refS 1 E)).length ≤ 100000 := by
          have h1 := List.length_filter_le (opnP step) (refS 1 E)
          unfold opn
          rw [List.length_map]
          omega
        generalize opn step (refS 1 E) = A at *
        have f1 := k4 _ _ e1
        have f2 := k4 _ _ e2
        have k04 := k03.trans k4
        clear hs k2 e1 e2 k3 k03 k4 w3 hwb hO4 hq hc hSl hn w2 hst2 hwbN hro4 hpl hw3 hw' hwl
        repeat' first | simp (config := { maxSteps := 2000000 }) (disch := omega) only [go_sem, *, Try.results16] | (first | apply EvG_ndec | apply EvC_ndec | apply EvG_dec | apply EvC_dec | apply EvC_nbool | apply EvC_bool | apply EvG_nbool | apply EvG_bool) <;> intro _
        refine EvQ_call ?_ ?_ (by rw [hP, hO]; exact (conB H.o50 H.o41 H.o48 H.o49 H.o51 H.o58 kd kn sv hsb hvl _ _ w4).wf w4) ?_
        · simp (config := { maxSteps := 2000000 }) (disch := omega) only [go_sem, *]
        · simp (config := { maxSteps := 2000000 }) (disch := omega) only [go_sem, *]
        rintro r h5 n5 ⟨⟨b2, b3, b5, rr, cc, rfl, g1, g2, g3, g4, k5⟩, hn5, w5⟩
        have k05 := k04.trans k5
        have hrow' : ∀ i, i < A.length → ∃ b, oa = some ⟨b, 0, none⟩ ∧ h5.get b = some (.cells (PT.ofList .leaf 0 (secCs A)) false) := fun i hi => by
          obtain ⟨b, p1, p2⟩ := hrow i hi
          exact ⟨b, p1, k5 _ _ p2⟩
        have f3 := k5 _ _ f2
        have hNn : N ≤ n5 := by omega
        clear hn2 hn4 hn5 hrow f1 f2 k04 k5 w4
        obtain ⟨F, hF⟩ : ∃ q, A.filter (con kd kn (x1, sv, x3, x4)) = q := ⟨_, rfl⟩
        rw [hF] at hQ
        repeat' first | simp (config := { maxSteps := 2000000 }) (disch := omega) only [go_sem, *, Try.results16] | (first | apply EvG_ndec | apply EvC_ndec | apply EvG_dec | apply EvC_dec | apply EvC_nbool | apply EvC_bool | apply EvG_nbool | apply EvG_bool) <;> intro _
        refine ind_loop (fun t m h' n' => ∃ (i : Nat) (ov : Value) (S : List Sec), i ≤ A.length ∧ t = A.length - i ∧ m.n = 78 ∧ m.dfs = [] ∧ m.get 18 = .func (.func 38) ⟨[]⟩ ⟨[.pointer (some ⟨b2, 0, none⟩), .pointer (some ⟨b3, 0, none⟩), .pointer (some ⟨b5, 0, none⟩)]⟩ ∧ m.get 19 = ov ∧
          m.get 62 = .slice oa A.length oc ∧ m.get 63 = .int .i64 A.length ∧ m.get 64 = .int .i64 i ∧ WfH h' n' ∧ n5 ≤ n' ∧ Kept h5 h' ∧ OwnSecs n5 h' ov S ∧ S.length ≤ i ∧ S ++ (A.drop i).filter (con kd kn (x1, sv, x3, x4)) = F) A.length ?_ ?_
        · refine ⟨0, .slice none 0 0, [], by omega, by omega, ?_⟩
          have how : OwnSecs n5 h5 (.slice none 0 0) [] := .inl ⟨rfl, rfl⟩
          simp (config := { maxSteps := 2000000 }) (disch := omega) only [go_sem, *]
          exact ⟨Nat.le_refl _, Kept.refl _⟩
        · clear hF
          rintro t m h' n' ih ⟨i, ov, S, hi, rfl, m1, m2, m3, m4, m5, m6, m7, q1, q2, q3, q4, q5, q6⟩
          rcases Nat.lt_or_ge i A.length with hlt | hge
          · have e7 : (i : Int) < A.length := by omega
            obtain ⟨b, rfl, hb0⟩ := hrow' i hlt
            rw [filt_at hlt] at q6
            have hb := q3 _ _ hb0
            have hbN := q1.lt hb
            have hplA : (secCs A).length = A.length * 4 := secCs_length A
            have hro4 := secCs_row hlt
            have hci : ((i + 1 : Nat) : Int) = (i : Int) + 1 := by omega
            obtain ⟨v, hv, hvb⟩ := hA A[i] (List.getElem_mem hlt)
            obtain ⟨⟨th, val, fr, to⟩, hx⟩ : ∃ x, A[i] = x := ⟨_, rfl⟩
            rw [hx] at hro4 q6 hv
            simp only [secC] at hro4 hv
            subst hv
            rw [con_nat] at q6
            have hS4 : (secCs S).length = S.length * 4 := secCs_length S
            clear hrow' hb0 hx hA hQ k05
            repeat' first | simp (config := { maxSteps := 2000000 }) (disch := omega) only [go_sem, *, Try.results16] | (first | apply EvG_ndec | apply EvC_ndec | apply EvG_dec | apply EvC_dec | apply EvC_nbool | apply EvC_bool | apply EvG_nbool | apply EvG_bool) <;> intro _
            generalize hh6 : PT.set (PT.set h' n' _) n' _ = h6
            have r6 : h6.get n' = some (.cells (PT.ofList .leaf 0 [.int .i64 th, .int .u64 v, .int .i64 fr, .int .i64 to]) false) := by rw [← hh6]; exact heap_same
            have k6 : Kept h5 h6 := by rw [← hh6]; exact Kept.set' w5 (by omega) (Kept.set' w5 (by omega) q3)
            have w6 : WfH h6 (n' + 1) := by rw [← hh6]; exact WfH.set' (by omega) (q1.set (by omega) (by omega))
            have o6 : (ov = .slice none 0 0 ∧ S = []) ∨ ∃ g, g < n' ∧ n5 ≤ g ∧ ov = .slice (some ⟨g, 0, none⟩) S.length (capInf + 4) ∧ h6.get g = some (.cells (PT.ofList .leaf 0 (secCs S)) false) := by
              rcases q4 with q | ⟨g, gg1, gg2, gg3⟩
              · exact .inl q
              · have := q1.lt gg3
                exact .inr ⟨g, this, gg1, gg2, by rw [← hh6]; simp (disch := omega) only [heap_ne]; exact gg3⟩
            have o7 : OwnSecs n5 h6 ov S := by
              rcases o6 with q | ⟨g, -, q⟩
              · exact .inl q
              · exact .inr ⟨g, q⟩
            clear hh6 q4 hb hbN q1 q3
            refine EvQ_call ?_ ?_ (by rw [hP, hO]; exact conClB kd kn sv v hsb hvb hvl b2 b3 b5 rr cc _ _ (k6 _ _ g1) (k6 _ _ g2) (k6 _ _ g3) fun e => k6 _ _ (g4 e)) ?_
            · simp (config := { maxSteps := 2000000 }) (disch := omega) only [go_sem, *]
            · simp (config := { maxSteps := 2000000 }) (disch := omega) only [go_sem, *]
            rintro r h7 n7 ⟨rfl, rfl, rfl⟩
            cases hcv : conV kd kn sv v with
            | false =>
              rw [hcv, if_neg (by simp)] at q6
              clear o6
              repeat' first | simp (config := { maxSteps := 2000000 }) (disch := omega) only [go_sem, *, Try.results16] | (first | apply EvG_ndec | apply EvC_ndec | apply EvG_dec | apply EvC_dec | apply EvC_nbool | apply EvC_bool | apply EvG_nbool | apply EvG_bool) <;> intro _
              refine ih (A.length - (i + 1)) _ _ _ (by omega) ⟨i + 1, ov, S, by omega, rfl, ?_⟩
              rw [hci]
              clear ih
              simp (config := { maxSteps := 2000000 }) (disch := omega) only [go_sem, *]
              exact ⟨by omega, by omega⟩
            | true =>
              rw [hcv, if_pos rfl] at q6
              have hlen : (S ++ [(th, (v : Int), fr, to)]).length = S.length + 1 := by simp
              have q7 : (S ++ [(th, (v : Int), fr, to)]) ++ (A.drop (i + 1)).filter (con kd kn (x1, sv, x3, x4)) = F := by rw [List.append_assoc]; exact q6
              clear q6
              clear o7
              rcases o6 with ⟨rfl, rfl⟩ | ⟨g, hgn, hgN, rfl, hgr⟩
              · repeat' first | simp (config := { maxSteps := 2000000 }) (disch := omega) only [go_sem, *, Try.results16] | (first | apply EvG_ndec | apply EvC_ndec | apply EvG_dec | apply EvC_dec | apply EvC_nbool | apply EvC_bool | apply EvG_nbool | apply EvG_bool) <;> intro _
                refine ih (A.length - (i + 1)) _ _ _ (by omega) ⟨i + 1, .slice (some ⟨n' + 2, 0, none⟩) 1 (capInf + 4), [(th, (v : Int), fr, to)], by omega, rfl, ?_⟩
                rw [hci]
                clear ih
                simp (config := { maxSteps := 2000000 }) (disch := omega) only [go_sem, *]
                refine ⟨WfH.set' (by omega) (w6.set (by omega) (by omega)), by omega, Kept.set' w5 (by omega) (Kept.set' w5 (by omega) k6), .inr ⟨n' + 2, by omega, rfl, heap_same⟩, q7⟩
              · have htk : (secCs S).take (S.length * 4) = secCs S := by rw [← hS4]; exact List.take_length
                have hbq : (S.length * 4).beq (S.length * 4) = true := Nat.beq_refl _
                have hble : (S.length + 1).ble 1048576 = true := Nat.ble_eq_true_of_le (by omega)
                have hsn : secCs S ++ [.int .i64 th, .int .u64 v, .int .i64 fr, .int .i64 to] = secCs (S ++ [(th, (v : Int), fr, to)]) := (secCs_snoc S (th, (v : Int), fr, to)).symm
                have hrn : n' ≠ g := fun e => by omega
                repeat' first | simp (config := { maxSteps := 2000000 }) (disch := omega) only [go_sem, *, Try.results16] | (first | apply EvG_ndec | apply EvC_ndec | apply EvG_dec | apply EvC_dec | apply EvC_nbool | apply EvC_bool | apply EvG_nbool | apply EvG_bool) <;> intro _
                refine ih (A.length - (i + 1)) _ _ _ (by omega) ⟨i + 1, .slice (some ⟨n' + 2, 0, none⟩) (S.length + 1) (capInf + 4), S ++ [(th, (v : Int), fr, to)], by omega, rfl, ?_⟩
                rw [hci]
                clear ih
                simp (config := { maxSteps := 2000000 }) (disch := omega) only [go_sem, *]
                refine ⟨WfH.set' (by omega) (WfH.set' (by omega) (w6.set (by omega) (by omega))), by omega, Kept.set' w5 (by omega) (Kept.set' w5 (by omega) (Kept.set' w5 (by omega) k6)), .inr ⟨n' + 2, by omega, by rw [hlen], heap_same⟩⟩
          · have e7 : ¬ (i : Int) < A.length := by omega
            obtain rfl : i = A.length := by omega
            rw [List.drop_length] at q6
            have q7 : S = F := by rw [← q6]; simp
            subst q7
            have k9 := k05.trans q3
            clear ih hrow' hA q6
            repeat' first | simp (config := { maxSteps := 2000000 }) (disch := omega) only [go_sem, *, Try.results16] | (first | apply EvG_ndec | apply EvC_ndec | apply EvG_dec | apply EvC_dec | apply EvC_nbool | apply EvC_bool | apply EvG_nbool | apply EvG_bool) <;> intro _
            exact ⟨_, rfl, q4.is⟩
      · repeat' first | simp (config := { maxSteps := 2000000 }) (disch := omega) only [go_sem, *, Try.results16] | (first | apply EvG_ndec | apply EvC_ndec | apply EvG_dec | apply EvC_dec | apply EvC_nbool | apply EvC_bool | apply EvG_nbool | apply EvG_bool) <;> intro _
        generalize hh3 : PT.set (PT.set (PT.set (PT.set h2 n2 _) n2 _) (n2 + 1) _) (n2 + 1) _ = h3
        have e1 : h3.get n2 = some (.cells (PT.ofList .leaf 0 [.int .u8 kd, .int .i64 kn]) false) := by rw [← hh3]; simp (disch := omega) only [heap_ne, heap_same]
        have e2 : h3.get (n2 + 1) = some (.cells (PT.ofList .leaf 0 [.int .i64 x1, .int .u64 sv, .int .i64 x3, .int .i64 x4]) false) := by rw [← hh3]; exact heap_same
        have k3 : Kept h2 h3 := by rw [← hh3]; exact Kept.set' w2 (by omega) (Kept.set' w2 (by omega) (Kept.set' w2 (by omega) (w2.kept (Nat.le_refl _))))
        have w3 : WfH h3 (n2 + 2) := by rw [← hh3]; exact WfH.set' (by omega) (WfH.set' (by omega) (WfH.set' (by omega) (w2.set (by omega) (by omega))))
        clear hh3
        have k03 := k2.trans k3
        refine EvQ_call ?_ ?_ (by rw [hP, hO]; exact (openB H.toEvO E _ step hn _ _ w3 (hs.keep k03)).wf w3) ?_
        · simp (config := { maxSteps := 2000000 }) (disch := omega) only [go_sem, *]
        · simp (config := { maxSteps := 2000000 }) (disch := omega) only [go_sem, *]
        rintro v h4 n4 ⟨⟨ho, k4⟩, hn4, w4⟩
        unfold OpenV at ho
        rcases ho with ⟨hc', -⟩ | ⟨-, hlt, -⟩ | ⟨-, -, ol, rfl, hO4⟩
        · rw [hc] at hc'; cases hc'
        · exact absurd hlt hst2
        obtain ⟨oa, oc, rfl, hrow⟩ := hO4.len
        have hSo : (opn step (refS 1 E)).length ≤ 100000 := by
          have h1 := List.length_filter_le (opnP step) (refS 1 E)
          unfold opn
          rw [List.length_map]
          omega
        generalize opn step (refS 1 E) = A at *
        have f1 := k4 _ _ e1
        have f2 := k4 _ _ e2
        have k04 := k03.trans k4
        clear hs k2 e1 e2 k3 k03 k4 w3 hwb hO4 hq hc hSl hn w2 hst2 hwbN hro4 hpl hw3 hw' hwl
        repeat' first | simp (config := { maxSteps := 2000000 }) (disch := omega) only [go_sem, *, Try.results16] | (first | apply EvG_ndec | apply EvC_ndec | apply EvG_dec | apply EvC_dec | apply EvC_nbool | apply EvC_bool | apply EvG_nbool | apply EvG_bool) <;> intro _
        refine EvQ_call ?_ ?_ (by rw [hP, hO]; exact (conB H.o50 H.o41 H.o48 H.o49 H.o51 H.o58 kd kn sv hsb hvl _ _ w4).wf w4) ?_
        · simp (config := { maxSteps := 2000000 }) (disch := omega) only [go_sem, *]
        · simp (config := { maxSteps := 2000000 }) (disch := omega) only [go_sem, *]
        rintro r h5 n5 ⟨⟨b2, b3, b5, rr, cc, rfl, g1, g2, g3, g4, k5⟩, hn5, w5⟩
        have k05 := k04.trans k5
        have hrow' : ∀ i, i < A.length → ∃ b, oa = some ⟨b, 0, none⟩ ∧ h5.get b = some (.cells (PT.ofList .leaf 0 (secCs A)) false) := fun i hi => by
          obtain ⟨b, p1, p2⟩ := hrow i hi
          exact ⟨b, p1, k5 _ _ p2⟩
        have f3 := k5 _ _ f2
        have hNn : N ≤ n5 := by omega
        clear hn2 hn4 hn5 hrow f1 f2 k04 k5 w4
        obtain ⟨F, hF⟩ : ∃ q, A.filter (con kd kn (x1, sv, x3, x4)) = q := ⟨_, rfl⟩
        rw [hF] at hQ
        repeat' first | simp (config := { maxSteps := 2000000 }) (disch := omega) only [go_sem, *, Try.results16] | (first | apply EvG_ndec | apply EvC_ndec | apply EvG_dec | apply EvC_dec | apply EvC_nbool | apply EvC_bool | apply EvG_nbool | apply EvG_bool) <;> intro _
        refine ind_loop (fun t m h' n' => ∃ (i : Nat) (ov : Value) (S : List Sec), i ≤ A.length ∧ t = A.length - i ∧ m.n = 78 ∧ m.dfs = [] ∧ m.get 18 = .func (.func 38) ⟨[]⟩ ⟨[.pointer (some ⟨b2, 0, none⟩), .pointer (some ⟨b3, 0, none⟩), .pointer (some ⟨b5, 0, none⟩)]⟩ ∧ m.get 19 = ov ∧
          m.get 62 = .slice oa A.length oc ∧ m.get 63 = .int .i64 A.length ∧ m.get 64 = .int .i64 i ∧ WfH h' n' ∧ n5 ≤ n' ∧ Kept h5 h' ∧ OwnSecs n5 h' ov S ∧ S.length ≤ i ∧ S ++ (A.drop i).filter (con kd kn (x1, sv, x3, x4)) = F) A.length ?_ ?_
        · refine ⟨0, .slice none 0 0, [], by omega, by omega, ?_⟩
          have how : OwnSecs n5 h5 (.slice none 0 0) [] := .inl ⟨rfl, rfl⟩
          simp (config := { maxSteps := 2000000 }) (disch := omega) only [go_sem, *]
          exact ⟨Nat.le_refl _, Kept.refl _⟩
        · clear hF
          rintro t m h' n' ih ⟨i, ov, S, hi, rfl, m1, m2, m3, m4, m5, m6, m7, q1, q2, q3, q4, q5, q6⟩
          rcases Nat.lt_or_ge i A.length with hlt | hge
          · have e7 : (i : Int) < A.length := by omega
            obtain ⟨b, rfl, hb0⟩ := hrow' i hlt
            rw [filt_at hlt] at q6
            have hb := q3 _ _ hb0
            have hbN := q1.lt hb
            have hplA : (secCs A).length = A.length * 4 := secCs_length A
            have hro4 := secCs_row hlt
            have hci : ((i + 1 : Nat) : Int) = (i : Int) + 1 := by omega
            obtain ⟨v, hv, hvb⟩ := hA A[i] (List.getElem_mem hlt)
            obtain ⟨⟨th, val, fr, to⟩, hx⟩ : ∃ x, A[i] = x := ⟨_, rfl⟩
            rw [hx] at hro4 q6 hv
            simp only [secC] at hro4 hv
            subst hv
            rw [con_nat] at q6
            have hS4 : (secCs S).length = S.length * 4 := secCs_length S
            clear hrow' hb0 hx hA hQ k05
            repeat' first | simp (config := { maxSteps := 2000000 }) (disch := omega) only [go_sem, *, Try.results16] | (first | apply EvG_ndec | apply EvC_ndec | apply EvG_dec | apply EvC_dec | apply EvC_nbool | apply EvC_bool | apply EvG_nbool | apply EvG_bool) <;> intro _
            generalize hh6 : PT.set (PT.set h' n' _) n' _ = h6
            have r6 : h6.get n' = some (.cells (PT.ofList .leaf 0 [.int .i64 th, .int .u64 v, .int .i64 fr, .int .i64 to]) false) := by rw [← hh6]; exact heap_same
            have k6 : Kept h5 h6 := by rw [← hh6]; exact Kept.set' w5 (by omega) (Kept.set' w5 (by omega) q3)
            have w6 : WfH h6 (n' + 1) := by rw [← hh6]; exact WfH.set' (by omega) (q1.set (by omega) (by omega))
            have o6 : (ov = .slice none 0 0 ∧ S = []) ∨ ∃ g, g < n' ∧ n5 ≤ g ∧ ov = .slice (some ⟨g, 0, none⟩) S.length (capInf + 4) ∧ h6.get g = some (.cells (PT.ofList .leaf 0 (secCs S)) false) := by
              rcases q4 with q | ⟨g, gg1, gg2, gg3⟩
              · exact .inl q
              · have := q1.lt gg3
                exact .inr ⟨g, this, gg1, gg2, by rw [← hh6]; simp (disch := omega) only [heap_ne]; exact gg3⟩
            have o7 : OwnSecs n5 h6 ov S := by
              rcases o6 with q | ⟨g, -, q⟩
              · exact .inl q
              · exact .inr ⟨g, q⟩
            clear hh6 q4 hb hbN q1 q3
            refine EvQ_call ?_ ?_ (by rw [hP, hO]; exact conClB kd kn sv v hsb hvb hvl b2 b3 b5 rr cc _ _ (k6 _ _ g1) (k6 _ _ g2) (k6 _ _ g3) fun e => k6 _ _ (g4 e)) ?_
            · simp (config := { maxSteps := 2000000 }) (disch := omega) only [go_sem, *]
            · simp (config := { maxSteps := 2000000 }) (disch := omega) only [go_sem, *]
            rintro r h7 n7 ⟨rfl, rfl, rfl⟩
            cases hcv : conV kd kn sv v with
            | false =>
              rw [hcv, if_neg (by simp)] at q6
              clear o6
              repeat' first | simp (config := { maxSteps := 2000000 }) (disch := omega) only [go_sem, *, Try.results16] | (first | apply EvG_ndec | apply EvC_ndec | apply EvG_dec | apply EvC_dec | apply EvC_nbool | apply EvC_bool | apply EvG_nbool | apply EvG_bool) <;> intro _
              refine ih (A.length - (i + 1)) _ _ _ (by omega) ⟨i + 1, ov, S, by omega, rfl, ?_⟩
              rw [hci]
              clear ih
              simp (config := { maxSteps := 2000000 }) (disch := omega) only [go_sem, *]
              exact ⟨by omega, by omega⟩
            | true =>
              rw [hcv, if_pos rfl] at q6
              have hlen : (S ++ [(th, (v : Int), fr, to)]).length = S.length + 1 := by simp
              have q7 : (S ++ [(th, (v : Int), fr, to)]) ++ (A.drop (i + 1)).filter (con kd kn (x1, sv, x3, x4)) = F := by rw [List.append_assoc]; exact q6
              clear q6
              clear o7
              rcases o6 with ⟨rfl, rfl⟩ | ⟨g, hgn, hgN, rfl, hgr⟩
              · repeat' first | simp (config := { maxSteps := 2000000 }) (disch := omega) only [go_sem, *, Try.results16] | (first | apply EvG_ndec | apply EvC_ndec | apply EvG_dec | apply EvC_dec | apply EvC_nbool | apply EvC_bool | apply EvG_nbool | apply EvG_bool) <;> intro _
                refine ih (A.length - (i + 1)) _ _ _ (by omega) ⟨i + 1, .slice (some ⟨n' + 2, 0, none⟩) 1 (capInf + 4), [(th, (v : Int), fr, to)], by omega, rfl, ?_⟩
                rw [hci]
                clear ih
                simp (config := { maxSteps := 2000000 }) (disch := omega) only [go_sem, *]
                refine ⟨WfH.set' (by omega) (w6.set (by omega) (by omega)), by omega, Kept.set' w5 (by omega) (Kept.set' w5 (by omega) k6), .inr ⟨n' + 2, by omega, rfl, heap_same⟩, q7⟩
              · have htk : (secCs S).take (S.length * 4) = secCs S := by rw [← hS4]; exact List.take_length
                have hbq : (S.length * 4).beq (S.length * 4) = true := Nat.beq_refl _
                have hble : (S.length + 1).ble 1048576 = true := Nat.ble_eq_true_of_le (by omega)
                have hsn : secCs S ++ [.int .i64 th, .int .u64 v, .int .i64 fr, .int .i64 to] = secCs (S ++ [(th, (v : Int), fr, to)]) := (secCs_snoc S (th, (v : Int), fr, to)).symm
                have hrn : n' ≠ g := fun e => by omega
                repeat' first | simp (config := { maxSteps := 2000000 }) (disch := omega) only [go_sem, *, Try.results16] | (first | apply EvG_ndec | apply EvC_ndec | apply EvG_dec | apply EvC_dec | apply EvC_nbool | apply EvC_bool | apply EvG_nbool | apply EvG_bool) <;> intro _
                refine ih (A.length - (i + 1)) _ _ _ (by omega) ⟨i + 1, .slice (some ⟨n' + 2, 0, none⟩) (S.length + 1) (capInf + 4), S ++ [(th, (v : Int), fr, to)], by omega, rfl, ?_⟩
                rw [hci]
                clear ih
                simp (config := { maxSteps := 2000000 }) (disch := omega) only [go_sem, *]
                refine ⟨WfH.set' (by omega) (WfH.set' (by omega) (w6.set (by omega) (by omega))), by omega, Kept.set' w5 (by omega) (Kept.set' w5 (by omega) (Kept.set' w5 (by omega) k6)), .inr ⟨n' + 2, by omega, by rw [hlen], heap_same⟩⟩
          · have e7 : ¬ (i : Int) < A.length := by omega
            obtain rfl : i = A.length := by omega
            rw [List.drop_length] at q6
            have q7 : S = F := by rw [← q6]; simp
            subst q7
            have k9 := k05.trans q3
            clear ih hrow' hA q6
            repeat' first | simp (config := { maxSteps := 2000000 }) (disch := omega) only [go_sem, *, Try.results16] | (first | apply EvG_ndec | apply EvC_ndec | apply EvG_dec | apply EvC_dec | apply EvC_nbool | apply EvC_bool | apply EvG_nbool | apply EvG_bool) <;> intro _
            exact ⟨_, rfl, q4.is⟩
    · have hd1 : ¬ x4 < 0 := by omega
      have hd3 : 0 ≤ x4 := by omega
      have hd2 : x4 ≤ step := by omega
      rw [blk_out hd1 hd2] at hQ
      clear hd
      repeat' first | simp (config := { maxSteps := 2000000 }) (disch := omega) only [go_sem, *, Try.results16] | (first | apply EvG_ndec | apply EvC_ndec | apply EvG_dec | apply EvC_dec | apply EvC_nbool | apply EvC_bool | apply EvG_nbool | apply EvG_bool) <;> intro _
      exact ⟨⟨_, rfl, .inl ⟨rfl, rfl⟩⟩, Kept.set' hW (by omega) (Kept.set' hW (by omega) (Kept.set' hW (by omega) (Kept.set' hW (by omega) k2)))⟩
end Go.Proofs.Ythhohpbghfbkbaa
