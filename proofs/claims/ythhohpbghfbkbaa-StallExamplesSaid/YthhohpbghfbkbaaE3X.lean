/-
  A part of the proof: contracts of inner functions.
-/
import Derived.Test.YthhohpbghfbkbaaE3Q
set_option linter.unusedVariables false
set_option linter.unusedSimpArgs false
namespace Go.Proofs.Ythhohpbghfbkbaa
open Go.Am

theorem guard64 : Try.prog.eqGuardType Try.prog.depth 53 = false := by kernel_rfl
theorem guard75 : Try.prog.eqGuardType Try.prog.depth 49 = false := by kernel_rfl
def eq4 (a b c d a' b' c' d' : Int) : AP Bool := cond (a == a') (cond (b == b') (cond (c == c') (cond (d == d') (.pure true) (.pure false)) (.pure false)) (.pure false)) (.pure false)
theorem eq4_same (a b c d : Int) : eq4 a b c d a b c d = .pure true := by
  unfold eq4
  rw [beq_self_eq_true, beq_self_eq_true, beq_self_eq_true, beq_self_eq_true]
  rfl
theorem aEqual64 (a b c d a' b' c' d' : Int) : aEqual Try.prog 12 53 (.agg ⟨[.int .i64 a, .int .u64 b, .int .i64 c, .int .i64 d]⟩) (.agg ⟨[.int .i64 a', .int .u64 b', .int .i64 c', .int .i64 d']⟩) = eq4 a b c d a' b' c' d' := by kernel_rfl
theorem aEqual75 (a b c d a' b' c' d' : Int) : aEqual Try.prog 12 49 (.agg ⟨[.int .i64 a, .int .i64 b, .int .u8 c, .int .u64 d]⟩) (.agg ⟨[.int .i64 a', .int .i64 b', .int .u8 c', .int .u64 d']⟩) = eq4 a b c d a' b' c' d' := by kernel_rfl
theorem ne64 (a b c d : Int) (cx cy : Bool) : binV Try.prog .neq 53 cx cy (.agg ⟨[.int .i64 a, .int .u64 b, .int .i64 c, .int .i64 d]⟩) (.agg ⟨[.int .i64 a, .int .u64 b, .int .i64 c, .int .i64 d]⟩) = .pure (.value (.bool false)) := by
  have h := aEqual64 a b c d a b c d
  simp only [binV, aBinOp, eqGuardOk, guard64, Bool.not_false, cond_true, h, eq4_same, AP.bind, Bool.not_true]
theorem ne75 (a b c d : Int) (cx cy : Bool) : binV Try.prog .neq 49 cx cy (.agg ⟨[.int .i64 a, .int .i64 b, .int .u8 c, .int .u64 d]⟩) (.agg ⟨[.int .i64 a, .int .i64 b, .int .u8 c, .int .u64 d]⟩) = .pure (.value (.bool false)) := by
  have h := aEqual75 a b c d a b c d
  simp only [binV, aBinOp, eqGuardOk, guard75, Bool.not_false, cond_true, h, eq4_same, AP.bind, Bool.not_true]
theorem fresh_no (n a : Nat) : (n.ble a && a.blt n) = false := by
  cases h : n.ble a
  · rfl
  · have := Nat.le_of_ble_eq_true h
    cases h2 : a.blt n
    · rfl
    · have := Nat.le_of_ble_eq_true h2
      omega
set_option maxRecDepth 100000 in
set_option maxHeartbeats 4000000 in
theorem eqSecsB {O : Over} (A : List Sec) (s t : Value) (h : PT ABlk) (n : Nat) (hs : IsSecs h s A) (ht : IsSecs h t A) (hl : A.length ≤ 100000) :
    EvB Try.prog O 18 [s, t] h n fun v h' n' => v = .bool true ∧ h' = h ∧ n' = n := by
  obtain ⟨a, cap, rfl, hA⟩ := hs.len
  obtain ⟨b, cap2, rfl, hB⟩ := ht.len
  clear hs ht
  have hpl : (secCs A).length = A.length * 4 := secCs_length A
  refine EvB_run (N := 26) Try.func18 rfl rfl ?_
  intro z hP hO hro hN hQ
  repeat' first | simp (config := { maxSteps := 2000000 }) (disch := omega) only [go_sem, *, Try.results18] | (first | apply EvG_ndec | apply EvC_ndec | apply EvG_dec | apply EvC_dec | apply EvC_nbool | apply EvC_bool | apply EvG_nbool | apply EvG_bool) <;> intro _ | (first | apply EvH_ndec | apply EvH_dec | apply EvH_nbool | apply EvH_bool) <;> intro _ | refine EvK_draw (id := 6) (L := [(0, 1), (0, 4), (1, 4), (2, 4), (3, 4), (0, 5), (1, 5), (2, 5), (3, 5), (4, 5), (0, 6), (1, 6), (2, 6), (3, 6), (0, 7), (1, 7), (2, 7), (3, 7)]) (by kernel_rfl) (by kernel_rfl) ?_
  refine ind_loop (fun t m h' n' => h' = h ∧ n' = n ∧ ∃ i : Nat, i ≤ A.length ∧ t = A.length - i ∧ m.n = 26 ∧ m.dfs = [] ∧ m.get 0 = .slice a A.length cap ∧ m.get 1 = .slice b A.length cap2 ∧ m.get 5 = .int .i64 i) A.length ?_ ?_
  · refine ⟨rfl, rfl, 0, by omega, by omega, ?_⟩
    simp (config := { maxSteps := 2000000 }) (disch := omega) only [go_sem, *]
  · rintro t m h n ih ⟨rfl, rfl, i, hi, rfl, m1, m2, m3, m4, m5⟩
    rcases Nat.lt_or_ge i A.length with hlt | hge
    · obtain ⟨bk, rfl, hb⟩ := hA i hlt
      obtain ⟨bk2, rfl, hb2⟩ := hB i hlt
      have e1 : (i : Int) < A.length := by omega
      have hro4 := secCs_row hlt
      obtain ⟨⟨x1, x2, x3, x4⟩, hx⟩ : ∃ x, A[i] = x := ⟨_, rfl⟩
      rw [hx] at hro4
      simp only [secC] at hro4
      have hci : ((i + 1 : Nat) : Int) = (i : Int) + 1 := by omega
      clear hA hB hx
      repeat' first | simp (config := { maxSteps := 2000000 }) (disch := omega) only [go_sem, *, Try.results18, fresh_no, ne64] | (first | apply EvG_ndec | apply EvC_ndec | apply EvG_dec | apply EvC_dec | apply EvC_nbool | apply EvC_bool | apply EvG_nbool | apply EvG_bool) <;> intro _ | (first | apply EvH_ndec | apply EvH_dec | apply EvH_nbool | apply EvH_bool) <;> intro _ | refine EvK_draw (id := 6) (L := [(0, 1), (0, 4), (1, 4), (2, 4), (3, 4), (0, 5), (1, 5), (2, 5), (3, 5), (4, 5), (0, 6), (1, 6), (2, 6), (3, 6), (0, 7), (1, 7), (2, 7), (3, 7)]) (by kernel_rfl) (by kernel_rfl) ?_
      refine ih (A.length - (i + 1)) _ _ _ (by omega) ⟨rfl, rfl, i + 1, by omega, by omega, ?_⟩
      rw [hci]
      clear ih
      simp (config := { maxSteps := 2000000 }) (disch := omega) only [go_sem, *]
    · have e1 : ¬ (i : Int) < A.length := by omega
      clear hA hB ih
      repeat' first | simp (config := { maxSteps := 2000000 }) (disch := omega) only [go_sem, *, Try.results18] | (first | apply EvG_ndec | apply EvC_ndec | apply EvG_dec | apply EvC_dec | apply EvC_nbool | apply EvC_bool | apply EvG_nbool | apply EvG_bool) <;> intro _ | (first | apply EvH_ndec | apply EvH_dec | apply EvH_nbool | apply EvH_bool) <;> intro _ | refine EvK_draw (id := 6) (L := [(0, 1), (0, 4), (1, 4), (2, 4), (3, 4), (0, 5), (1, 5), (2, 5), (3, 5), (4, 5), (0, 6), (1, 6), (2, 6), (3, 6), (0, 7), (1, 7), (2, 7), (3, 7)]) (by kernel_rfl) (by kernel_rfl) ?_
set_option maxRecDepth 100000 in
set_option maxHeartbeats 4000000 in
theorem eqEvsB {O : Over} (A : List Ev) (s t : Value) (h : PT ABlk) (n : Nat) (hs : IsEvs h s A) (ht : IsEvs h t A) (hl : A.length ≤ 100000) :
    EvB Try.prog O 19 [s, t] h n fun v h' n' => v = .bool true ∧ h' = h ∧ n' = n := by
  obtain ⟨a, cap, rfl, hA⟩ := hs.len
  obtain ⟨b, cap2, rfl, hB⟩ := ht.len
  clear hs ht
  have hpl : (evCs A).length = A.length * 4 := evCs_length A
  refine EvB_run (N := 26) Try.func19 rfl rfl ?_
  intro z hP hO hro hN hQ
  repeat' first | simp (config := { maxSteps := 2000000 }) (disch := omega) only [go_sem, *, Try.results19] | (first | apply EvG_ndec | apply EvC_ndec | apply EvG_dec | apply EvC_dec | apply EvC_nbool | apply EvC_bool | apply EvG_nbool | apply EvG_bool) <;> intro _ | (first | apply EvH_ndec | apply EvH_dec | apply EvH_nbool | apply EvH_bool) <;> intro _ | refine EvK_draw (id := 6) (L := [(0, 1), (0, 4), (1, 4), (2, 4), (3, 4), (0, 5), (1, 5), (2, 5), (3, 5), (4, 5), (0, 6), (1, 6), (2, 6), (3, 6), (0, 7), (1, 7), (2, 7), (3, 7)]) (by kernel_rfl) (by kernel_rfl) ?_
  refine ind_loop (fun t m h' n' => h' = h ∧ n' = n ∧ ∃ i : Nat, i ≤ A.length ∧ t = A.length - i ∧ m.n = 26 ∧ m.dfs = [] ∧ m.get 0 = .slice a A.length cap ∧ m.get 1 = .slice b A.length cap2 ∧ m.get 5 = .int .i64 i) A.length ?_ ?_
  · refine ⟨rfl, rfl, 0, by omega, by omega, ?_⟩
    simp (config := { maxSteps := 2000000 }) (disch := omega) only [go_sem, *]
  · rintro t m h n ih ⟨rfl, rfl, i, hi, rfl, m1, m2, m3, m4, m5⟩
    rcases Nat.lt_or_ge i A.length with hlt | hge
    · obtain ⟨bk, rfl, hb⟩ := hA i hlt
      obtain ⟨bk2, rfl, hb2⟩ := hB i hlt
      have e1 : (i : Int) < A.length := by omega
      have hro4 := evCs_row hlt
      obtain ⟨⟨x1, x2, x3, x4⟩, hx⟩ : ∃ x, A[i] = x := ⟨_, rfl⟩
      rw [hx] at hro4
      simp only [evC] at hro4
      have hci : ((i + 1 : Nat) : Int) = (i : Int) + 1 := by omega
      clear hA hB hx
      repeat' first | simp (config := { maxSteps := 2000000 }) (disch := omega) only [go_sem, *, Try.results19, fresh_no, ne75] | (first | apply EvG_ndec | apply EvC_ndec | apply EvG_dec | apply EvC_dec | apply EvC_nbool | apply EvC_bool | apply EvG_nbool | apply EvG_bool) <;> intro _ | (first | apply EvH_ndec | apply EvH_dec | apply EvH_nbool | apply EvH_bool) <;> intro _ | refine EvK_draw (id := 6) (L := [(0, 1), (0, 4), (1, 4), (2, 4), (3, 4), (0, 5), (1, 5), (2, 5), (3, 5), (4, 5), (0, 6), (1, 6), (2, 6), (3, 6), (0, 7), (1, 7), (2, 7), (3, 7)]) (by kernel_rfl) (by kernel_rfl) ?_
      refine ih (A.length - (i + 1)) _ _ _ (by omega) ⟨rfl, rfl, i + 1, by omega, by omega, ?_⟩
      rw [hci]
      clear ih
      simp (config := { maxSteps := 2000000 }) (disch := omega) only [go_sem, *]
    · have e1 : ¬ (i : Int) < A.length := by omega
      clear hA hB ih
      repeat' first | simp (config := { maxSteps := 2000000 }) (disch := omega) only [go_sem, *, Try.results19] | (first | apply EvG_ndec | apply EvC_ndec | apply EvG_dec | apply EvC_dec | apply EvC_nbool | apply EvC_bool | apply EvG_nbool | apply EvG_bool) <;> intro _ | (first | apply EvH_ndec | apply EvH_dec | apply EvH_nbool | apply EvH_bool) <;> intro _ | refine EvK_draw (id := 6) (L := [(0, 1), (0, 4), (1, 4), (2, 4), (3, 4), (0, 5), (1, 5), (2, 5), (3, 5), (4, 5), (0, 6), (1, 6), (2, 6), (3, 6), (0, 7), (1, 7), (2, 7), (3, 7)]) (by kernel_rfl) (by kernel_rfl) ?_
end Go.Proofs.Ythhohpbghfbkbaa

set_option linter.unusedVariables false
set_option linter.unusedSimpArgs false
namespace Go.Proofs.Ythhohpbghfbkbaa
open Go.Am

noncomputable abbrev OM : Over := tabO [(45, sortS), (8, trueS), (78, thS enterT), (79, thS exitT), (80, thS waitT), (81, thS doneT), (52, endS), (49, endS), (54, endsS), (13, fewS), (15, rqS), (17, rbS)]
theorem OMok : SoundO Try.prog OM := tab_sound (.cons sortF50 (.cons awakeF (.cons enterF (.cons exitF (.cons waitF (.cons doneF (.cons endW (.cons endE (.cons endsF (.cons fewF (.cons rqF (.cons rbF .nil))))))))))))
theorem OMq : QuO OM where
  fol := ⟨rfl, rfl, rfl, rfl⟩
  o57 := rfl
  o47 := rfl
  o39 := rfl
  o53 := rfl
  o40 := rfl
  o54 := rfl
  o38 := rfl
  o52 := rfl
  o20 := rfl
  o44 := rfl
  o55 := rfl
  o61 := rfl
  o56 := rfl
  o45 := rfl
  o46 := rfl
  o36 := rfl
  o37 := rfl
  o21 := rfl
  o25 := rfl
  o33 := rfl
  o35 := rfl
  o34 := rfl
  o50 := rfl
  o41 := rfl
  o48 := rfl
  o49 := rfl
  o51 := rfl
  o58 := rfl
  o27 := rfl
  o43 := rfl
theorem rdArg_nil : rdArg (.slice none 0 0) = .pure [] := rfl
theorem rdArg_some {b off n cap : Nat} : rdArg (.slice (some ⟨b, off, none⟩) n cap) = .row b (rdEv2 off n cap) := rfl
theorem rdEvs_nil : rdEvs (.slice none 0 0) = .pure [] := rfl
theorem rdEvs_some {b n cap : Nat} : rdEvs (.slice (some ⟨b, 0, none⟩) n cap) = .row b (rdEv1 n fun ro => ro = false) := rfl
theorem blkR_nil {kd k wait step : Int} : blkR kd k wait step [] = [] := by
  unfold blkR
  split
  · rename_i hq
    obtain ⟨_, _, wn, hw, _⟩ := qerr_zero hq
    simp [refS] at hw
  · rfl
theorem quietV_tuple {kd k wait fr : Int} {E : List Ev} : ∃ q1 q2, quietV kd k wait fr E = .tuple ⟨[.bool q1, .int .i64 q2]⟩ := by
  unfold quietV
  split <;> exact ⟨_, _, rfl⟩
set_option maxRecDepth 100000 in
set_option maxHeartbeats 4000000 in
theorem mat0 (kd sl k wait step : Int) (A T : List Ev) (B : List Sec) (hv : okVals T) (hlT : T.length ≤ 80) (hfm : fewM A = .pure (.slice none 0 0)) (hT : T = []) (hB : blkR kd k wait step T = B) (hbm : ∀ e, blkM e B = .pure (.tuple ⟨[.slice none 0 0, .int .i64 e]⟩)) (h : PT ABlk) (N : Nat) (hW : WfH h N) (hAn : A = []) :
    EvB Try.prog OM 6 [.agg ⟨[.int .u8 kd, .int .i64 sl, .int .i64 k]⟩, .slice none 0 0, .int .i64 wait, .int .i64 step] h N fun v h' _ => v = .bool true ∧ Kept h h' := by
  subst hAn
  have hBn : B = [] := by cases B with | nil => rfl | cons x B => exact absurd (hbm 0) (by simp [blkM, AP.newRow])
  refine EvB_run (N := 93) Try.func6 rfl rfl fun z hP hO hro hN hQ => ?_
  have hok : @decide (EvsOk T) (Classical.propDecidable _) = true := @decide_eq_true _ (Classical.propDecidable _) ⟨hv, by omega⟩
  have hrdT : rdEv1 T.length (fun ro => ro = false) (evCs T) false = .pure T := rdEv1_eq rfl rfl
  have hlT2 : T.length ≤ 100000 := by omega
  obtain ⟨q1, q2, hqv⟩ := @quietV_tuple kd k wait step T
  obtain ⟨e, he⟩ : ∃ e, qerr kd k wait step T = e := ⟨_, rfl⟩
  have hbm2 := hbm e
  subst hT
  rw [hBn] at hB hbm2
  clear hBn
  clear hbm
  repeat' first | simp (config := { maxSteps := 2000000 }) (disch := omega) only [go_sem, *, Try.results6, fewS, rqS, rbS, trueS, rdArg_nil, rdArg_some, rdEvs_nil, rdEvs_some] | (first | apply EvG_ndec | apply EvC_ndec | apply EvG_dec | apply EvC_dec | apply EvC_nbool | apply EvC_bool | apply EvG_nbool | apply EvG_bool) <;> intro _ | (first | apply EvH_ndec | apply EvH_dec | apply EvH_nbool | apply EvH_bool) <;> intro _ | refine EvK_draw (id := 3) (L := [(0, 2), (1, 2), (0, 3), (1, 3), (0, 4), (1, 4), (2, 4), (3, 4), (0, 5), (1, 5), (2, 5), (3, 5), (4, 5), (0, 6), (1, 6), (2, 6), (3, 6), (4, 6), (5, 6), (0, 7), (1, 7), (2, 7), (3, 7), (4, 7), (5, 7), (10, 11), (11, 12)]) (by kernel_rfl) (by kernel_rfl) ?_ | refine EvK_draw (id := 5) (L := [(0, 2), (1, 2), (0, 3), (1, 3), (0, 4), (1, 4), (2, 4), (3, 4), (0, 5), (1, 5), (2, 5), (3, 5), (4, 5), (0, 6), (1, 6), (2, 6), (3, 6), (4, 6), (5, 6), (0, 7), (1, 7), (2, 7), (3, 7), (4, 7), (5, 7), (10, 11), (11, 12)]) (by kernel_rfl) (by kernel_rfl) ?_
  generalize hh1 : PT.set h N _ = h1
  have e1 := get_of_set hh1
  have hI : IsEvs h1 (.slice none 0 0) [] := .inl ⟨rfl, rfl⟩
  have w1 : WfH h1 (N + 1) := by rw [← hh1]; exact hW.set (by omega) (by omega)
  have k1 : Kept h h1 := by rw [← hh1]; exact hW.kept (Nat.le_refl _)
  clear hh1 hW
  refine EvQ_call ?_ ?_ (by rw [hP, hO]; exact (quietP OMq kd k wait step [] _ hv hlT2 _ _ w1 hI).wf w1) ?_
  · simp (config := { maxSteps := 2000000 }) (disch := omega) only [go_sem, *]
  · simp (config := { maxSteps := 2000000 }) (disch := omega) only [go_sem, *]
  rintro v h3 n3 ⟨⟨rfl, k3⟩, hn3, w3⟩
  have e3 := k3 _ _ e1
  have hI3 := hI.keep k3
  have hNn3 : N < n3 := by omega
  have kA := k1.trans k3
  clear e1 w1 hI k3 k1
  rw [hqv]
  repeat' first | simp (config := { maxSteps := 2000000 }) (disch := omega) only [go_sem, *, Try.results6, fewS, rqS, rbS, trueS, rdArg_nil, rdArg_some, rdEvs_nil, rdEvs_some] | (first | apply EvG_ndec | apply EvC_ndec | apply EvG_dec | apply EvC_dec | apply EvC_nbool | apply EvC_bool | apply EvG_nbool | apply EvG_bool) <;> intro _ | (first | apply EvH_ndec | apply EvH_dec | apply EvH_nbool | apply EvH_bool) <;> intro _ | refine EvK_draw (id := 3) (L := [(0, 2), (1, 2), (0, 3), (1, 3), (0, 4), (1, 4), (2, 4), (3, 4), (0, 5), (1, 5), (2, 5), (3, 5), (4, 5), (0, 6), (1, 6), (2, 6), (3, 6), (4, 6), (5, 6), (0, 7), (1, 7), (2, 7), (3, 7), (4, 7), (5, 7), (10, 11), (11, 12)]) (by kernel_rfl) (by kernel_rfl) ?_ | refine EvK_draw (id := 5) (L := [(0, 2), (1, 2), (0, 3), (1, 3), (0, 4), (1, 4), (2, 4), (3, 4), (0, 5), (1, 5), (2, 5), (3, 5), (4, 5), (0, 6), (1, 6), (2, 6), (3, 6), (4, 6), (5, 6), (0, 7), (1, 7), (2, 7), (3, 7), (4, 7), (5, 7), (10, 11), (11, 12)]) (by kernel_rfl) (by kernel_rfl) ?_
  have kB := kA
  clear kA
  have e4 := e3
  have hI4 := hI3
  have w4 := w3
  clear e3 hI3
  refine EvQ_call ?_ ?_ (by rw [hP, hO]; exact (blockersP OMq kd k wait step [] _ hv hlT2 _ _ w4 hI4).wf w4) ?_
  · simp (config := { maxSteps := 2000000 }) (disch := omega) only [go_sem, *]
  · simp (config := { maxSteps := 2000000 }) (disch := omega) only [go_sem, *]
  rintro v h5 n5 ⟨⟨hbv, k5⟩, hn5, w5⟩
  obtain ⟨c, rfl, hS⟩ := pblk hbv
  rw [he]
  rw [hB] at hS
  have e5 := k5 _ _ e4
  have hI5 := hI4.keep k5
  have hNn5 : N < n5 := by omega
  have hbp : (q1 == q1) = true := by cases q1 <;> rfl
  have kC := kB.trans k5
  clear e4 hI4 hbv k5 kB hv hqv hn5 hn3
  repeat' first | simp (config := { maxSteps := 2000000 }) (disch := omega) only [go_sem, *, Try.results6, fewS, rqS, rbS, trueS, rdArg_nil, rdArg_some, rdEvs_nil, rdEvs_some] | (first | apply EvG_ndec | apply EvC_ndec | apply EvG_dec | apply EvC_dec | apply EvC_nbool | apply EvC_bool | apply EvG_nbool | apply EvG_bool) <;> intro _ | (first | apply EvH_ndec | apply EvH_dec | apply EvH_nbool | apply EvH_bool) <;> intro _ | refine EvK_draw (id := 3) (L := [(0, 2), (1, 2), (0, 3), (1, 3), (0, 4), (1, 4), (2, 4), (3, 4), (0, 5), (1, 5), (2, 5), (3, 5), (4, 5), (0, 6), (1, 6), (2, 6), (3, 6), (4, 6), (5, 6), (0, 7), (1, 7), (2, 7), (3, 7), (4, 7), (5, 7), (10, 11), (11, 12)]) (by kernel_rfl) (by kernel_rfl) ?_ | refine EvK_draw (id := 5) (L := [(0, 2), (1, 2), (0, 3), (1, 3), (0, 4), (1, 4), (2, 4), (3, 4), (0, 5), (1, 5), (2, 5), (3, 5), (4, 5), (0, 6), (1, 6), (2, 6), (3, 6), (4, 6), (5, 6), (0, 7), (1, 7), (2, 7), (3, 7), (4, 7), (5, 7), (10, 11), (11, 12)]) (by kernel_rfl) (by kernel_rfl) ?_
  have kD := kC
  clear kC
  have e6 := e5
  have hI6 := hI5
  have w6 := w5
  have hS6 := hS
  clear e5 hI5 hS
  have hD : IsSecs h5 (.slice none 0 0) [] := .inl ⟨rfl, rfl⟩
  have hlB : ([] : List Sec).length ≤ 100000 := by simp
  refine EvQ_call ?_ ?_ (by rw [hP, hO]; exact eqSecsB [] _ _ _ _ hS6 hD hlB) ?_
  · simp (config := { maxSteps := 2000000 }) (disch := omega) only [go_sem, *]
  · simp (config := { maxSteps := 2000000 }) (disch := omega) only [go_sem, *]
  rintro v h7 n7 ⟨rfl, rfl, rfl⟩
  clear hD hS6
  repeat' first | simp (config := { maxSteps := 2000000 }) (disch := omega) only [go_sem, *, Try.results6, fewS, rqS, rbS, trueS, rdArg_nil, rdArg_some, rdEvs_nil, rdEvs_some] | (first | apply EvG_ndec | apply EvC_ndec | apply EvG_dec | apply EvC_dec | apply EvC_nbool | apply EvC_bool | apply EvG_nbool | apply EvG_bool) <;> intro _ | (first | apply EvH_ndec | apply EvH_dec | apply EvH_nbool | apply EvH_bool) <;> intro _ | refine EvK_draw (id := 3) (L := [(0, 2), (1, 2), (0, 3), (1, 3), (0, 4), (1, 4), (2, 4), (3, 4), (0, 5), (1, 5), (2, 5), (3, 5), (4, 5), (0, 6), (1, 6), (2, 6), (3, 6), (4, 6), (5, 6), (0, 7), (1, 7), (2, 7), (3, 7), (4, 7), (5, 7), (10, 11), (11, 12)]) (by kernel_rfl) (by kernel_rfl) ?_ | refine EvK_draw (id := 5) (L := [(0, 2), (1, 2), (0, 3), (1, 3), (0, 4), (1, 4), (2, 4), (3, 4), (0, 5), (1, 5), (2, 5), (3, 5), (4, 5), (0, 6), (1, 6), (2, 6), (3, 6), (4, 6), (5, 6), (0, 7), (1, 7), (2, 7), (3, 7), (4, 7), (5, 7), (10, 11), (11, 12)]) (by kernel_rfl) (by kernel_rfl) ?_
  have hI8 := hI6
  have hI9 := hI6
  refine EvQ_call ?_ ?_ (by rw [hP, hO]; exact eqEvsB [] _ _ _ _ hI9 hI8 hlT2) ?_
  · simp (config := { maxSteps := 2000000 }) (disch := omega) only [go_sem, *]
  · simp (config := { maxSteps := 2000000 }) (disch := omega) only [go_sem, *]
  rintro v h10 n10 ⟨rfl, rfl, rfl⟩
  clear hI8 hI9 hI6
  repeat' first | simp (config := { maxSteps := 2000000 }) (disch := omega) only [go_sem, *, Try.results6, fewS, rqS, rbS, trueS, rdArg_nil, rdArg_some, rdEvs_nil, rdEvs_some] | (first | apply EvG_ndec | apply EvC_ndec | apply EvG_dec | apply EvC_dec | apply EvC_nbool | apply EvC_bool | apply EvG_nbool | apply EvG_bool) <;> intro _ | (first | apply EvH_ndec | apply EvH_dec | apply EvH_nbool | apply EvH_bool) <;> intro _ | refine EvK_draw (id := 3) (L := [(0, 2), (1, 2), (0, 3), (1, 3), (0, 4), (1, 4), (2, 4), (3, 4), (0, 5), (1, 5), (2, 5), (3, 5), (4, 5), (0, 6), (1, 6), (2, 6), (3, 6), (4, 6), (5, 6), (0, 7), (1, 7), (2, 7), (3, 7), (4, 7), (5, 7), (10, 11), (11, 12)]) (by kernel_rfl) (by kernel_rfl) ?_ | refine EvK_draw (id := 5) (L := [(0, 2), (1, 2), (0, 3), (1, 3), (0, 4), (1, 4), (2, 4), (3, 4), (0, 5), (1, 5), (2, 5), (3, 5), (4, 5), (0, 6), (1, 6), (2, 6), (3, 6), (4, 6), (5, 6), (0, 7), (1, 7), (2, 7), (3, 7), (4, 7), (5, 7), (10, 11), (11, 12)]) (by kernel_rfl) (by kernel_rfl) ?_
set_option maxRecDepth 100000 in
set_option maxHeartbeats 4000000 in
theorem mat1 (kd sl k wait step : Int) (A T : List Ev) (B : List Sec) (b off cap : Nat) (L : List Value) (ro : Bool) (hv : okVals T) (hlT : T.length ≤ 80) (hfm : fewM A = .pure (.slice none 0 0)) (hT : T = []) (hB : blkR kd k wait step T = B) (hbm : ∀ e, blkM e B = .pure (.tuple ⟨[.slice none 0 0, .int .i64 e]⟩)) (h : PT ABlk) (N : Nat) (hW : WfH h N) (hrd : rdEv2 off A.length cap L ro = .pure A) (hb : h.get b = some (.cells (PT.ofList .leaf 0 L) ro)) :
    EvB Try.prog OM 6 [.agg ⟨[.int .u8 kd, .int .i64 sl, .int .i64 k]⟩, .slice (some ⟨b, off, none⟩) A.length cap, .int .i64 wait, .int .i64 step] h N fun v h' _ => v = .bool true ∧ Kept h h' := by
  have hBn : B = [] := by cases B with | nil => rfl | cons x B => exact absurd (hbm 0) (by simp [blkM, AP.newRow])
  refine EvB_run (N := 93) Try.func6 rfl rfl fun z hP hO hro hN hQ => ?_
  have hok : @decide (EvsOk T) (Classical.propDecidable _) = true := @decide_eq_true _ (Classical.propDecidable _) ⟨hv, by omega⟩
  have hrdT : rdEv1 T.length (fun ro => ro = false) (evCs T) false = .pure T := rdEv1_eq rfl rfl
  have hlT2 : T.length ≤ 100000 := by omega
  obtain ⟨q1, q2, hqv⟩ := @quietV_tuple kd k wait step T
  obtain ⟨e, he⟩ : ∃ e, qerr kd k wait step T = e := ⟨_, rfl⟩
  have hbm2 := hbm e
  subst hT
  have hbN := hW.lt hb
  rw [hBn] at hB hbm2
  clear hBn
  clear hbm
  repeat' first | simp (config := { maxSteps := 2000000 }) (disch := omega) only [go_sem, *, Try.results6, fewS, rqS, rbS, trueS, rdArg_nil, rdArg_some, rdEvs_nil, rdEvs_some] | (first | apply EvG_ndec | apply EvC_ndec | apply EvG_dec | apply EvC_dec | apply EvC_nbool | apply EvC_bool | apply EvG_nbool | apply EvG_bool) <;> intro _ | (first | apply EvH_ndec | apply EvH_dec | apply EvH_nbool | apply EvH_bool) <;> intro _ | refine EvK_draw (id := 3) (L := [(0, 2), (1, 2), (0, 3), (1, 3), (0, 4), (1, 4), (2, 4), (3, 4), (0, 5), (1, 5), (2, 5), (3, 5), (4, 5), (0, 6), (1, 6), (2, 6), (3, 6), (4, 6), (5, 6), (0, 7), (1, 7), (2, 7), (3, 7), (4, 7), (5, 7), (10, 11), (11, 12)]) (by kernel_rfl) (by kernel_rfl) ?_ | refine EvK_draw (id := 5) (L := [(0, 2), (1, 2), (0, 3), (1, 3), (0, 4), (1, 4), (2, 4), (3, 4), (0, 5), (1, 5), (2, 5), (3, 5), (4, 5), (0, 6), (1, 6), (2, 6), (3, 6), (4, 6), (5, 6), (0, 7), (1, 7), (2, 7), (3, 7), (4, 7), (5, 7), (10, 11), (11, 12)]) (by kernel_rfl) (by kernel_rfl) ?_
  generalize hh1 : PT.set h N _ = h1
  have e1 := get_of_set hh1
  have hI : IsEvs h1 (.slice none 0 0) [] := .inl ⟨rfl, rfl⟩
  have w1 : WfH h1 (N + 1) := by rw [← hh1]; exact hW.set (by omega) (by omega)
  have k1 : Kept h h1 := by rw [← hh1]; exact hW.kept (Nat.le_refl _)
  have hb1 := k1 _ _ hb
  clear hh1 hW hb
  refine EvQ_call ?_ ?_ (by rw [hP, hO]; exact (quietP OMq kd k wait step [] _ hv hlT2 _ _ w1 hI).wf w1) ?_
  · simp (config := { maxSteps := 2000000 }) (disch := omega) only [go_sem, *]
  · simp (config := { maxSteps := 2000000 }) (disch := omega) only [go_sem, *]
  rintro v h3 n3 ⟨⟨rfl, k3⟩, hn3, w3⟩
  have e3 := k3 _ _ e1
  have hI3 := hI.keep k3
  have hb3 := k3 _ _ hb1
  have hNn3 : N < n3 := by omega
  have hbn3 := w3.lt hb3
  have kA := k1.trans k3
  clear e1 w1 hI k3 k1 hb1 hbN
  rw [hqv]
  repeat' first | simp (config := { maxSteps := 2000000 }) (disch := omega) only [go_sem, *, Try.results6, fewS, rqS, rbS, trueS, rdArg_nil, rdArg_some, rdEvs_nil, rdEvs_some] | (first | apply EvG_ndec | apply EvC_ndec | apply EvG_dec | apply EvC_dec | apply EvC_nbool | apply EvC_bool | apply EvG_nbool | apply EvG_bool) <;> intro _ | (first | apply EvH_ndec | apply EvH_dec | apply EvH_nbool | apply EvH_bool) <;> intro _ | refine EvK_draw (id := 3) (L := [(0, 2), (1, 2), (0, 3), (1, 3), (0, 4), (1, 4), (2, 4), (3, 4), (0, 5), (1, 5), (2, 5), (3, 5), (4, 5), (0, 6), (1, 6), (2, 6), (3, 6), (4, 6), (5, 6), (0, 7), (1, 7), (2, 7), (3, 7), (4, 7), (5, 7), (10, 11), (11, 12)]) (by kernel_rfl) (by kernel_rfl) ?_ | refine EvK_draw (id := 5) (L := [(0, 2), (1, 2), (0, 3), (1, 3), (0, 4), (1, 4), (2, 4), (3, 4), (0, 5), (1, 5), (2, 5), (3, 5), (4, 5), (0, 6), (1, 6), (2, 6), (3, 6), (4, 6), (5, 6), (0, 7), (1, 7), (2, 7), (3, 7), (4, 7), (5, 7), (10, 11), (11, 12)]) (by kernel_rfl) (by kernel_rfl) ?_
  have kB := kA
  clear kA
  have e4 := e3
  have hI4 := hI3
  have w4 := w3
  have hb4 := hb3
  clear e3 hI3 hb3
  refine EvQ_call ?_ ?_ (by rw [hP, hO]; exact (blockersP OMq kd k wait step [] _ hv hlT2 _ _ w4 hI4).wf w4) ?_
  · simp (config := { maxSteps := 2000000 }) (disch := omega) only [go_sem, *]
  · simp (config := { maxSteps := 2000000 }) (disch := omega) only [go_sem, *]
  rintro v h5 n5 ⟨⟨hbv, k5⟩, hn5, w5⟩
  obtain ⟨c, rfl, hS⟩ := pblk hbv
  rw [he]
  rw [hB] at hS
  have e5 := k5 _ _ e4
  have hI5 := hI4.keep k5
  have hb5 := k5 _ _ hb4
  have hbn5 := w5.lt hb5
  have hNn5 : N < n5 := by omega
  have hbp : (q1 == q1) = true := by cases q1 <;> rfl
  have kC := kB.trans k5
  clear e4 hI4 hbv k5 kB hv hqv hn5 hn3 hb4 hbn3
  repeat' first | simp (config := { maxSteps := 2000000 }) (disch := omega) only [go_sem, *, Try.results6, fewS, rqS, rbS, trueS, rdArg_nil, rdArg_some, rdEvs_nil, rdEvs_some] | (first | apply EvG_ndec | apply EvC_ndec | apply EvG_dec | apply EvC_dec | apply EvC_nbool | apply EvC_bool | apply EvG_nbool | apply EvG_bool) <;> intro _ | (first | apply EvH_ndec | apply EvH_dec | apply EvH_nbool | apply EvH_bool) <;> intro _ | refine EvK_draw (id := 3) (L := [(0, 2), (1, 2), (0, 3), (1, 3), (0, 4), (1, 4), (2, 4), (3, 4), (0, 5), (1, 5), (2, 5), (3, 5), (4, 5), (0, 6), (1, 6), (2, 6), (3, 6), (4, 6), (5, 6), (0, 7), (1, 7), (2, 7), (3, 7), (4, 7), (5, 7), (10, 11), (11, 12)]) (by kernel_rfl) (by kernel_rfl) ?_ | refine EvK_draw (id := 5) (L := [(0, 2), (1, 2), (0, 3), (1, 3), (0, 4), (1, 4), (2, 4), (3, 4), (0, 5), (1, 5), (2, 5), (3, 5), (4, 5), (0, 6), (1, 6), (2, 6), (3, 6), (4, 6), (5, 6), (0, 7), (1, 7), (2, 7), (3, 7), (4, 7), (5, 7), (10, 11), (11, 12)]) (by kernel_rfl) (by kernel_rfl) ?_
  have kD := kC
  clear kC
  have e6 := e5
  have hI6 := hI5
  have w6 := w5
  have hS6 := hS
  have hb6 := hb5
  clear e5 hI5 hS hb5
  have hD : IsSecs h5 (.slice none 0 0) [] := .inl ⟨rfl, rfl⟩
  have hlB : ([] : List Sec).length ≤ 100000 := by simp
  refine EvQ_call ?_ ?_ (by rw [hP, hO]; exact eqSecsB [] _ _ _ _ hS6 hD hlB) ?_
  · simp (config := { maxSteps := 2000000 }) (disch := omega) only [go_sem, *]
  · simp (config := { maxSteps := 2000000 }) (disch := omega) only [go_sem, *]
  rintro v h7 n7 ⟨rfl, rfl, rfl⟩
  clear hD hS6
  repeat' first | simp (config := { maxSteps := 2000000 }) (disch := omega) only [go_sem, *, Try.results6, fewS, rqS, rbS, trueS, rdArg_nil, rdArg_some, rdEvs_nil, rdEvs_some] | (first | apply EvG_ndec | apply EvC_ndec | apply EvG_dec | apply EvC_dec | apply EvC_nbool | apply EvC_bool | apply EvG_nbool | apply EvG_bool) <;> intro _ | (first | apply EvH_ndec | apply EvH_dec | apply EvH_nbool | apply EvH_bool) <;> intro _ | refine EvK_draw (id := 3) (L := [(0, 2), (1, 2), (0, 3), (1, 3), (0, 4), (1, 4), (2, 4), (3, 4), (0, 5), (1, 5), (2, 5), (3, 5), (4, 5), (0, 6), (1, 6), (2, 6), (3, 6), (4, 6), (5, 6), (0, 7), (1, 7), (2, 7), (3, 7), (4, 7), (5, 7), (10, 11), (11, 12)]) (by kernel_rfl) (by kernel_rfl) ?_ | refine EvK_draw (id := 5) (L := [(0, 2), (1, 2), (0, 3), (1, 3), (0, 4), (1, 4), (2, 4), (3, 4), (0, 5), (1, 5), (2, 5), (3, 5), (4, 5), (0, 6), (1, 6), (2, 6), (3, 6), (4, 6), (5, 6), (0, 7), (1, 7), (2, 7), (3, 7), (4, 7), (5, 7), (10, 11), (11, 12)]) (by kernel_rfl) (by kernel_rfl) ?_
  have hI8 := hI6
  have hI9 := hI6
  refine EvQ_call ?_ ?_ (by rw [hP, hO]; exact eqEvsB [] _ _ _ _ hI9 hI8 hlT2) ?_
  · simp (config := { maxSteps := 2000000 }) (disch := omega) only [go_sem, *]
  · simp (config := { maxSteps := 2000000 }) (disch := omega) only [go_sem, *]
  rintro v h10 n10 ⟨rfl, rfl, rfl⟩
  clear hI8 hI9 hI6
  repeat' first | simp (config := { maxSteps := 2000000 }) (disch := omega) only [go_sem, *, Try.results6, fewS, rqS, rbS, trueS, rdArg_nil, rdArg_some, rdEvs_nil, rdEvs_some] | (first | apply EvG_ndec | apply EvC_ndec | apply EvG_dec | apply EvC_dec | apply EvC_nbool | apply EvC_bool | apply EvG_nbool | apply EvG_bool) <;> intro _ | (first | apply EvH_ndec | apply EvH_dec | apply EvH_nbool | apply EvH_bool) <;> intro _ | refine EvK_draw (id := 3) (L := [(0, 2), (1, 2), (0, 3), (1, 3), (0, 4), (1, 4), (2, 4), (3, 4), (0, 5), (1, 5), (2, 5), (3, 5), (4, 5), (0, 6), (1, 6), (2, 6), (3, 6), (4, 6), (5, 6), (0, 7), (1, 7), (2, 7), (3, 7), (4, 7), (5, 7), (10, 11), (11, 12)]) (by kernel_rfl) (by kernel_rfl) ?_ | refine EvK_draw (id := 5) (L := [(0, 2), (1, 2), (0, 3), (1, 3), (0, 4), (1, 4), (2, 4), (3, 4), (0, 5), (1, 5), (2, 5), (3, 5), (4, 5), (0, 6), (1, 6), (2, 6), (3, 6), (4, 6), (5, 6), (0, 7), (1, 7), (2, 7), (3, 7), (4, 7), (5, 7), (10, 11), (11, 12)]) (by kernel_rfl) (by kernel_rfl) ?_
set_option maxRecDepth 100000 in
set_option maxHeartbeats 4000000 in
theorem mat2 (kd sl k wait step : Int) (A T : List Ev) (B : List Sec) (b off cap : Nat) (L : List Value) (ro : Bool) (hv : okVals T) (hlT : T.length ≤ 80) (hfm : fewM A = .newRow (evCs T) fun g => .pure (.slice (some ⟨g, 0, none⟩) T.length (capInf + 4))) (hB : blkR kd k wait step T = B) (hbm : ∀ e, blkM e B = .pure (.tuple ⟨[.slice none 0 0, .int .i64 e]⟩)) (h : PT ABlk) (N : Nat) (hW : WfH h N) (hrd : rdEv2 off A.length cap L ro = .pure A) (hb : h.get b = some (.cells (PT.ofList .leaf 0 L) ro)) :
    EvB Try.prog OM 6 [.agg ⟨[.int .u8 kd, .int .i64 sl, .int .i64 k]⟩, .slice (some ⟨b, off, none⟩) A.length cap, .int .i64 wait, .int .i64 step] h N fun v h' _ => v = .bool true ∧ Kept h h' := by
  have hBn : B = [] := by cases B with | nil => rfl | cons x B => exact absurd (hbm 0) (by simp [blkM, AP.newRow])
  refine EvB_run (N := 93) Try.func6 rfl rfl fun z hP hO hro hN hQ => ?_
  have hok : @decide (EvsOk T) (Classical.propDecidable _) = true := @decide_eq_true _ (Classical.propDecidable _) ⟨hv, by omega⟩
  have hrdT : rdEv1 T.length (fun ro => ro = false) (evCs T) false = .pure T := rdEv1_eq rfl rfl
  have hlT2 : T.length ≤ 100000 := by omega
  obtain ⟨q1, q2, hqv⟩ := @quietV_tuple kd k wait step T
  obtain ⟨e, he⟩ : ∃ e, qerr kd k wait step T = e := ⟨_, rfl⟩
  have hbm2 := hbm e
  have hbN := hW.lt hb
  rw [hBn] at hB hbm2
  clear hBn
  clear hbm
  repeat' first | simp (config := { maxSteps := 2000000 }) (disch := omega) only [go_sem, *, Try.results6, fewS, rqS, rbS, trueS, rdArg_nil, rdArg_some, rdEvs_nil, rdEvs_some] | (first | apply EvG_ndec | apply EvC_ndec | apply EvG_dec | apply EvC_dec | apply EvC_nbool | apply EvC_bool | apply EvG_nbool | apply EvG_bool) <;> intro _ | (first | apply EvH_ndec | apply EvH_dec | apply EvH_nbool | apply EvH_bool) <;> intro _ | refine EvK_draw (id := 3) (L := [(0, 2), (1, 2), (0, 3), (1, 3), (0, 4), (1, 4), (2, 4), (3, 4), (0, 5), (1, 5), (2, 5), (3, 5), (4, 5), (0, 6), (1, 6), (2, 6), (3, 6), (4, 6), (5, 6), (0, 7), (1, 7), (2, 7), (3, 7), (4, 7), (5, 7), (10, 11), (11, 12)]) (by kernel_rfl) (by kernel_rfl) ?_ | refine EvK_draw (id := 5) (L := [(0, 2), (1, 2), (0, 3), (1, 3), (0, 4), (1, 4), (2, 4), (3, 4), (0, 5), (1, 5), (2, 5), (3, 5), (4, 5), (0, 6), (1, 6), (2, 6), (3, 6), (4, 6), (5, 6), (0, 7), (1, 7), (2, 7), (3, 7), (4, 7), (5, 7), (10, 11), (11, 12)]) (by kernel_rfl) (by kernel_rfl) ?_
  generalize hh1 : PT.set (PT.set h N _) (N + 1) _ = h1
  have e1 : h1.get N = some (.cells (PT.ofList .leaf 0 [.int .u8 kd, .int .i64 sl, .int .i64 k]) false) := by rw [← hh1]; simp (disch := omega) only [heap_ne, heap_same]
  have hI : IsEvs h1 (.slice (some ⟨N + 1, 0, none⟩) T.length (capInf + 4)) T := .inr ⟨_, _, rfl, by rw [← hh1]; exact heap_same⟩
  have w1 : WfH h1 (N + 2) := by rw [← hh1]; exact WfH.set' (by omega) (hW.set (by omega) (by omega))
  have k1 : Kept h h1 := by rw [← hh1]; exact Kept.set' hW (by omega) (hW.kept (Nat.le_refl _))
  have hb1 := k1 _ _ hb
  clear hh1 hW hb
  refine EvQ_call ?_ ?_ (by rw [hP, hO]; exact (quietP OMq kd k wait step T _ hv hlT2 _ _ w1 hI).wf w1) ?_
  · simp (config := { maxSteps := 2000000 }) (disch := omega) only [go_sem, *]
  · simp (config := { maxSteps := 2000000 }) (disch := omega) only [go_sem, *]
  rintro v h3 n3 ⟨⟨rfl, k3⟩, hn3, w3⟩
  have e3 := k3 _ _ e1
  have hI3 := hI.keep k3
  have hb3 := k3 _ _ hb1
  have hNn3 : N < n3 := by omega
  have hbn3 := w3.lt hb3
  have kA := k1.trans k3
  clear e1 w1 hI k3 k1 hb1 hbN
  rw [hqv]
  repeat' first | simp (config := { maxSteps := 2000000 }) (disch := omega) only [go_sem, *, Try.results6, fewS, rqS, rbS, trueS, rdArg_nil, rdArg_some, rdEvs_nil, rdEvs_some] | (first | apply EvG_ndec | apply EvC_ndec | apply EvG_dec | apply EvC_dec | apply EvC_nbool | apply EvC_bool | apply EvG_nbool | apply EvG_bool) <;> intro _ | (first | apply EvH_ndec | apply EvH_dec | apply EvH_nbool | apply EvH_bool) <;> intro _ | refine EvK_draw (id := 3) (L := [(0, 2), (1, 2), (0, 3), (1, 3), (0, 4), (1, 4), (2, 4), (3, 4), (0, 5), (1, 5), (2, 5), (3, 5), (4, 5), (0, 6), (1, 6), (2, 6), (3, 6), (4, 6), (5, 6), (0, 7), (1, 7), (2, 7), (3, 7), (4, 7), (5, 7), (10, 11), (11, 12)]) (by kernel_rfl) (by kernel_rfl) ?_ | refine EvK_draw (id := 5) (L := [(0, 2), (1, 2), (0, 3), (1, 3), (0, 4), (1, 4), (2, 4), (3, 4), (0, 5), (1, 5), (2, 5), (3, 5), (4, 5), (0, 6), (1, 6), (2, 6), (3, 6), (4, 6), (5, 6), (0, 7), (1, 7), (2, 7), (3, 7), (4, 7), (5, 7), (10, 11), (11, 12)]) (by kernel_rfl) (by kernel_rfl) ?_
  generalize hh4 : PT.set h3 n3 _ = h4
  have k4 : Kept h3 h4 := by rw [← hh4]; exact w3.kept (Nat.le_refl _)
  have w4 : WfH h4 (n3 + 1) := by rw [← hh4]; exact w3.set (by omega) (by omega)
  have e4 := k4 _ _ e3
  have hI4 := hI3.keep k4
  have hb4 := k4 _ _ hb3
  have kB := kA.trans k4
  clear hh4 e3 hI3 k4 kA hb3
  refine EvQ_call ?_ ?_ (by rw [hP, hO]; exact (blockersP OMq kd k wait step T _ hv hlT2 _ _ w4 hI4).wf w4) ?_
  · simp (config := { maxSteps := 2000000 }) (disch := omega) only [go_sem, *]
  · simp (config := { maxSteps := 2000000 }) (disch := omega) only [go_sem, *]
  rintro v h5 n5 ⟨⟨hbv, k5⟩, hn5, w5⟩
  obtain ⟨c, rfl, hS⟩ := pblk hbv
  rw [he]
  rw [hB] at hS
  have e5 := k5 _ _ e4
  have hI5 := hI4.keep k5
  have hb5 := k5 _ _ hb4
  have hbn5 := w5.lt hb5
  have hNn5 : N < n5 := by omega
  have hbp : (q1 == q1) = true := by cases q1 <;> rfl
  have kC := kB.trans k5
  clear e4 hI4 hbv k5 kB hv hqv hn5 hn3 hb4 hbn3
  repeat' first | simp (config := { maxSteps := 2000000 }) (disch := omega) only [go_sem, *, Try.results6, fewS, rqS, rbS, trueS, rdArg_nil, rdArg_some, rdEvs_nil, rdEvs_some] | (first | apply EvG_ndec | apply EvC_ndec | apply EvG_dec | apply EvC_dec | apply EvC_nbool | apply EvC_bool | apply EvG_nbool | apply EvG_bool) <;> intro _ | (first | apply EvH_ndec | apply EvH_dec | apply EvH_nbool | apply EvH_bool) <;> intro _ | refine EvK_draw (id := 3) (L := [(0, 2), (1, 2), (0, 3), (1, 3), (0, 4), (1, 4), (2, 4), (3, 4), (0, 5), (1, 5), (2, 5), (3, 5), (4, 5), (0, 6), (1, 6), (2, 6), (3, 6), (4, 6), (5, 6), (0, 7), (1, 7), (2, 7), (3, 7), (4, 7), (5, 7), (10, 11), (11, 12)]) (by kernel_rfl) (by kernel_rfl) ?_ | refine EvK_draw (id := 5) (L := [(0, 2), (1, 2), (0, 3), (1, 3), (0, 4), (1, 4), (2, 4), (3, 4), (0, 5), (1, 5), (2, 5), (3, 5), (4, 5), (0, 6), (1, 6), (2, 6), (3, 6), (4, 6), (5, 6), (0, 7), (1, 7), (2, 7), (3, 7), (4, 7), (5, 7), (10, 11), (11, 12)]) (by kernel_rfl) (by kernel_rfl) ?_
  generalize hh6 : PT.set h5 n5 _ = h6
  have k6 : Kept h5 h6 := by rw [← hh6]; exact w5.kept (Nat.le_refl _)
  have w6 : WfH h6 (n5 + 1) := by rw [← hh6]; exact w5.set (by omega) (by omega)
  have e6 := k6 _ _ e5
  have hI6 := hI5.keep k6
  have hS6 := hS.keep k6
  have hb6 := k6 _ _ hb5
  have kD := kC.trans k6
  clear hh6 e5 hI5 hS k6 kC hb5
  have hD : IsSecs h6 (.slice none 0 0) [] := .inl ⟨rfl, rfl⟩
  have hlB : ([] : List Sec).length ≤ 100000 := by simp
  refine EvQ_call ?_ ?_ (by rw [hP, hO]; exact eqSecsB [] _ _ _ _ hS6 hD hlB) ?_
  · simp (config := { maxSteps := 2000000 }) (disch := omega) only [go_sem, *]
  · simp (config := { maxSteps := 2000000 }) (disch := omega) only [go_sem, *]
  rintro v h7 n7 ⟨rfl, rfl, rfl⟩
  clear hD hS6
  repeat' first | simp (config := { maxSteps := 2000000 }) (disch := omega) only [go_sem, *, Try.results6, fewS, rqS, rbS, trueS, rdArg_nil, rdArg_some, rdEvs_nil, rdEvs_some] | (first | apply EvG_ndec | apply EvC_ndec | apply EvG_dec | apply EvC_dec | apply EvC_nbool | apply EvC_bool | apply EvG_nbool | apply EvG_bool) <;> intro _ | (first | apply EvH_ndec | apply EvH_dec | apply EvH_nbool | apply EvH_bool) <;> intro _ | refine EvK_draw (id := 3) (L := [(0, 2), (1, 2), (0, 3), (1, 3), (0, 4), (1, 4), (2, 4), (3, 4), (0, 5), (1, 5), (2, 5), (3, 5), (4, 5), (0, 6), (1, 6), (2, 6), (3, 6), (4, 6), (5, 6), (0, 7), (1, 7), (2, 7), (3, 7), (4, 7), (5, 7), (10, 11), (11, 12)]) (by kernel_rfl) (by kernel_rfl) ?_ | refine EvK_draw (id := 5) (L := [(0, 2), (1, 2), (0, 3), (1, 3), (0, 4), (1, 4), (2, 4), (3, 4), (0, 5), (1, 5), (2, 5), (3, 5), (4, 5), (0, 6), (1, 6), (2, 6), (3, 6), (4, 6), (5, 6), (0, 7), (1, 7), (2, 7), (3, 7), (4, 7), (5, 7), (10, 11), (11, 12)]) (by kernel_rfl) (by kernel_rfl) ?_
  generalize hh8 : PT.set h7 (n5 + 1) _ = h8
  have hI8 : IsEvs h8 (.slice (some ⟨n5 + 1, 0, none⟩) T.length (capInf + 4)) T := .inr ⟨_, _, rfl, get_of_set hh8⟩
  have k8 : Kept h7 h8 := by rw [← hh8]; exact w6.kept (Nat.le_refl _)
  have hI9 := hI6.keep k8
  have kE := kD.trans k8
  clear hh8
  refine EvQ_call ?_ ?_ (by rw [hP, hO]; exact eqEvsB T _ _ _ _ hI9 hI8 hlT2) ?_
  · simp (config := { maxSteps := 2000000 }) (disch := omega) only [go_sem, *]
  · simp (config := { maxSteps := 2000000 }) (disch := omega) only [go_sem, *]
  rintro v h10 n10 ⟨rfl, rfl, rfl⟩
  clear hI8 hI9 hI6
  repeat' first | simp (config := { maxSteps := 2000000 }) (disch := omega) only [go_sem, *, Try.results6, fewS, rqS, rbS, trueS, rdArg_nil, rdArg_some, rdEvs_nil, rdEvs_some] | (first | apply EvG_ndec | apply EvC_ndec | apply EvG_dec | apply EvC_dec | apply EvC_nbool | apply EvC_bool | apply EvG_nbool | apply EvG_bool) <;> intro _ | (first | apply EvH_ndec | apply EvH_dec | apply EvH_nbool | apply EvH_bool) <;> intro _ | refine EvK_draw (id := 3) (L := [(0, 2), (1, 2), (0, 3), (1, 3), (0, 4), (1, 4), (2, 4), (3, 4), (0, 5), (1, 5), (2, 5), (3, 5), (4, 5), (0, 6), (1, 6), (2, 6), (3, 6), (4, 6), (5, 6), (0, 7), (1, 7), (2, 7), (3, 7), (4, 7), (5, 7), (10, 11), (11, 12)]) (by kernel_rfl) (by kernel_rfl) ?_ | refine EvK_draw (id := 5) (L := [(0, 2), (1, 2), (0, 3), (1, 3), (0, 4), (1, 4), (2, 4), (3, 4), (0, 5), (1, 5), (2, 5), (3, 5), (4, 5), (0, 6), (1, 6), (2, 6), (3, 6), (4, 6), (5, 6), (0, 7), (1, 7), (2, 7), (3, 7), (4, 7), (5, 7), (10, 11), (11, 12)]) (by kernel_rfl) (by kernel_rfl) ?_
set_option maxRecDepth 100000 in
set_option maxHeartbeats 4000000 in
theorem mat3 (kd sl k wait step : Int) (A T : List Ev) (B : List Sec) (b off cap : Nat) (L : List Value) (ro : Bool) (hv : okVals T) (hlT : T.length ≤ 80) (hfm : fewM A = .newRow (evCs T) fun g => .pure (.slice (some ⟨g, 0, none⟩) T.length (capInf + 4))) (hB : blkR kd k wait step T = B) (hlB0 : B.length ≤ 100000) (hbm : ∀ e, blkM e B = .newRow (secCs B) fun g => .pure (.tuple ⟨[.slice (some ⟨g, 0, none⟩) B.length (capInf + 4), .int .i64 e]⟩)) (h : PT ABlk) (N : Nat) (hW : WfH h N) (hrd : rdEv2 off A.length cap L ro = .pure A) (hb : h.get b = some (.cells (PT.ofList .leaf 0 L) ro)) :
    EvB Try.prog OM 6 [.agg ⟨[.int .u8 kd, .int .i64 sl, .int .i64 k]⟩, .slice (some ⟨b, off, none⟩) A.length cap, .int .i64 wait, .int .i64 step] h N fun v h' _ => v = .bool true ∧ Kept h h' := by
  refine EvB_run (N := 93) Try.func6 rfl rfl fun z hP hO hro hN hQ => ?_
  have hok : @decide (EvsOk T) (Classical.propDecidable _) = true := @decide_eq_true _ (Classical.propDecidable _) ⟨hv, by omega⟩
  have hrdT : rdEv1 T.length (fun ro => ro = false) (evCs T) false = .pure T := rdEv1_eq rfl rfl
  have hlT2 : T.length ≤ 100000 := by omega
  obtain ⟨q1, q2, hqv⟩ := @quietV_tuple kd k wait step T
  obtain ⟨e, he⟩ : ∃ e, qerr kd k wait step T = e := ⟨_, rfl⟩
  have hbm2 := hbm e
  have hbN := hW.lt hb
  clear hbm
  repeat' first | simp (config := { maxSteps := 2000000 }) (disch := omega) only [go_sem, *, Try.results6, fewS, rqS, rbS, trueS, rdArg_nil, rdArg_some, rdEvs_nil, rdEvs_some] | (first | apply EvG_ndec | apply EvC_ndec | apply EvG_dec | apply EvC_dec | apply EvC_nbool | apply EvC_bool | apply EvG_nbool | apply EvG_bool) <;> intro _ | (first | apply EvH_ndec | apply EvH_dec | apply EvH_nbool | apply EvH_bool) <;> intro _ | refine EvK_draw (id := 3) (L := [(0, 2), (1, 2), (0, 3), (1, 3), (0, 4), (1, 4), (2, 4), (3, 4), (0, 5), (1, 5), (2, 5), (3, 5), (4, 5), (0, 6), (1, 6), (2, 6), (3, 6), (4, 6), (5, 6), (0, 7), (1, 7), (2, 7), (3, 7), (4, 7), (5, 7), (10, 11), (11, 12)]) (by kernel_rfl) (by kernel_rfl) ?_ | refine EvK_draw (id := 5) (L := [(0, 2), (1, 2), (0, 3), (1, 3), (0, 4), (1, 4), (2, 4), (3, 4), (0, 5), (1, 5), (2, 5), (3, 5), (4, 5), (0, 6), (1, 6), (2, 6), (3, 6), (4, 6), (5, 6), (0, 7), (1, 7), (2, 7), (3, 7), (4, 7), (5, 7), (10, 11), (11, 12)]) (by kernel_rfl) (by kernel_rfl) ?_
  generalize hh1 : PT.set (PT.set h N _) (N + 1) _ = h1
  have e1 : h1.get N = some (.cells (PT.ofList .leaf 0 [.int .u8 kd, .int .i64 sl, .int .i64 k]) false) := by rw [← hh1]; simp (disch := omega) only [heap_ne, heap_same]
  have hI : IsEvs h1 (.slice (some ⟨N + 1, 0, none⟩) T.length (capInf + 4)) T := .inr ⟨_, _, rfl, by rw [← hh1]; exact heap_same⟩
  have w1 : WfH h1 (N + 2) := by rw [← hh1]; exact WfH.set' (by omega) (hW.set (by omega) (by omega))
  have k1 : Kept h h1 := by rw [← hh1]; exact Kept.set' hW (by omega) (hW.kept (Nat.le_refl _))
  have hb1 := k1 _ _ hb
  clear hh1 hW hb
  refine EvQ_call ?_ ?_ (by rw [hP, hO]; exact (quietP OMq kd k wait step T _ hv hlT2 _ _ w1 hI).wf w1) ?_
  · simp (config := { maxSteps := 2000000 }) (disch := omega) only [go_sem, *]
  · simp (config := { maxSteps := 2000000 }) (disch := omega) only [go_sem, *]
  rintro v h3 n3 ⟨⟨rfl, k3⟩, hn3, w3⟩
  have e3 := k3 _ _ e1
  have hI3 := hI.keep k3
  have hb3 := k3 _ _ hb1
  have hNn3 : N < n3 := by omega
  have hbn3 := w3.lt hb3
  have kA := k1.trans k3
  clear e1 w1 hI k3 k1 hb1 hbN
  rw [hqv]
  repeat' first | simp (config := { maxSteps := 2000000 }) (disch := omega) only [go_sem, *, Try.results6, fewS, rqS, rbS, trueS, rdArg_nil, rdArg_some, rdEvs_nil, rdEvs_some] | (first | apply EvG_ndec | apply EvC_ndec | apply EvG_dec | apply EvC_dec | apply EvC_nbool | apply EvC_bool | apply EvG_nbool | apply EvG_bool) <;> intro _ | (first | apply EvH_ndec | apply EvH_dec | apply EvH_nbool | apply EvH_bool) <;> intro _ | refine EvK_draw (id := 3) (L := [(0, 2), (1, 2), (0, 3), (1, 3), (0, 4), (1, 4), (2, 4), (3, 4), (0, 5), (1, 5), (2, 5), (3, 5), (4, 5), (0, 6), (1, 6), (2, 6), (3, 6), (4, 6), (5, 6), (0, 7), (1, 7), (2, 7), (3, 7), (4, 7), (5, 7), (10, 11), (11, 12)]) (by kernel_rfl) (by kernel_rfl) ?_ | refine EvK_draw (id := 5) (L := [(0, 2), (1, 2), (0, 3), (1, 3), (0, 4), (1, 4), (2, 4), (3, 4), (0, 5), (1, 5), (2, 5), (3, 5), (4, 5), (0, 6), (1, 6), (2, 6), (3, 6), (4, 6), (5, 6), (0, 7), (1, 7), (2, 7), (3, 7), (4, 7), (5, 7), (10, 11), (11, 12)]) (by kernel_rfl) (by kernel_rfl) ?_
  generalize hh4 : PT.set h3 n3 _ = h4
  have k4 : Kept h3 h4 := by rw [← hh4]; exact w3.kept (Nat.le_refl _)
  have w4 : WfH h4 (n3 + 1) := by rw [← hh4]; exact w3.set (by omega) (by omega)
  have e4 := k4 _ _ e3
  have hI4 := hI3.keep k4
  have hb4 := k4 _ _ hb3
  have kB := kA.trans k4
  clear hh4 e3 hI3 k4 kA hb3
  refine EvQ_call ?_ ?_ (by rw [hP, hO]; exact (blockersP OMq kd k wait step T _ hv hlT2 _ _ w4 hI4).wf w4) ?_
  · simp (config := { maxSteps := 2000000 }) (disch := omega) only [go_sem, *]
  · simp (config := { maxSteps := 2000000 }) (disch := omega) only [go_sem, *]
  rintro v h5 n5 ⟨⟨hbv, k5⟩, hn5, w5⟩
  obtain ⟨c, rfl, hS⟩ := pblk hbv
  rw [he]
  rw [hB] at hS
  have e5 := k5 _ _ e4
  have hI5 := hI4.keep k5
  have hb5 := k5 _ _ hb4
  have hbn5 := w5.lt hb5
  have hNn5 : N < n5 := by omega
  have hbp : (q1 == q1) = true := by cases q1 <;> rfl
  have kC := kB.trans k5
  clear e4 hI4 hbv k5 kB hv hqv hn5 hn3 hb4 hbn3
  repeat' first | simp (config := { maxSteps := 2000000 }) (disch := omega) only [go_sem, *, Try.results6, fewS, rqS, rbS, trueS, rdArg_nil, rdArg_some, rdEvs_nil, rdEvs_some] | (first | apply EvG_ndec | apply EvC_ndec | apply EvG_dec | apply EvC_dec | apply EvC_nbool | apply EvC_bool | apply EvG_nbool | apply EvG_bool) <;> intro _ | (first | apply EvH_ndec | apply EvH_dec | apply EvH_nbool | apply EvH_bool) <;> intro _ | refine EvK_draw (id := 3) (L := [(0, 2), (1, 2), (0, 3), (1, 3), (0, 4), (1, 4), (2, 4), (3, 4), (0, 5), (1, 5), (2, 5), (3, 5), (4, 5), (0, 6), (1, 6), (2, 6), (3, 6), (4, 6), (5, 6), (0, 7), (1, 7), (2, 7), (3, 7), (4, 7), (5, 7), (10, 11), (11, 12)]) (by kernel_rfl) (by kernel_rfl) ?_ | refine EvK_draw (id := 5) (L := [(0, 2), (1, 2), (0, 3), (1, 3), (0, 4), (1, 4), (2, 4), (3, 4), (0, 5), (1, 5), (2, 5), (3, 5), (4, 5), (0, 6), (1, 6), (2, 6), (3, 6), (4, 6), (5, 6), (0, 7), (1, 7), (2, 7), (3, 7), (4, 7), (5, 7), (10, 11), (11, 12)]) (by kernel_rfl) (by kernel_rfl) ?_
  generalize hh6 : PT.set (PT.set h5 n5 _) (n5 + 1) _ = h6
  have k6 : Kept h5 h6 := by rw [← hh6]; exact Kept.set' w5 (by omega) (w5.kept (Nat.le_refl _))
  have w6 : WfH h6 (n5 + 2) := by rw [← hh6]; exact WfH.set' (by omega) (w5.set (by omega) (by omega))
  have hD : IsSecs h6 (.slice (some ⟨n5 + 1, 0, none⟩) B.length (capInf + 4)) B := .inr ⟨_, rfl, by rw [← hh6]; exact heap_same⟩
  have e6 := k6 _ _ e5
  have hI6 := hI5.keep k6
  have hS6 := hS.keep k6
  have hb6 := k6 _ _ hb5
  have kD := kC.trans k6
  clear hh6 e5 hI5 hS k6 kC hb5
  have hlB : (B : List Sec).length ≤ 100000 := hlB0
  refine EvQ_call ?_ ?_ (by rw [hP, hO]; exact eqSecsB B _ _ _ _ hS6 hD hlB) ?_
  · simp (config := { maxSteps := 2000000 }) (disch := omega) only [go_sem, *]
  · simp (config := { maxSteps := 2000000 }) (disch := omega) only [go_sem, *]
  rintro v h7 n7 ⟨rfl, rfl, rfl⟩
  clear hD hS6
  repeat' first | simp (config := { maxSteps := 2000000 }) (disch := omega) only [go_sem, *, Try.results6, fewS, rqS, rbS, trueS, rdArg_nil, rdArg_some, rdEvs_nil, rdEvs_some] | (first | apply EvG_ndec | apply EvC_ndec | apply EvG_dec | apply EvC_dec | apply EvC_nbool | apply EvC_bool | apply EvG_nbool | apply EvG_bool) <;> intro _ | (first | apply EvH_ndec | apply EvH_dec | apply EvH_nbool | apply EvH_bool) <;> intro _ | refine EvK_draw (id := 3) (L := [(0, 2), (1, 2), (0, 3), (1, 3), (0, 4), (1, 4), (2, 4), (3, 4), (0, 5), (1, 5), (2, 5), (3, 5), (4, 5), (0, 6), (1, 6), (2, 6), (3, 6), (4, 6), (5, 6), (0, 7), (1, 7), (2, 7), (3, 7), (4, 7), (5, 7), (10, 11), (11, 12)]) (by kernel_rfl) (by kernel_rfl) ?_ | refine EvK_draw (id := 5) (L := [(0, 2), (1, 2), (0, 3), (1, 3), (0, 4), (1, 4), (2, 4), (3, 4), (0, 5), (1, 5), (2, 5), (3, 5), (4, 5), (0, 6), (1, 6), (2, 6), (3, 6), (4, 6), (5, 6), (0, 7), (1, 7), (2, 7), (3, 7), (4, 7), (5, 7), (10, 11), (11, 12)]) (by kernel_rfl) (by kernel_rfl) ?_
  generalize hh8 : PT.set h7 (n5 + 2) _ = h8
  have hI8 : IsEvs h8 (.slice (some ⟨n5 + 2, 0, none⟩) T.length (capInf + 4)) T := .inr ⟨_, _, rfl, get_of_set hh8⟩
  have k8 : Kept h7 h8 := by rw [← hh8]; exact w6.kept (Nat.le_refl _)
  have hI9 := hI6.keep k8
  have kE := kD.trans k8
  clear hh8
  refine EvQ_call ?_ ?_ (by rw [hP, hO]; exact eqEvsB T _ _ _ _ hI9 hI8 hlT2) ?_
  · simp (config := { maxSteps := 2000000 }) (disch := omega) only [go_sem, *]
  · simp (config := { maxSteps := 2000000 }) (disch := omega) only [go_sem, *]
  rintro v h10 n10 ⟨rfl, rfl, rfl⟩
  clear hI8 hI9 hI6
  repeat' first | simp (config := { maxSteps := 2000000 }) (disch := omega) only [go_sem, *, Try.results6, fewS, rqS, rbS, trueS, rdArg_nil, rdArg_some, rdEvs_nil, rdEvs_some] | (first | apply EvG_ndec | apply EvC_ndec | apply EvG_dec | apply EvC_dec | apply EvC_nbool | apply EvC_bool | apply EvG_nbool | apply EvG_bool) <;> intro _ | (first | apply EvH_ndec | apply EvH_dec | apply EvH_nbool | apply EvH_bool) <;> intro _ | refine EvK_draw (id := 3) (L := [(0, 2), (1, 2), (0, 3), (1, 3), (0, 4), (1, 4), (2, 4), (3, 4), (0, 5), (1, 5), (2, 5), (3, 5), (4, 5), (0, 6), (1, 6), (2, 6), (3, 6), (4, 6), (5, 6), (0, 7), (1, 7), (2, 7), (3, 7), (4, 7), (5, 7), (10, 11), (11, 12)]) (by kernel_rfl) (by kernel_rfl) ?_ | refine EvK_draw (id := 5) (L := [(0, 2), (1, 2), (0, 3), (1, 3), (0, 4), (1, 4), (2, 4), (3, 4), (0, 5), (1, 5), (2, 5), (3, 5), (4, 5), (0, 6), (1, 6), (2, 6), (3, 6), (4, 6), (5, 6), (0, 7), (1, 7), (2, 7), (3, 7), (4, 7), (5, 7), (10, 11), (11, 12)]) (by kernel_rfl) (by kernel_rfl) ?_
theorem blkR_length {kd k wait step : Int} {E : List Ev} : (blkR kd k wait step E).length ≤ E.length := by
  unfold blkR
  split
  · rename_i hq
    obtain ⟨_, _, wn, hw, rfl, _⟩ := qerr_zero hq
    rw [blkB_at hw]
    exact Nat.le_trans blk_length (refS_length 1 E)
  · exact Nat.zero_le _
theorem matchesK (kd sl k wait step : Int) (E : List Ev) (s : Value) (hv : okVals E) (h : PT ABlk) (N : Nat) (hW : WfH h N) (hs : ArgEvs h s E) :
    EvB Try.prog OM 6 [.agg ⟨[.int .u8 kd, .int .i64 sl, .int .i64 k]⟩, s, .int .i64 wait, .int .i64 step] h N fun v h' _ => v = .bool true ∧ Kept h h' := by
  have hn0 : okVals [] := fun x hx => by simp at hx
  rcases hs with ⟨rfl, rfl⟩ | ⟨b, off, cap, L, ro, rfl, hc1, hc2, hol, hL, hb⟩
  · exact mat0 kd sl k wait step [] [] [] hn0 (by simp) rfl rfl blkR_nil (fun _ => rfl) h N hW rfl
  · have hrd : rdEv2 off E.length cap L ro = .pure E := rdEv2_eq hL rfl hc1 hc2 hol
    cases E with
    | nil => exact mat1 kd sl k wait step [] [] [] b off cap L ro hn0 (by simp) rfl rfl blkR_nil (fun _ => rfl) h N hW hrd hb
    | cons x E =>
      have hvT : okVals ((x :: E).take 80) := fun y hy => hv y (List.mem_of_mem_take hy)
      have hlT : ((x :: E).take 80).length ≤ 80 := by rw [List.length_take]; omega
      cases hB : blkR kd k wait step ((x :: E).take 80) with
      | nil => exact mat2 kd sl k wait step (x :: E) _ [] b off cap L ro hvT hlT rfl hB (fun _ => rfl) h N hW hrd hb
      | cons y B =>
        have hlB := @blkR_length kd k wait step ((x :: E).take 80)
        rw [hB] at hlB
        exact mat3 kd sl k wait step (x :: E) _ (y :: B) b off cap L ro hvT hlT rfl hB (by omega) (fun _ => rfl) h N hW hrd hb
theorem matchesB (kd sl k wait step : Int) (E : List Ev) (s : Value) (hv : okVals E) (h : PT ABlk) (N : Nat) (hW : WfH h N) (hs : ArgEvs h s E) :
    EvB Try.prog OM 6 [.agg ⟨[.int .u8 kd, .int .i64 sl, .int .i64 k]⟩, s, .int .i64 wait, .int .i64 step] h N fun v _ _ => v = .bool true := (matchesK kd sl k wait step E s hv h N hW hs).mono fun _ _ _ q => q.1
end Go.Proofs.Ythhohpbghfbkbaa
