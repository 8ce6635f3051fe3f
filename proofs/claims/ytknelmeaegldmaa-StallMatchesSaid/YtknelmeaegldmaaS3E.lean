/-
  A part of the proof: contracts of inner functions.
-/
import Derived.Test.YtknelmeaegldmaaS3D
set_option linter.unusedVariables false
set_option linter.unusedSimpArgs false
namespace Go.Proofs.Ytknelmeaegldmaa
open Go.Am

def opnP (step : Int) (s : Sec) : Bool := decide (s.2.2.1 ≤ step ∧ (s.2.2.2 < 0 ∨ s.2.2.2 > step))
def shutS (s : Sec) : Sec := (s.1, s.2.1, s.2.2.1, -1)
/-- What is open at a step. -/
def opn (step : Int) (S : List Sec) : List Sec := (S.filter (opnP step)).map shutS
theorem opn_at {step : Int} {S : List Sec} {i : Nat} (hi : i < S.length) : opn step (S.drop i) = if opnP step S[i] = true then shutS S[i] :: opn step (S.drop (i + 1)) else opn step (S.drop (i + 1)) := by
  rw [List.drop_eq_getElem_cons hi]
  unfold opn
  rw [List.filter_cons]
  split <;> rfl
/-- The answer of Open. -/
def OpenV (step : Int) (E : List Ev) (v : Value) (h : PT ABlk) : Prop := (chk E = false ∧ v = .tuple ⟨[.slice none 0 0, .int .i64 15]⟩) ∨ (chk E = true ∧ step < -1 ∧ v = .tuple ⟨[.slice none 0 0, .int .i64 3]⟩) ∨ (chk E = true ∧ ¬ step < -1 ∧ ∃ sl, v = .tuple ⟨[sl, .int .i64 0]⟩ ∧ IsSecs h sl (opn step (refS 1 E)))
@[go_sem] theorem guard_undef {b : Bool} : guardQ (some undefV) b = false := by cases b <;> rfl
structure EvO (O : Over) : Prop where
  fol : Follows O
  o57 : O 57 = fun _ => none
  o47 : O 47 = fun _ => none
  o39 : O 39 = fun _ => none
  o53 : O 53 = fun _ => none
  o40 : O 40 = endS
  o54 : O 54 = endS
  o38 : O 38 = fun _ => none
  o52 : O 52 = fun _ => none
  o20 : O 20 = fun _ => none
  o44 : O 44 = fun _ => none
  o55 : O 55 = fun _ => none
  o61 : O 61 = fun _ => none
  o56 : O 56 = endsS
  o45 : O 45 = fun _ => none
  o46 : O 46 = fun _ => none
  o36 : O 36 = fun _ => none
  o37 : O 37 = fun _ => none
theorem waitsB {O : Over} (H : EvO O) (E : List Ev) (s : Value) (hn : E.length ≤ 100000) (h : PT ABlk) (N : Nat) (hW : WfH h N) (hs : IsEvs h s E) :
    EvB Try.prog O 20 [s] h N fun v h' n' => SecsV 3 E v h' ∧ Kept h h' := by
  have o := H.o38
  refine EvB_run (N := 8) Try.func20 rfl rfl fun z hP hO hro hN hQ => ?_
  repeat' first | simp (config := { maxSteps := 2000000 }) (disch := omega) only [go_sem, *, Try.results20] | (first | apply EvG_ndec | apply EvC_ndec | apply EvG_dec | apply EvC_dec | apply EvC_nbool | apply EvC_bool | apply EvG_nbool | apply EvG_bool) <;> intro _
  refine EvQ_call ?_ ?_ (by rw [hP, hO]; exact pairsWaits H.fol H.o57 H.o47 H.o39 H.o40 E _ hn _ _ hW hs) ?_
  · simp (config := { maxSteps := 2000000 }) (disch := omega) only [go_sem, *]
  · simp (config := { maxSteps := 2000000 }) (disch := omega) only [go_sem, *]
  rintro v h2 n2 ⟨hv, k2⟩
  have hv2 := hv
  rcases hv2 with ⟨hc, rfl⟩ | ⟨hc, sl, rfl, hI⟩
  · repeat' first | simp (config := { maxSteps := 2000000 }) (disch := omega) only [go_sem, *, Try.results20] | (first | apply EvG_ndec | apply EvC_ndec | apply EvG_dec | apply EvC_dec | apply EvC_nbool | apply EvC_bool | apply EvG_nbool | apply EvG_bool) <;> intro _
  · repeat' first | simp (config := { maxSteps := 2000000 }) (disch := omega) only [go_sem, *, Try.results20] | (first | apply EvG_ndec | apply EvC_ndec | apply EvG_dec | apply EvC_dec | apply EvC_nbool | apply EvC_bool | apply EvG_nbool | apply EvG_bool) <;> intro _
theorem sectionsB {O : Over} (H : EvO O) (E : List Ev) (s : Value) (hn : E.length ≤ 100000) (h : PT ABlk) (N : Nat) (hW : WfH h N) (hs : IsEvs h s E) :
    EvB Try.prog O 44 [s] h N fun v h' n' => SecsV 1 E v h' ∧ Kept h h' := by
  have o := H.o52
  refine EvB_run (N := 8) Try.func44 rfl rfl fun z hP hO hro hN hQ => ?_
  repeat' first | simp (config := { maxSteps := 2000000 }) (disch := omega) only [go_sem, *, Try.results44] | (first | apply EvG_ndec | apply EvC_ndec | apply EvG_dec | apply EvC_dec | apply EvC_nbool | apply EvC_bool | apply EvG_nbool | apply EvG_bool) <;> intro _
  refine EvQ_call ?_ ?_ (by rw [hP, hO]; exact pairsSections H.fol H.o57 H.o47 H.o53 H.o54 E _ hn _ _ hW hs) ?_
  · simp (config := { maxSteps := 2000000 }) (disch := omega) only [go_sem, *]
  · simp (config := { maxSteps := 2000000 }) (disch := omega) only [go_sem, *]
  rintro v h2 n2 ⟨hv, k2⟩
  have hv2 := hv
  rcases hv2 with ⟨hc, rfl⟩ | ⟨hc, sl, rfl, hI⟩
  · repeat' first | simp (config := { maxSteps := 2000000 }) (disch := omega) only [go_sem, *, Try.results44] | (first | apply EvG_ndec | apply EvC_ndec | apply EvG_dec | apply EvC_dec | apply EvC_nbool | apply EvC_bool | apply EvG_nbool | apply EvG_bool) <;> intro _
  · repeat' first | simp (config := { maxSteps := 2000000 }) (disch := omega) only [go_sem, *, Try.results44] | (first | apply EvG_ndec | apply EvC_ndec | apply EvG_dec | apply EvC_dec | apply EvC_nbool | apply EvC_bool | apply EvG_nbool | apply EvG_bool) <;> intro _
set_option maxRecDepth 100000 in
set_option maxHeartbeats 2000000 in
theorem openB {O : Over} (H : EvO O) (E : List Ev) (s : Value) (step : Int) (hn : E.length ≤ 100000) (h : PT ABlk) (N : Nat) (hW : WfH h N) (hs : IsEvs h s E) :
    EvB Try.prog O 36 [.int .i64 step, s] h N fun v h' n' => OpenV step E v h' ∧ Kept h h' := by
  have o := H.o44
  unfold OpenV
  obtain ⟨ba, bc, rfl, hrow⟩ := hs.len
  refine EvB_run (N := 49) Try.func36 rfl rfl fun z hP hO hro hN hQ => ?_
  repeat' first | simp (config := { maxSteps := 2000000 }) (disch := omega) only [go_sem, *, Try.results36] | (first | apply EvG_ndec | apply EvC_ndec | apply EvG_dec | apply EvC_dec | apply EvC_nbool | apply EvC_bool | apply EvG_nbool | apply EvG_bool) <;> intro _
  refine EvQ_call ?_ ?_ (by rw [hP, hO]; exact (sectionsB H E _ hn _ _ hW hs).wf hW) ?_
  · simp (config := { maxSteps := 2000000 }) (disch := omega) only [go_sem, *]
  · simp (config := { maxSteps := 2000000 }) (disch := omega) only [go_sem, *]
  clear hs hrow
  rintro v h2 n2 ⟨⟨hv, k2⟩, hn2, hW2⟩
  rcases hv with ⟨hc, rfl⟩ | ⟨hc, sl, rfl, hI⟩
  · rw [hc] at hQ
    repeat' first | simp (config := { maxSteps := 2000000 }) (disch := omega) only [go_sem, *, Try.results36] | (first | apply EvG_ndec | apply EvC_ndec | apply EvG_dec | apply EvC_dec | apply EvC_nbool | apply EvC_bool | apply EvG_nbool | apply EvG_bool) <;> intro _
  · rw [hc] at hQ
    obtain ⟨sa, sc, rfl, hrow⟩ := hI.len
    have hSl := refS_length 1 E
    generalize refS 1 E = A at *
    by_cases hst : step < -1
    · clear hrow
      repeat' first | simp (config := { maxSteps := 2000000 }) (disch := omega) only [go_sem, *, Try.results36] | (first | apply EvG_ndec | apply EvC_ndec | apply EvG_dec | apply EvC_dec | apply EvC_nbool | apply EvC_bool | apply EvG_nbool | apply EvG_bool) <;> intro _
    · repeat' first | simp (config := { maxSteps := 2000000 }) (disch := omega) only [go_sem, *, Try.results36] | (first | apply EvG_ndec | apply EvC_ndec | apply EvG_dec | apply EvC_dec | apply EvC_nbool | apply EvC_bool | apply EvG_nbool | apply EvG_bool) <;> intro _
      refine ind_loop (fun t m h' n' => ∃ (i : Nat) (ol : Value) (S : List Sec), i ≤ A.length ∧ t = A.length - i ∧ m.n = 49 ∧ m.dfs = [] ∧ m.get 0 = .int .i64 step ∧ m.get 8 = ol ∧ m.get 21 = .slice sa A.length sc ∧ m.get 22 = .int .i64 A.length ∧ m.get 23 = .int .i64 i ∧ WfH h' n' ∧ n2 ≤ n' ∧ Kept h2 h' ∧ OwnSecs n2 h' ol S ∧ S.length ≤ i ∧ S ++ opn step (A.drop i) = opn step A) A.length ?_ ?_
      · refine ⟨0, .slice none 0 0, [], by omega, by omega, ?_⟩
        have how : OwnSecs n2 h2 (.slice none 0 0) [] := .inl ⟨rfl, rfl⟩
        simp (config := { maxSteps := 2000000 }) (disch := omega) only [go_sem, *]
        exact ⟨Nat.le_refl _, Kept.refl _⟩
      · rintro t m h' n' ih ⟨i, ol, S, hi, rfl, m1, m2, m3, m4, m5, m7, m6, q1, q2, q3, q4, q5, q6⟩
        rcases Nat.lt_or_ge i A.length with hlt | hge
        · have e7 : (i : Int) < A.length := by omega
          obtain ⟨b, rfl, hb0⟩ := hrow i hlt
          rw [opn_at hlt] at q6
          have hb := q3 _ _ hb0
          have hbN := hW2.lt hb0
          have hpl : (secCs A).length = A.length * 4 := secCs_length A
          have hro4 := secCs_row hlt
          have hci : ((i + 1 : Nat) : Int) = (i : Int) + 1 := by omega
          obtain ⟨⟨th, val, fr, to⟩, hx⟩ : ∃ x, A[i] = x := ⟨_, rfl⟩
          rw [hx] at hro4 q6
          simp only [secC] at hro4
          have hS4 : (secCs S).length = S.length * 4 := secCs_length S
          clear hQ hrow hb0 hx hI hc
          by_cases hp : fr ≤ step ∧ (to < 0 ∨ to > step)
          · have hp2 : opnP step (th, val, fr, to) = true := decide_eq_true hp
            rw [if_pos hp2] at q6
            have hlen : (S ++ [(th, val, fr, (-1 : Int))]).length = S.length + 1 := by simp
            obtain ⟨hp1, hp3⟩ := hp
            clear hp2
            rcases hp3 with hp3 | hp3
            · rcases q4 with ⟨rfl, rfl⟩ | ⟨g, hgN, rfl, hgr⟩
              · repeat' first | simp (config := { maxSteps := 2000000 }) (disch := omega) only [go_sem, *, Try.results36] | (first | apply EvG_ndec | apply EvC_ndec | apply EvG_dec | apply EvC_dec | apply EvC_nbool | apply EvC_bool | apply EvG_nbool | apply EvG_bool) <;> intro _
                refine ih (A.length - (i + 1)) _ _ _ (by omega) ⟨i + 1, .slice (some ⟨n' + 2, 0, none⟩) 1 (capInf + 4), [(th, val, fr, -1)], by omega, rfl, ?_⟩
                rw [hci]
                clear ih
                simp (config := { maxSteps := 2000000 }) (disch := omega) only [go_sem, *]
                refine ⟨WfH.set' (by omega) (WfH.set' (by omega) (WfH.set' (by omega) (WfH.set' (by omega) (q1.set (by omega) (by omega))))), by omega, Kept.set' hW2 (by omega) (Kept.set' hW2 (by omega) (Kept.set' hW2 (by omega) (Kept.set' hW2 (by omega) (Kept.set' hW2 (by omega) (q3))))), .inr ⟨n' + 2, by omega, rfl, heap_same⟩, q6⟩
              · have hgn := q1.lt hgr
                have htk : (secCs S).take (S.length * 4) = secCs S := by rw [← hS4]; exact List.take_length
                have hbq : (S.length * 4).beq (S.length * 4) = true := Nat.beq_refl _
                have hble : (S.length + 1).ble 1048576 = true := Nat.ble_eq_true_of_le (by omega)
                have hsn : secCs S ++ [.int .i64 th, .int .u64 val, .int .i64 fr, .int .i64 (-1)] = secCs (S ++ [(th, val, fr, -1)]) := (secCs_snoc S (th, val, fr, -1)).symm
                repeat' first | simp (config := { maxSteps := 2000000 }) (disch := omega) only [go_sem, *, Try.results36] | (first | apply EvG_ndec | apply EvC_ndec | apply EvG_dec | apply EvC_dec | apply EvC_nbool | apply EvC_bool | apply EvG_nbool | apply EvG_bool) <;> intro _
                refine ih (A.length - (i + 1)) _ _ _ (by omega) ⟨i + 1, .slice (some ⟨n' + 2, 0, none⟩) (S.length + 1) (capInf + 4), S ++ [(th, val, fr, -1)], by omega, rfl, ?_⟩
                rw [hci]
                clear ih
                simp (config := { maxSteps := 2000000 }) (disch := omega) only [go_sem, *]
                refine ⟨WfH.set' (by omega) (WfH.set' (by omega) (WfH.set' (by omega) (WfH.set' (by omega) (WfH.set' (by omega) (q1.set (by omega) (by omega)))))), by omega, Kept.set' hW2 (by omega) (Kept.set' hW2 (by omega) (Kept.set' hW2 (by omega) (Kept.set' hW2 (by omega) (Kept.set' hW2 (by omega) (Kept.set' hW2 (by omega) (q3)))))), .inr ⟨n' + 2, by omega, by rw [hlen], heap_same⟩, q6⟩
            · have hp4 : ¬ to < 0 := by omega
              rcases q4 with ⟨rfl, rfl⟩ | ⟨g, hgN, rfl, hgr⟩
              · repeat' first | simp (config := { maxSteps := 2000000 }) (disch := omega) only [go_sem, *, Try.results36] | (first | apply EvG_ndec | apply EvC_ndec | apply EvG_dec | apply EvC_dec | apply EvC_nbool | apply EvC_bool | apply EvG_nbool | apply EvG_bool) <;> intro _
                refine ih (A.length - (i + 1)) _ _ _ (by omega) ⟨i + 1, .slice (some ⟨n' + 2, 0, none⟩) 1 (capInf + 4), [(th, val, fr, -1)], by omega, rfl, ?_⟩
                rw [hci]
                clear ih
                simp (config := { maxSteps := 2000000 }) (disch := omega) only [go_sem, *]
                refine ⟨WfH.set' (by omega) (WfH.set' (by omega) (WfH.set' (by omega) (WfH.set' (by omega) (q1.set (by omega) (by omega))))), by omega, Kept.set' hW2 (by omega) (Kept.set' hW2 (by omega) (Kept.set' hW2 (by omega) (Kept.set' hW2 (by omega) (Kept.set' hW2 (by omega) (q3))))), .inr ⟨n' + 2, by omega, rfl, heap_same⟩, q6⟩
              · have hgn := q1.lt hgr
                have htk : (secCs S).take (S.length * 4) = secCs S := by rw [← hS4]; exact List.take_length
                have hbq : (S.length * 4).beq (S.length * 4) = true := Nat.beq_refl _
                have hble : (S.length + 1).ble 1048576 = true := Nat.ble_eq_true_of_le (by omega)
                have hsn : secCs S ++ [.int .i64 th, .int .u64 val, .int .i64 fr, .int .i64 (-1)] = secCs (S ++ [(th, val, fr, -1)]) := (secCs_snoc S (th, val, fr, -1)).symm
                repeat' first | simp (config := { maxSteps := 2000000 }) (disch := omega) only [go_sem, *, Try.results36] | (first | apply EvG_ndec | apply EvC_ndec | apply EvG_dec | apply EvC_dec | apply EvC_nbool | apply EvC_bool | apply EvG_nbool | apply EvG_bool) <;> intro _
                refine ih (A.length - (i + 1)) _ _ _ (by omega) ⟨i + 1, .slice (some ⟨n' + 2, 0, none⟩) (S.length + 1) (capInf + 4), S ++ [(th, val, fr, -1)], by omega, rfl, ?_⟩
                rw [hci]
                clear ih
                simp (config := { maxSteps := 2000000 }) (disch := omega) only [go_sem, *]
                refine ⟨WfH.set' (by omega) (WfH.set' (by omega) (WfH.set' (by omega) (WfH.set' (by omega) (WfH.set' (by omega) (q1.set (by omega) (by omega)))))), by omega, Kept.set' hW2 (by omega) (Kept.set' hW2 (by omega) (Kept.set' hW2 (by omega) (Kept.set' hW2 (by omega) (Kept.set' hW2 (by omega) (Kept.set' hW2 (by omega) (q3)))))), .inr ⟨n' + 2, by omega, by rw [hlen], heap_same⟩, q6⟩
          · have hp2 : ¬ opnP step (th, val, fr, to) = true := fun q => hp (of_decide_eq_true q)
            rw [if_neg hp2] at q6
            clear hp2
            by_cases hp1 : fr ≤ step
            · have hp3 : ¬ to < 0 := fun q => hp ⟨hp1, .inl q⟩
              have hp4 : ¬ to > step := fun q => hp ⟨hp1, .inr q⟩
              clear hp
              repeat' first | simp (config := { maxSteps := 2000000 }) (disch := omega) only [go_sem, *, Try.results36] | (first | apply EvG_ndec | apply EvC_ndec | apply EvG_dec | apply EvC_dec | apply EvC_nbool | apply EvC_bool | apply EvG_nbool | apply EvG_bool) <;> intro _
              refine ih (A.length - (i + 1)) _ _ _ (by omega) ⟨i + 1, ol, S, by omega, rfl, ?_⟩
              have h5 : OwnSecs n2 (PT.set (PT.set h' n' (some (.cells (PT.ofList .leaf 0 [.int .i64 0, .int .u64 0, .int .i64 0, .int .i64 0]) false))) n' (some (.cells (PT.ofList .leaf 0 [.int .i64 th, .int .u64 val, .int .i64 fr, .int .i64 to]) false))) ol S := by
                rcases q4 with q | ⟨g, g1, g2, g3⟩
                · exact .inl q
                · have := q1.lt g3
                  exact .inr ⟨g, g1, g2, by simp (disch := omega) only [heap_ne]; exact g3⟩
              rw [hci]
              clear ih q4
              simp (config := { maxSteps := 2000000 }) (disch := omega) only [go_sem, *]
              first | exact ⟨WfH.set' (by omega) (q1.set (by omega) (by omega)), by omega, Kept.set' hW2 (by omega) (Kept.set' hW2 (by omega) q3), by omega⟩ | exact ⟨WfH.set' (by omega) (q1.set (by omega) (by omega)), by omega, Kept.set' hW2 (by omega) (Kept.set' hW2 (by omega) q3)⟩
            · clear hp
              repeat' first | simp (config := { maxSteps := 2000000 }) (disch := omega) only [go_sem, *, Try.results36] | (first | apply EvG_ndec | apply EvC_ndec | apply EvG_dec | apply EvC_dec | apply EvC_nbool | apply EvC_bool | apply EvG_nbool | apply EvG_bool) <;> intro _
              refine ih (A.length - (i + 1)) _ _ _ (by omega) ⟨i + 1, ol, S, by omega, rfl, ?_⟩
              have h5 : OwnSecs n2 (PT.set (PT.set h' n' (some (.cells (PT.ofList .leaf 0 [.int .i64 0, .int .u64 0, .int .i64 0, .int .i64 0]) false))) n' (some (.cells (PT.ofList .leaf 0 [.int .i64 th, .int .u64 val, .int .i64 fr, .int .i64 to]) false))) ol S := by
                rcases q4 with q | ⟨g, g1, g2, g3⟩
                · exact .inl q
                · have := q1.lt g3
                  exact .inr ⟨g, g1, g2, by simp (disch := omega) only [heap_ne]; exact g3⟩
              rw [hci]
              clear ih q4
              simp (config := { maxSteps := 2000000 }) (disch := omega) only [go_sem, *]
              first | exact ⟨WfH.set' (by omega) (q1.set (by omega) (by omega)), by omega, Kept.set' hW2 (by omega) (Kept.set' hW2 (by omega) q3), by omega⟩ | exact ⟨WfH.set' (by omega) (q1.set (by omega) (by omega)), by omega, Kept.set' hW2 (by omega) (Kept.set' hW2 (by omega) q3)⟩
        · have e7 : ¬ (i : Int) < A.length := by omega
          obtain rfl : i = A.length := by omega
          rw [List.drop_length] at q6
          have q7 : S = opn step A := by rw [← q6]; simp [opn]
          rw [← q7] at hQ
          have k9 := k2.trans q3
          clear ih hrow hI hc q6 q7
          repeat' first | simp (config := { maxSteps := 2000000 }) (disch := omega) only [go_sem, *, Try.results36] | (first | apply EvG_ndec | apply EvC_ndec | apply EvG_dec | apply EvC_dec | apply EvC_nbool | apply EvC_bool | apply EvG_nbool | apply EvG_bool) <;> intro _
          exact ⟨_, rfl, q4.is⟩
set_option maxRecDepth 100000 in
set_option maxHeartbeats 2000000 in
theorem refOpenB {O : Over} (H : EvO O) (E : List Ev) (s : Value) (step : Int) (hn : E.length ≤ 100000) (h : PT ABlk) (N : Nat) (hW : WfH h N) (hs : IsEvs h s E) :
    EvB Try.prog O 37 [.int .i64 step, s] h N fun v h' n' => OpenV step E v h' ∧ Kept h h' := by
  have o := H.o46
  unfold OpenV
  obtain ⟨ba, bc, rfl, hrow⟩ := hs.len
  refine EvB_run (N := 52) Try.func37 rfl rfl fun z hP hO hro hN hQ => ?_
  repeat' first | simp (config := { maxSteps := 2000000 }) (disch := omega) only [go_sem, *, Try.results37] | (first | apply EvG_ndec | apply EvC_ndec | apply EvG_dec | apply EvC_dec | apply EvC_nbool | apply EvC_bool | apply EvG_nbool | apply EvG_bool) <;> intro _
  refine EvQ_call ?_ ?_ (by rw [hP, hO]; exact (refSections H.o55 H.o61 H.o56 E _ hn _ _ hW hs).wf hW) ?_
  · simp (config := { maxSteps := 2000000 }) (disch := omega) only [go_sem, *]
  · simp (config := { maxSteps := 2000000 }) (disch := omega) only [go_sem, *]
  clear hs hrow
  rintro v h2 n2 ⟨⟨hv, k2⟩, hn2, hW2⟩
  rcases hv with ⟨hc, rfl⟩ | ⟨hc, sl, rfl, hI⟩
  · rw [hc] at hQ
    repeat' first | simp (config := { maxSteps := 2000000 }) (disch := omega) only [go_sem, *, Try.results37] | (first | apply EvG_ndec | apply EvC_ndec | apply EvG_dec | apply EvC_dec | apply EvC_nbool | apply EvC_bool | apply EvG_nbool | apply EvG_bool) <;> intro _
  · rw [hc] at hQ
    obtain ⟨sa, sc, rfl, hrow⟩ := hI.len
    have hSl := refS_length 1 E
    generalize refS 1 E = A at *
    by_cases hst : step < -1
    · clear hrow
      repeat' first | simp (config := { maxSteps := 2000000 }) (disch := omega) only [go_sem, *, Try.results37] | (first | apply EvG_ndec | apply EvC_ndec | apply EvG_dec | apply EvC_dec | apply EvC_nbool | apply EvC_bool | apply EvG_nbool | apply EvG_bool) <;> intro _
    · repeat' first | simp (config := { maxSteps := 2000000 }) (disch := omega) only [go_sem, *, Try.results37] | (first | apply EvG_ndec | apply EvC_ndec | apply EvG_dec | apply EvC_dec | apply EvC_nbool | apply EvC_bool | apply EvG_nbool | apply EvG_bool) <;> intro _
      refine ind_loop (fun t m h' n' => ∃ (i : Nat) (ol : Value) (S : List Sec), i ≤ A.length ∧ t = A.length - i ∧ m.n = 52 ∧ m.dfs = [] ∧ m.get 0 = .int .i64 step ∧ m.get 8 = ol ∧ m.get 6 = .slice sa A.length sc ∧ m.get 9 = .int .i64 i ∧ WfH h' n' ∧ n2 ≤ n' ∧ Kept h2 h' ∧ OwnSecs n2 h' ol S ∧ S.length ≤ i ∧ S ++ opn step (A.drop i) = opn step A) A.length ?_ ?_
      · refine ⟨0, .slice none 0 0, [], by omega, by omega, ?_⟩
        have how : OwnSecs n2 h2 (.slice none 0 0) [] := .inl ⟨rfl, rfl⟩
        simp (config := { maxSteps := 2000000 }) (disch := omega) only [go_sem, *]
        exact ⟨Nat.le_refl _, Kept.refl _⟩
      · rintro t m h' n' ih ⟨i, ol, S, hi, rfl, m1, m2, m3, m4, m5, m6, q1, q2, q3, q4, q5, q6⟩
        rcases Nat.lt_or_ge i A.length with hlt | hge
        · have e7 : (i : Int) < A.length := by omega
          obtain ⟨b, rfl, hb0⟩ := hrow i hlt
          rw [opn_at hlt] at q6
          have hb := q3 _ _ hb0
          have hbN := hW2.lt hb0
          have hpl : (secCs A).length = A.length * 4 := secCs_length A
          have hro4 := secCs_row hlt
          have hci : ((i + 1 : Nat) : Int) = (i : Int) + 1 := by omega
          obtain ⟨⟨th, val, fr, to⟩, hx⟩ : ∃ x, A[i] = x := ⟨_, rfl⟩
          rw [hx] at hro4 q6
          simp only [secC] at hro4
          have hS4 : (secCs S).length = S.length * 4 := secCs_length S
          clear hQ hrow hb0 hx hI hc
          by_cases hp : fr ≤ step ∧ (to < 0 ∨ to > step)
          · have hp2 : opnP step (th, val, fr, to) = true := decide_eq_true hp
            rw [if_pos hp2] at q6
            have hlen : (S ++ [(th, val, fr, (-1 : Int))]).length = S.length + 1 := by simp
            obtain ⟨hp1, hp3⟩ := hp
            clear hp2
            rcases hp3 with hp3 | hp3
            · rcases q4 with ⟨rfl, rfl⟩ | ⟨g, hgN, rfl, hgr⟩
              · repeat' first | simp (config := { maxSteps := 2000000 }) (disch := omega) only [go_sem, *, Try.results37] | (first | apply EvG_ndec | apply EvC_ndec | apply EvG_dec | apply EvC_dec | apply EvC_nbool | apply EvC_bool | apply EvG_nbool | apply EvG_bool) <;> intro _
                refine ih (A.length - (i + 1)) _ _ _ (by omega) ⟨i + 1, .slice (some ⟨n' + 2, 0, none⟩) 1 (capInf + 4), [(th, val, fr, -1)], by omega, rfl, ?_⟩
                rw [hci]
                clear ih
                simp (config := { maxSteps := 2000000 }) (disch := omega) only [go_sem, *]
                refine ⟨WfH.set' (by omega) (WfH.set' (by omega) (WfH.set' (by omega) (WfH.set' (by omega) (q1.set (by omega) (by omega))))), by omega, Kept.set' hW2 (by omega) (Kept.set' hW2 (by omega) (Kept.set' hW2 (by omega) (Kept.set' hW2 (by omega) (Kept.set' hW2 (by omega) (q3))))), .inr ⟨n' + 2, by omega, rfl, heap_same⟩, q6⟩
              · have hgn := q1.lt hgr
                have htk : (secCs S).take (S.length * 4) = secCs S := by rw [← hS4]; exact List.take_length
                have hbq : (S.length * 4).beq (S.length * 4) = true := Nat.beq_refl _
                have hble : (S.length + 1).ble 1048576 = true := Nat.ble_eq_true_of_le (by omega)
                have hsn : secCs S ++ [.int .i64 th, .int .u64 val, .int .i64 fr, .int .i64 (-1)] = secCs (S ++ [(th, val, fr, -1)]) := (secCs_snoc S (th, val, fr, -1)).symm
                repeat' first | simp (config := { maxSteps := 2000000 }) (disch := omega) only [go_sem, *, Try.results37] | (first | apply EvG_ndec | apply EvC_ndec | apply EvG_dec | apply EvC_dec | apply EvC_nbool | apply EvC_bool | apply EvG_nbool | apply EvG_bool) <;> intro _
                refine ih (A.length - (i + 1)) _ _ _ (by omega) ⟨i + 1, .slice (some ⟨n' + 2, 0, none⟩) (S.length + 1) (capInf + 4), S ++ [(th, val, fr, -1)], by omega, rfl, ?_⟩
                rw [hci]
                clear ih
                simp (config := { maxSteps := 2000000 }) (disch := omega) only [go_sem, *]
                refine ⟨WfH.set' (by omega) (WfH.set' (by omega) (WfH.set' (by omega) (WfH.set' (by omega) (WfH.set' (by omega) (q1.set (by omega) (by omega)))))), by omega, Kept.set' hW2 (by omega) (Kept.set' hW2 (by omega) (Kept.set' hW2 (by omega) (Kept.set' hW2 (by omega) (Kept.set' hW2 (by omega) (Kept.set' hW2 (by omega) (q3)))))), .inr ⟨n' + 2, by omega, by rw [hlen], heap_same⟩, q6⟩
            · have hp4 : ¬ to < 0 := by omega
              rcases q4 with ⟨rfl, rfl⟩ | ⟨g, hgN, rfl, hgr⟩
              · repeat' first | simp (config := { maxSteps := 2000000 }) (disch := omega) only [go_sem, *, Try.results37] | (first | apply EvG_ndec | apply EvC_ndec | apply EvG_dec | apply EvC_dec | apply EvC_nbool | apply EvC_bool | apply EvG_nbool | apply EvG_bool) <;> intro _
                refine ih (A.length - (i + 1)) _ _ _ (by omega) ⟨i + 1, .slice (some ⟨n' + 2, 0, none⟩) 1 (capInf + 4), [(th, val, fr, -1)], by omega, rfl, ?_⟩
                rw [hci]
                clear ih
                simp (config := { maxSteps := 2000000 }) (disch := omega) only [go_sem, *]
                refine ⟨WfH.set' (by omega) (WfH.set' (by omega) (WfH.set' (by omega) (WfH.set' (by omega) (q1.set (by omega) (by omega))))), by omega, Kept.set' hW2 (by omega) (Kept.set' hW2 (by omega) (Kept.set' hW2 (by omega) (Kept.set' hW2 (by omega) (Kept.set' hW2 (by omega) (q3))))), .inr ⟨n' + 2, by omega, rfl, heap_same⟩, q6⟩
              · have hgn := q1.lt hgr
                have htk : (secCs S).take (S.length * 4) = secCs S := by rw [← hS4]; exact List.take_length
                have hbq : (S.length * 4).beq (S.length * 4) = true := Nat.beq_refl _
                have hble : (S.length + 1).ble 1048576 = true := Nat.ble_eq_true_of_le (by omega)
                have hsn : secCs S ++ [.int .i64 th, .int .u64 val, .int .i64 fr, .int .i64 (-1)] = secCs (S ++ [(th, val, fr, -1)]) := (secCs_snoc S (th, val, fr, -1)).symm
                repeat' first | simp (config := { maxSteps := 2000000 }) (disch := omega) only [go_sem, *, Try.results37] | (first | apply EvG_ndec | apply EvC_ndec | apply EvG_dec | apply EvC_dec | apply EvC_nbool | apply EvC_bool | apply EvG_nbool | apply EvG_bool) <;> intro _
                refine ih (A.length - (i + 1)) _ _ _ (by omega) ⟨i + 1, .slice (some ⟨n' + 2, 0, none⟩) (S.length + 1) (capInf + 4), S ++ [(th, val, fr, -1)], by omega, rfl, ?_⟩
                rw [hci]
                clear ih
                simp (config := { maxSteps := 2000000 }) (disch := omega) only [go_sem, *]
                refine ⟨WfH.set' (by omega) (WfH.set' (by omega) (WfH.set' (by omega) (WfH.set' (by omega) (WfH.set' (by omega) (q1.set (by omega) (by omega)))))), by omega, Kept.set' hW2 (by omega) (Kept.set' hW2 (by omega) (Kept.set' hW2 (by omega) (Kept.set' hW2 (by omega) (Kept.set' hW2 (by omega) (Kept.set' hW2 (by omega) (q3)))))), .inr ⟨n' + 2, by omega, by rw [hlen], heap_same⟩, q6⟩
          · have hp2 : ¬ opnP step (th, val, fr, to) = true := fun q => hp (of_decide_eq_true q)
            rw [if_neg hp2] at q6
            clear hp2
            by_cases hp1 : fr ≤ step
            · have hp3 : ¬ to < 0 := fun q => hp ⟨hp1, .inl q⟩
              have hp4 : ¬ to > step := fun q => hp ⟨hp1, .inr q⟩
              clear hp
              repeat' first | simp (config := { maxSteps := 2000000 }) (disch := omega) only [go_sem, *, Try.results37] | (first | apply EvG_ndec | apply EvC_ndec | apply EvG_dec | apply EvC_dec | apply EvC_nbool | apply EvC_bool | apply EvG_nbool | apply EvG_bool) <;> intro _
              refine ih (A.length - (i + 1)) _ _ _ (by omega) ⟨i + 1, ol, S, by omega, rfl, ?_⟩
              have h5 : OwnSecs n2 (PT.set (PT.set h' n' (some (.cells (PT.ofList .leaf 0 [.int .i64 0, .int .u64 0, .int .i64 0, .int .i64 0]) false))) n' (some (.cells (PT.ofList .leaf 0 [.int .i64 th, .int .u64 val, .int .i64 fr, .int .i64 to]) false))) ol S := by
                rcases q4 with q | ⟨g, g1, g2, g3⟩
                · exact .inl q
                · have := q1.lt g3
                  exact .inr ⟨g, g1, g2, by simp (disch := omega) only [heap_ne]; exact g3⟩
              rw [hci]
              clear ih q4
              simp (config := { maxSteps := 2000000 }) (disch := omega) only [go_sem, *]
              first | exact ⟨WfH.set' (by omega) (q1.set (by omega) (by omega)), by omega, Kept.set' hW2 (by omega) (Kept.set' hW2 (by omega) q3), by omega⟩ | exact ⟨WfH.set' (by omega) (q1.set (by omega) (by omega)), by omega, Kept.set' hW2 (by omega) (Kept.set' hW2 (by omega) q3)⟩
            · clear hp
              repeat' first | simp (config := { maxSteps := 2000000 }) (disch := omega) only [go_sem, *, Try.results37] | (first | apply EvG_ndec | apply EvC_ndec | apply EvG_dec | apply EvC_dec | apply EvC_nbool | apply EvC_bool | apply EvG_nbool | apply EvG_bool) <;> intro _
              refine ih (A.length - (i + 1)) _ _ _ (by omega) ⟨i + 1, ol, S, by omega, rfl, ?_⟩
              have h5 : OwnSecs n2 (PT.set (PT.set h' n' (some (.cells (PT.ofList .leaf 0 [.int .i64 0, .int .u64 0, .int .i64 0, .int .i64 0]) false))) n' (some (.cells (PT.ofList .leaf 0 [.int .i64 th, .int .u64 val, .int .i64 fr, .int .i64 to]) false))) ol S := by
                rcases q4 with q | ⟨g, g1, g2, g3⟩
                · exact .inl q
                · have := q1.lt g3
                  exact .inr ⟨g, g1, g2, by simp (disch := omega) only [heap_ne]; exact g3⟩
              rw [hci]
              clear ih q4
              simp (config := { maxSteps := 2000000 }) (disch := omega) only [go_sem, *]
              first | exact ⟨WfH.set' (by omega) (q1.set (by omega) (by omega)), by omega, Kept.set' hW2 (by omega) (Kept.set' hW2 (by omega) q3), by omega⟩ | exact ⟨WfH.set' (by omega) (q1.set (by omega) (by omega)), by omega, Kept.set' hW2 (by omega) (Kept.set' hW2 (by omega) q3)⟩
        · have e7 : ¬ (i : Int) < A.length := by omega
          obtain rfl : i = A.length := by omega
          rw [List.drop_length] at q6
          have q7 : S = opn step A := by rw [← q6]; simp [opn]
          rw [← q7] at hQ
          have k9 := k2.trans q3
          clear ih hrow hI hc q6 q7
          repeat' first | simp (config := { maxSteps := 2000000 }) (disch := omega) only [go_sem, *, Try.results37] | (first | apply EvG_ndec | apply EvC_ndec | apply EvG_dec | apply EvC_dec | apply EvC_nbool | apply EvC_bool | apply EvG_nbool | apply EvG_bool) <;> intro _
          exact ⟨_, rfl, q4.is⟩
end Go.Proofs.Ytknelmeaegldmaa
