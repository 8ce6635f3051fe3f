/-
  A part of the proof: contracts of inner functions.
-/
import Derived.Test.YtapcgfakefmemaaTVM
set_option linter.unusedVariables false
set_option linter.unusedSimpArgs false
namespace Go.Proofs.Ytapcgfakefmemaa
open Go.Am

set_option maxRecDepth 100000 in
set_option maxHeartbeats 8000000 in
theorem towerNew (n t0 t1 t2 t3 t4 t5 : Int) (h : PT ABlk) (N : Nat) (hW : WfH h N) (b0 : 0 ≤ t0) (b1 : 0 ≤ t1) (b2 : 0 ≤ t2) (b3 : 0 ≤ t3) (b4 : 0 ≤ t4) (b5 : 0 ≤ t5) :
    EvB Try.prog OT 4 [.int .i64 n, .agg ⟨[.int .u8 t0, .int .u8 t1, .int .u8 t2, .int .u8 t3, .int .u8 t4, .int .u8 t5]⟩] h N fun v h' n' => v = .bool true := by
  have hnr := nOf_range n
  refine EvB_run (N := 73) Try.func4 rfl rfl fun z hP hO hro hN hQ => ?_
  repeat' first | simp (maxSteps := 2000000) (disch := omega) only [go_sem, *, Try.results4] | (first | apply xg1 | apply xc1 | apply xg2 | apply xc2 | apply xc3 | apply xc4 | apply xg3 | apply xg4) <;> intro _
  generalize hh1 : h.set N _ = h1
  have hW1 : WfH h1 (N + 1) := by rw [← hh1]; exact hW.set (by omega) (by omega)
  have k1 : Kept h h1 := by rw [← hh1]; exact hW.kept (Nat.le_refl _)
  clear hh1
  refine EvQ_call ?_ ?_ (by rw [hP, hO]; exact (configB n t0 t1 t2 t3 t4 t5 h1 _ hW1 b0 b1 b2 b3 b4 b5).wf hW1) ?_
  · simp (maxSteps := 2000000) (disch := omega) only [go_sem, *]
  · simp (maxSteps := 2000000) (disch := omega) only [go_sem, *]
  rintro v h2 n2 ⟨⟨rfl, k2⟩, hn2, hW2⟩
  have d0 := tmod13 b0
  have d1 := tmod13 b1
  have d2 := tmod13 b2
  have d3 := tmod13 b3
  have d4 := tmod13 b4
  have d5 := tmod13 b5
  have hok := tow_ok hnr d0 d1 d2 d3 d4 d5
  have hcn := tow_count hnr
  generalize t0.tmod 13 = m0 at *
  generalize t1.tmod 13 = m1 at *
  generalize t2.tmod 13 = m2 at *
  generalize t3.tmod 13 = m3 at *
  generalize t4.tmod 13 = m4 at *
  generalize t5.tmod 13 = m5 at *
  generalize nOf n = V0 at *
  obtain ⟨V, rfl⟩ : ∃ V : Nat, V0 = V := ⟨V0.toNat, by omega⟩
  clear b0 b1 b2 b3 b4 b5 d0 d1 d2 d3 d4 d5
  repeat' first | simp (maxSteps := 2000000) (disch := omega) only [go_sem, *, Try.results4] | (first | apply xg1 | apply xc1 | apply xg2 | apply xc2 | apply xc3 | apply xc4 | apply xg3 | apply xg4) <;> intro _
  generalize hh3 : (h2.set n2 _).set n2 _ = h3
  have e3 := get_of_set hh3
  have hW3 : WfH h3 (n2 + 1) := by rw [← hh3]; exact WfH.set' (by omega) (hW2.set (by omega) (by omega))
  have k3 : Kept h2 h3 := by rw [← hh3]; exact Kept.set' hW2 (by omega) (hW2.kept (Nat.le_refl _))
  clear hh3 k1 k2 k3 hW1 hW2
  have hps0 : IsPuts h3 (.slice none 0 0) [] := ⟨none, 0, rfl, fun i hi => by simp at hi⟩
  refine EvQ_call ?_ ?_ (by rw [hP, hO]; exact (beginB 4 2 1 0 2 V m0 m1 m2 m3 m4 m5 2 3 0 _ [] h3 _ hW3 hps0 (by simp) hok).wf hW3) ?_
  · simp (maxSteps := 2000000) (disch := omega) only [go_sem, *]
  · simp (maxSteps := 2000000) (disch := omega) only [go_sem, *]
  rintro v h4 n4 ⟨⟨xb, lb, mb, wb, tb, l, gb, cv, W, lg, sz, rfl, hL, hnum, ⟨⟨zb, rb, rt, hx⟩, ht, hM, hu⟩, hlg, hwl, hWi, k4, o1, o2, o3, o4, o5⟩, hn4, hW4⟩
  have e4 := k4 _ _ e3
  rw [hcn] at hnum
  obtain rfl := hWi rfl
  have hT := tow_mk hL hnum ht hM hu
  have hH : l.H.length ≤ 2000 := by have := hnum.ini.len; omega
  have hnx := fun v lv v0 v1 i0 i1 => head_next (v := v) (lv := lv) hnum v0 v1 i0 i1
  have hll := fun v lv v0 v1 i0 i1 => lst_ini (v := v) (lv := lv) hnum v0 v1 i0 i1
  have hpr := pairs_ini hnum 2 V (Nat.le_refl _)
  have hlV := hnum.eV
  clear hok hcn hL hlg hwl hps0 e3 k4 hW3 hWi hnum
  have hxn := hW4.lt hx
  repeat' first | simp (maxSteps := 2000000) (disch := omega) only [go_sem, *, Try.results4] | (first | apply xg1 | apply xc1 | apply xg2 | apply xc2 | apply xc3 | apply xc4 | apply xg3 | apply xg4) <;> intro _
  refine ind_loop (fun t m h' n' => ∃ v : Nat, v ≤ V ∧ t = V - v ∧ m.n = 73 ∧ m.dfs = [] ∧ m.get 5 = .pointer (some ⟨n2, 0, none⟩) ∧ m.get 6 = .pointer (some ⟨xb, 0, none⟩) ∧ m.get 7 = .int .i64 v ∧ Kept h4 h' ∧ WfH h' n' ∧ n4 ≤ n') V ?_ ?_
  · refine ⟨0, by omega, by omega, ?_⟩
    clear hnx hll hT hM
    simp (maxSteps := 2000000) (disch := omega) only [go_sem, *]
    exact ⟨Kept.refl _, Nat.le_refl _⟩
  · rintro t m h' n' ih ⟨v, hv, rfl, m1, m2, m3, m4, m5, q1, q2, q3⟩
    have e5 := q1 _ _ e4
    have hx5 := q1 _ _ hx
    by_cases hlt : v < V
    · have hltI : (v : Int) < V := by omega
      clear hpr
      repeat' first | simp (maxSteps := 2000000) (disch := omega) only [go_sem, *, Try.results4] | (first | apply xg1 | apply xc1 | apply xg2 | apply xc2 | apply xc3 | apply xc4 | apply xg3 | apply xg4) <;> intro _
      refine ind_loop (fun t m h' n' => ∃ j : Nat, j ≤ 6 ∧ t = 6 - j ∧ m.n = 73 ∧ m.dfs = [] ∧ m.get 5 = .pointer (some ⟨n2, 0, none⟩) ∧ m.get 6 = .pointer (some ⟨xb, 0, none⟩) ∧ m.get 7 = .int .i64 v ∧ m.get 8 = .int .i64 j ∧ Kept h4 h' ∧ WfH h' n' ∧ n4 ≤ n') 6 ?_ ?_
      · refine ⟨0, by omega, by omega, ?_⟩
        clear hnx hll hT hM ih
        simp (maxSteps := 2000000) (disch := omega) only [go_sem, *]
      · clear m1 m2 m3 m4 m5 m q1 q2 q3 e5 hx5
        rintro t m h' n' ih2 ⟨j, hj, rfl, m1, m2, m3, m4, m5, m6, q1, q2, q3⟩
        have hx5 := q1 _ _ hx
        by_cases hj6 : (j : Int) < 6
        · have hnxv := hnx v j (by omega) (by omega) (by omega) (by omega)
          have hlst := (listB (O := OT) rfl rfl rfl rfl rfl rfl rfl rfl rfl tb mb lb wb l (iniW l) lg v j h' n' q2 (q1 _ _ ht) (hM.keep q1) (look_keep q1 hT.look) hu hH ⟨by omega, by omega⟩ hnxv).wf q2
          rw [hll v j (by omega) (by omega) (by omega) (by omega)] at hlst
          clear hnx hll
          repeat' first | simp (maxSteps := 2000000) (disch := omega) only [go_sem, *, Try.results4] | (first | apply xg1 | apply xc1 | apply xg2 | apply xc2 | apply xc3 | apply xc4 | apply xg3 | apply xg4) <;> intro _
          refine EvQ_call ?_ ?_ (by rw [hP, hO]; exact hlst) ?_
          · simp (maxSteps := 2000000) (disch := omega) only [go_sem, *]
          · simp (maxSteps := 2000000) (disch := omega) only [go_sem, *]
          rintro v5 h5 n5 ⟨⟨s, rfl, hs, k5⟩, hn5, hW5⟩
          have q5 := q1.trans k5
          obtain ⟨sa, sc, rfl, -⟩ := hs.isInts.len
          have cz : (([] : List Int).length : Int) = 0 := rfl
          clear hlst q1 q2 hx5 hs k5
          repeat' first | simp (maxSteps := 2000000) (disch := omega) only [go_sem, *, Try.results4, cast_zero_int] | (first | apply xg1 | apply xc1 | apply xg2 | apply xc2 | apply xc3 | apply xc4 | apply xg3 | apply xg4) <;> intro _
          refine ih2 (6 - (j + 1)) _ _ _ (by omega) ⟨j + 1, by omega, rfl, ?_⟩
          have cj : ((j + 1 : Nat) : Int) = (j : Int) + 1 := by omega
          rw [cj]
          clear ih ih2 hT hM
          simp (maxSteps := 2000000) (disch := omega) only [go_sem, *]
          omega
        · clear ih2 hnx hll
          repeat' first | simp (maxSteps := 2000000) (disch := omega) only [go_sem, *, Try.results4] | (first | apply xg1 | apply xc1 | apply xg2 | apply xc2 | apply xc3 | apply xc4 | apply xg3 | apply xg4) <;> intro _
          refine ih (V - (v + 1)) _ _ _ (by omega) ⟨v + 1, by omega, rfl, ?_⟩
          have cv1 : ((v + 1 : Nat) : Int) = (v : Int) + 1 := by omega
          rw [cv1]
          clear ih hT hM
          simp (maxSteps := 2000000) (disch := omega) only [go_sem, *]
    · have hltI : ¬ (v : Int) < V := by omega
      have hPr := (pairsB OTpairs tb mb lb wb l (iniW l) lg 2 V hlV (by omega) h' n' q2 (hT.keep q1) (by rw [hpr]; exact fun i j hij hj => by simp at hj)).wf q2
      rw [hpr] at hPr
      clear ih hnx hll hpr hT hM
      repeat' first | simp (maxSteps := 2000000) (disch := omega) only [go_sem, *, Try.results4] | (first | apply xg1 | apply xc1 | apply xg2 | apply xc2 | apply xc3 | apply xc4 | apply xg3 | apply xg4) <;> intro _
      refine EvQ_call ?_ ?_ (by rw [hP, hO]; exact hPr) ?_
      · simp (maxSteps := 2000000) (disch := omega) only [go_sem, *]
      · simp (maxSteps := 2000000) (disch := omega) only [go_sem, *]
      rintro v5 h5 n5 ⟨⟨s, rfl, hs, k5⟩, hn5, hW5⟩
      have hs' : ∃ a c, s = .slice a 0 c := by
        rcases hs with ⟨rfl, _⟩ | ⟨g, rfl, _⟩
        · exact ⟨_, _, rfl⟩
        · exact ⟨_, _, rfl⟩
      obtain ⟨sa, sc, rfl⟩ := hs'
      clear hPr hs e5 hx5 q1 q2 k5
      repeat' first | simp (maxSteps := 2000000) (disch := omega) only [go_sem, *, Try.results4] | (first | apply xg1 | apply xc1 | apply xg2 | apply xc2 | apply xc3 | apply xc4 | apply xg3 | apply xg4) <;> intro _
      refine EvQ_call ?_ ?_ (by rw [hP, hO]; exact (smallB _ _ hW5).wf hW5) ?_
      · simp (maxSteps := 2000000) (disch := omega) only [go_sem, *]
      · simp (maxSteps := 2000000) (disch := omega) only [go_sem, *]
      rintro v6 h6 n6 ⟨⟨lb2, mb2, wb2, tb2, l2, gb2, cv2, lg2, rfl, hL2, ht2, hM2, k6⟩, hn6, hW6⟩
      obtain ⟨sz2, hnu2⟩ := newL_num hL2
      have hp2 := sm_prs hL2
      have hV2 := hnu2.eV
      rw [sm_count] at hV2
      have hT2 := tow_mk hL2 hnu2 ht2 hM2 smW_u64
      have hlw := (pairsLawB tb2 mb2 lb2 wb2 l2 lg2 60 h6 n6 hW6 hT2 hV2 hp2).wf hW6
      clear hL2 hnu2 hp2 hT2 hM2 ht2
      repeat' first | simp (maxSteps := 2000000) (disch := omega) only [go_sem, *, Try.results4, cast_zero_int] | (first | apply xg1 | apply xc1 | apply xg2 | apply xc2 | apply xc3 | apply xc4 | apply xg3 | apply xg4) <;> intro _
      refine EvQ_call ?_ ?_ (by rw [hP, hO]; exact hlw) ?_
      · simp (maxSteps := 2000000) (disch := omega) only [go_sem, *]
      · simp (maxSteps := 2000000) (disch := omega) only [go_sem, *]
      rintro v7 h7 n7 ⟨⟨rfl, k7⟩, hn7, hW7⟩
      clear hlw
      repeat' first | simp (maxSteps := 2000000) (disch := omega) only [go_sem, *, Try.results4] | (first | apply xg1 | apply xc1 | apply xg2 | apply xc2 | apply xc3 | apply xc4 | apply xg3 | apply xg4) <;> intro _
end Go.Proofs.Ytapcgfakefmemaa
