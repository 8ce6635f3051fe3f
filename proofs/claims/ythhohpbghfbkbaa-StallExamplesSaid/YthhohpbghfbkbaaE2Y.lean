/-
  A part of the proof: contracts of inner functions.
-/
import Derived.Test.YthhohpbghfbkbaaE2V
set_option linter.unusedVariables false
set_option linter.unusedSimpArgs false
namespace Go.Proofs.Ythhohpbghfbkbaa
open Go.Am

theorem lastT_at {E : List Ev} {j : Nat} {th : Int} (hj : j < E.length) : lastT (E.take (j + 1)) th = if th = E[j].2.1 then (E[j].2.2.1, E[j].2.2.2) else lastT (E.take j) th := by
  rw [List.take_succ_eq_append_getElem hj, lastT_snoc]; rfl
set_option maxRecDepth 100000 in
set_option maxHeartbeats 2000000 in
theorem goodB {O : Over} (E : List Ev) (b : Nat) (cap i : Nat) (hi : i < E.length) (hn : E.length ≤ 100000) (h : PT ABlk) (N : Nat) (hW : WfH h N) (hb : h.get b = some (.cells (PT.ofList .leaf 0 (evCs E)) false)) :
    EvB Try.prog O 59 [.slice (some ⟨b, 0, none⟩) E.length cap, .int .i64 i] h N fun v h' n' => v = .bool (gd E i) ∧ Kept h h' := by
  have hbN := hW.lt hb
  have hrow := evCs_row hi
  have hpl : (evCs E).length = E.length * 4 := evCs_length E
  have hgd : gd E i = (fldOk E[i] && (ordOk (prev E i) E[i] && goodE E[i].2.2.1 (lastT (E.take i) E[i].2.1).1 (lastT (E.take i) E[i].2.1).2 E[i].2.2.2)) := by
    unfold gd; rw [List.getElem?_eq_getElem hi]
  obtain ⟨⟨st, th, kd, val⟩, hx⟩ : ∃ x, E[i] = x := ⟨_, rfl⟩
  rw [hx] at hrow hgd
  simp only [evC] at hrow
  simp only at hgd
  have e8 : (i : Int) < E.length := by omega
  by_cases hf : fldOk (st, th, kd, val) = true
  · have hfs := of_decide_eq_true hf
    simp only at hfs
    obtain ⟨f1, f2, f3, f4, f5⟩ := hfs
    rw [hf, Bool.true_and] at hgd
    have f1' : ¬ st < 0 := by omega
    have f2' : ¬ th < 0 := by omega
    have f3' : ¬ th ≥ 64 := by omega
    have f4' : ¬ kd < 1 := by omega
    have f5' : ¬ kd > 4 := by omega
    clear hx hf
    by_cases h0 : i = 0
    · have hp0 : ¬ (i : Int) > 0 := by omega
      have hpv : prev E i = none := by rw [h0]; rfl
      rw [hpv] at hgd
      clear hpv h0
      refine EvB_run (N := 146) Try.func59 rfl rfl fun z hP hO hro hN hQ => ?_
      repeat' first | simp (config := { maxSteps := 2000000 }) (disch := omega) only [go_sem, *, Try.results59] | (first | apply EvG_ndec | apply EvC_ndec | apply EvG_dec | apply EvC_dec | apply EvC_nbool | apply EvC_bool | apply EvG_nbool | apply EvG_bool) <;> intro _ | (first | apply EvH_ndec | apply EvH_dec | apply EvH_nbool | apply EvH_bool) <;> intro _ | refine EvK_draw (id := 4) (L := [(3, 5), (4, 5), (3, 6), (4, 6), (5, 6), (3, 7), (4, 7), (5, 7), (3, 8), (4, 8), (3, 9), (4, 9), (3, 10), (4, 10)]) (by kernel_rfl) (by kernel_rfl) ?_ | refine EvK_draw (id := 12) (L := [(0, 1), (0, 5), (1, 5), (2, 5), (3, 5), (4, 5), (0, 6), (1, 6), (2, 6), (3, 6), (4, 6)]) (by kernel_rfl) (by kernel_rfl) ?_ | refine EvK_draw (id := 13) (L := [(0, 1), (0, 5), (1, 5), (2, 5), (3, 5), (4, 5), (0, 6), (1, 6), (2, 6), (3, 6), (4, 6), (5, 6), (0, 7), (1, 7), (2, 7), (3, 7), (4, 7), (0, 8), (1, 8), (2, 8), (3, 8), (4, 8), (0, 9), (1, 9), (2, 9), (3, 9), (4, 9), (5, 10), (6, 10), (7, 10), (8, 10), (9, 10)]) (by kernel_rfl) (by kernel_rfl) ?_
      have hgd2 : gd E i = goodE kd (lastT (E.take i) th).1 (lastT (E.take i) th).2 val := by
        rw [hgd]
        rfl
      rw [hgd2] at hQ
      clear hgd hgd2
      generalize hh5 : PT.set (PT.set h N _) N _ = h5
      have e5 : h5.get N = some (.cells (PT.ofList .leaf 0 [.int .i64 st, .int .i64 th, .int .u8 kd, .int .u64 val]) false) := by rw [← hh5]; simp (disch := omega) only [heap_ne, heap_same]
      have b5 : h5.get b = some (.cells (PT.ofList .leaf 0 (evCs E)) false) := by rw [← hh5]; simp (disch := omega) only [heap_ne]; exact hb
      have k5 : Kept h h5 := by rw [← hh5]; exact Kept.set' hW (by omega) (hW.kept (Nat.le_refl _))
      clear hh5
      refine ind_loop (fun t m h' n' => ∃ j : Nat, j ≤ i ∧ t = i - j ∧ m.n = 146 ∧ m.dfs = [] ∧ m.get 0 = .slice (some ⟨b, 0, none⟩) E.length cap ∧ m.get 1 = .int .i64 i ∧ m.get 5 = .pointer (some ⟨N, 0, none⟩) ∧ m.get 7 = .int .u8 (lastT (E.take j) th).1 ∧ m.get 8 = .int .u64 (lastT (E.take j) th).2 ∧ m.get 9 = .int .i64 j ∧ h' = h5) i ?_ ?_
      · refine ⟨0, by omega, by omega, ?_⟩
        have l0 : (lastT (E.take 0) th) = (0, 0) := rfl
        rw [l0]
        simp (config := { maxSteps := 2000000 }) (disch := omega) only [go_sem, *]
        try trivial
      · rintro t m h' n' ih ⟨j, hij, rfl, m1, m2, m3, m4, m5, m6, m7, m8, rfl⟩
        rcases Nat.lt_or_ge j i with hlt | hge
        · have hjl : j < E.length := by omega
          have e7 : (j : Int) < i := by omega
          have e8 : (j : Int) < E.length := by omega
          have cj1 := evCs_cell (j := 1) hjl (by omega)
          have cj2 := evCs_cell (j := 2) hjl (by omega)
          have cj3 := evCs_cell (j := 3) hjl (by omega)
          have hla := lastT_at (th := th) hjl
          obtain ⟨⟨st', th', kd', val'⟩, hx'⟩ : ∃ x, E[j] = x := ⟨_, rfl⟩
          rw [hx'] at cj1 cj2 cj3 hla
          simp only [evC, List.getElem?_cons_zero, List.getElem?_cons_succ, Nat.add_zero] at cj1 cj2 cj3
          simp only at hla
          have hpl : (evCs E).length = E.length * 4 := evCs_length E
          have hci : ((j + 1 : Nat) : Int) = (j : Int) + 1 := by omega
          clear hx' hQ hrow hb
          by_cases he : th' = th
          · subst he
            rw [if_pos rfl] at hla
            repeat' first | simp (config := { maxSteps := 2000000 }) (disch := omega) only [go_sem, *, Try.results59] | (first | apply EvG_ndec | apply EvC_ndec | apply EvG_dec | apply EvC_dec | apply EvC_nbool | apply EvC_bool | apply EvG_nbool | apply EvG_bool) <;> intro _ | (first | apply EvH_ndec | apply EvH_dec | apply EvH_nbool | apply EvH_bool) <;> intro _ | refine EvK_draw (id := 4) (L := [(3, 5), (4, 5), (3, 6), (4, 6), (5, 6), (3, 7), (4, 7), (5, 7), (3, 8), (4, 8), (3, 9), (4, 9), (3, 10), (4, 10)]) (by kernel_rfl) (by kernel_rfl) ?_ | refine EvK_draw (id := 12) (L := [(0, 1), (0, 5), (1, 5), (2, 5), (3, 5), (4, 5), (0, 6), (1, 6), (2, 6), (3, 6), (4, 6)]) (by kernel_rfl) (by kernel_rfl) ?_ | refine EvK_draw (id := 13) (L := [(0, 1), (0, 5), (1, 5), (2, 5), (3, 5), (4, 5), (0, 6), (1, 6), (2, 6), (3, 6), (4, 6), (5, 6), (0, 7), (1, 7), (2, 7), (3, 7), (4, 7), (0, 8), (1, 8), (2, 8), (3, 8), (4, 8), (0, 9), (1, 9), (2, 9), (3, 9), (4, 9), (5, 10), (6, 10), (7, 10), (8, 10), (9, 10)]) (by kernel_rfl) (by kernel_rfl) ?_
            refine ih (i - (j + 1)) _ _ _ (by omega) ⟨j + 1, by omega, rfl, ?_⟩
            rw [hci, hla]
            simp (config := { maxSteps := 2000000 }) (disch := omega) only [go_sem, *]
          · rw [if_neg (fun q => he q.symm)] at hla
            repeat' first | simp (config := { maxSteps := 2000000 }) (disch := omega) only [go_sem, *, Try.results59] | (first | apply EvG_ndec | apply EvC_ndec | apply EvG_dec | apply EvC_dec | apply EvC_nbool | apply EvC_bool | apply EvG_nbool | apply EvG_bool) <;> intro _ | (first | apply EvH_ndec | apply EvH_dec | apply EvH_nbool | apply EvH_bool) <;> intro _ | refine EvK_draw (id := 4) (L := [(3, 5), (4, 5), (3, 6), (4, 6), (5, 6), (3, 7), (4, 7), (5, 7), (3, 8), (4, 8), (3, 9), (4, 9), (3, 10), (4, 10)]) (by kernel_rfl) (by kernel_rfl) ?_ | refine EvK_draw (id := 12) (L := [(0, 1), (0, 5), (1, 5), (2, 5), (3, 5), (4, 5), (0, 6), (1, 6), (2, 6), (3, 6), (4, 6)]) (by kernel_rfl) (by kernel_rfl) ?_ | refine EvK_draw (id := 13) (L := [(0, 1), (0, 5), (1, 5), (2, 5), (3, 5), (4, 5), (0, 6), (1, 6), (2, 6), (3, 6), (4, 6), (5, 6), (0, 7), (1, 7), (2, 7), (3, 7), (4, 7), (0, 8), (1, 8), (2, 8), (3, 8), (4, 8), (0, 9), (1, 9), (2, 9), (3, 9), (4, 9), (5, 10), (6, 10), (7, 10), (8, 10), (9, 10)]) (by kernel_rfl) (by kernel_rfl) ?_
            refine ih (i - (j + 1)) _ _ _ (by omega) ⟨j + 1, by omega, rfl, ?_⟩
            rw [hci, hla]
            simp (config := { maxSteps := 2000000 }) (disch := omega) only [go_sem, *]
        · obtain rfl : j = i := by omega
          have e7 : ¬ (j : Int) < j := by omega
          generalize lastT (E.take j) th = w at *
          obtain ⟨a, c⟩ := w
          simp only at m6 m7 hQ
          clear ih hb b5
          have hcs : kd = 1 ∨ kd = 2 ∨ kd = 3 ∨ kd = 4 := by omega
          rcases hcs with rfl | rfl | rfl | rfl
          all_goals
            simp only [goodE, Int.reduceEq, ↓reduceIte] at hQ
            repeat' first | simp (config := { maxSteps := 2000000 }) (disch := omega) only [go_sem, *, Try.results59] | (first | apply EvG_ndec | apply EvC_ndec | apply EvG_dec | apply EvC_dec | apply EvC_nbool | apply EvC_bool | apply EvG_nbool | apply EvG_bool) <;> intro _ | (first | apply EvH_ndec | apply EvH_dec | apply EvH_nbool | apply EvH_bool) <;> intro _ | refine EvK_draw (id := 4) (L := [(3, 5), (4, 5), (3, 6), (4, 6), (5, 6), (3, 7), (4, 7), (5, 7), (3, 8), (4, 8), (3, 9), (4, 9), (3, 10), (4, 10)]) (by kernel_rfl) (by kernel_rfl) ?_ | refine EvK_draw (id := 12) (L := [(0, 1), (0, 5), (1, 5), (2, 5), (3, 5), (4, 5), (0, 6), (1, 6), (2, 6), (3, 6), (4, 6)]) (by kernel_rfl) (by kernel_rfl) ?_ | refine EvK_draw (id := 13) (L := [(0, 1), (0, 5), (1, 5), (2, 5), (3, 5), (4, 5), (0, 6), (1, 6), (2, 6), (3, 6), (4, 6), (5, 6), (0, 7), (1, 7), (2, 7), (3, 7), (4, 7), (0, 8), (1, 8), (2, 8), (3, 8), (4, 8), (0, 9), (1, 9), (2, 9), (3, 9), (4, 9), (5, 10), (6, 10), (7, 10), (8, 10), (9, 10)]) (by kernel_rfl) (by kernel_rfl) ?_
            all_goals first | done | (refine ⟨congrArg Value.bool ?_, k5⟩; first | exact decide_eq_decide.2 (by omega) | exact (decide_eq_false (by omega)).symm | exact (decide_eq_true (by omega)).symm) | (refine congrArg Value.bool ?_; first | exact decide_eq_decide.2 (by omega) | exact (decide_eq_false (by omega)).symm | exact (decide_eq_true (by omega)).symm)
    · have hp0 : (i : Int) > 0 := by omega
      obtain ⟨i', rfl⟩ : ∃ i', i = i' + 1 := ⟨i - 1, by omega⟩
      have hi' : i' < E.length := by omega
      have hpv : prev E (i' + 1) = some E[i'] := prev_succ hi'
      rw [hpv] at hgd
      have hrow' := evCs_row hi'
      have c0 := evCs_cell (j := 0) hi' (by omega)
      obtain ⟨⟨ps, pt, pk, pv⟩, hx'⟩ : ∃ x, E[i'] = x := ⟨_, rfl⟩
      rw [hx'] at hgd hrow' c0
      simp only [evC, List.getElem?_cons_zero, Nat.add_zero] at hrow' c0
      have hsb : ((i' + 1 : Nat) : Int) - 1 = i' := by omega
      have hin : (i' : Int) < E.length := by omega
      clear hpv hx'
      by_cases hle : st ≤ ps
      · by_cases hex : st = ps ∧ pk = 3 ∧ kd = 4 ∧ th = pt
        · obtain ⟨rfl, rfl, rfl, rfl⟩ := hex
          have hns : ¬ st < st := by omega
          refine EvB_run (N := 146) Try.func59 rfl rfl fun z hP hO hro hN hQ => ?_
          repeat' first | simp (config := { maxSteps := 2000000 }) (disch := omega) only [go_sem, *, Try.results59] | (first | apply EvG_ndec | apply EvC_ndec | apply EvG_dec | apply EvC_dec | apply EvC_nbool | apply EvC_bool | apply EvG_nbool | apply EvG_bool) <;> intro _ | (first | apply EvH_ndec | apply EvH_dec | apply EvH_nbool | apply EvH_bool) <;> intro _ | refine EvK_draw (id := 4) (L := [(3, 5), (4, 5), (3, 6), (4, 6), (5, 6), (3, 7), (4, 7), (5, 7), (3, 8), (4, 8), (3, 9), (4, 9), (3, 10), (4, 10)]) (by kernel_rfl) (by kernel_rfl) ?_ | refine EvK_draw (id := 12) (L := [(0, 1), (0, 5), (1, 5), (2, 5), (3, 5), (4, 5), (0, 6), (1, 6), (2, 6), (3, 6), (4, 6)]) (by kernel_rfl) (by kernel_rfl) ?_ | refine EvK_draw (id := 13) (L := [(0, 1), (0, 5), (1, 5), (2, 5), (3, 5), (4, 5), (0, 6), (1, 6), (2, 6), (3, 6), (4, 6), (5, 6), (0, 7), (1, 7), (2, 7), (3, 7), (4, 7), (0, 8), (1, 8), (2, 8), (3, 8), (4, 8), (0, 9), (1, 9), (2, 9), (3, 9), (4, 9), (5, 10), (6, 10), (7, 10), (8, 10), (9, 10)]) (by kernel_rfl) (by kernel_rfl) ?_
          have hgd2 : gd E (i' + 1) = goodE 4 (lastT (E.take (i' + 1)) th).1 (lastT (E.take (i' + 1)) th).2 val := by
            rw [hgd]
            have : ordOk (some (st, th, 3, pv)) (st, th, 4, val) = true := decide_eq_true (.inr ⟨rfl, rfl, rfl, rfl⟩)
            rw [this]; rfl
          rw [hgd2] at hQ
          clear hgd hgd2
          generalize hh5 : PT.set (PT.set (PT.set (PT.set h N _) N _) (N + 1) _) (N + 1) _ = h5
          have e5 : h5.get N = some (.cells (PT.ofList .leaf 0 [.int .i64 st, .int .i64 th, .int .u8 4, .int .u64 val]) false) := by rw [← hh5]; simp (disch := omega) only [heap_ne, heap_same]
          have b5 : h5.get b = some (.cells (PT.ofList .leaf 0 (evCs E)) false) := by rw [← hh5]; simp (disch := omega) only [heap_ne]; exact hb
          have k5 : Kept h h5 := by rw [← hh5]; exact Kept.set' hW (by omega) (Kept.set' hW (by omega) (Kept.set' hW (by omega) (hW.kept (Nat.le_refl _))))
          clear hh5
          refine ind_loop (fun t m h' n' => ∃ j : Nat, j ≤ i' + 1 ∧ t = i' + 1 - j ∧ m.n = 146 ∧ m.dfs = [] ∧ m.get 0 = .slice (some ⟨b, 0, none⟩) E.length cap ∧ m.get 1 = .int .i64 ((i' + 1 : Nat) : Int) ∧ m.get 5 = .pointer (some ⟨N, 0, none⟩) ∧ m.get 7 = .int .u8 (lastT (E.take j) th).1 ∧ m.get 8 = .int .u64 (lastT (E.take j) th).2 ∧ m.get 9 = .int .i64 j ∧ h' = h5) (i' + 1) ?_ ?_
          · refine ⟨0, by omega, by omega, ?_⟩
            have l0 : (lastT (E.take 0) th) = (0, 0) := rfl
            rw [l0]
            simp (config := { maxSteps := 2000000 }) (disch := omega) only [go_sem, *]
            try trivial
          · rintro t m h' n' ih ⟨j, hij, rfl, m1, m2, m3, m4, m5, m6, m7, m8, rfl⟩
            rcases Nat.lt_or_ge j (i' + 1) with hlt | hge
            · have hjl : j < E.length := by omega
              have e7 : (j : Int) < ((i' + 1 : Nat) : Int) := by omega
              have e8 : (j : Int) < E.length := by omega
              have cj1 := evCs_cell (j := 1) hjl (by omega)
              have cj2 := evCs_cell (j := 2) hjl (by omega)
              have cj3 := evCs_cell (j := 3) hjl (by omega)
              have hla := lastT_at (th := th) hjl
              obtain ⟨⟨st', th', kd', val'⟩, hx'⟩ : ∃ x, E[j] = x := ⟨_, rfl⟩
              rw [hx'] at cj1 cj2 cj3 hla
              simp only [evC, List.getElem?_cons_zero, List.getElem?_cons_succ, Nat.add_zero] at cj1 cj2 cj3
              simp only at hla
              have hpl : (evCs E).length = E.length * 4 := evCs_length E
              have hci : ((j + 1 : Nat) : Int) = (j : Int) + 1 := by omega
              clear hx' hQ hrow hb
              by_cases he : th' = th
              · subst he
                rw [if_pos rfl] at hla
                repeat' first | simp (config := { maxSteps := 2000000 }) (disch := omega) only [go_sem, *, Try.results59] | (first | apply EvG_ndec | apply EvC_ndec | apply EvG_dec | apply EvC_dec | apply EvC_nbool | apply EvC_bool | apply EvG_nbool | apply EvG_bool) <;> intro _ | (first | apply EvH_ndec | apply EvH_dec | apply EvH_nbool | apply EvH_bool) <;> intro _ | refine EvK_draw (id := 4) (L := [(3, 5), (4, 5), (3, 6), (4, 6), (5, 6), (3, 7), (4, 7), (5, 7), (3, 8), (4, 8), (3, 9), (4, 9), (3, 10), (4, 10)]) (by kernel_rfl) (by kernel_rfl) ?_ | refine EvK_draw (id := 12) (L := [(0, 1), (0, 5), (1, 5), (2, 5), (3, 5), (4, 5), (0, 6), (1, 6), (2, 6), (3, 6), (4, 6)]) (by kernel_rfl) (by kernel_rfl) ?_ | refine EvK_draw (id := 13) (L := [(0, 1), (0, 5), (1, 5), (2, 5), (3, 5), (4, 5), (0, 6), (1, 6), (2, 6), (3, 6), (4, 6), (5, 6), (0, 7), (1, 7), (2, 7), (3, 7), (4, 7), (0, 8), (1, 8), (2, 8), (3, 8), (4, 8), (0, 9), (1, 9), (2, 9), (3, 9), (4, 9), (5, 10), (6, 10), (7, 10), (8, 10), (9, 10)]) (by kernel_rfl) (by kernel_rfl) ?_
                refine ih (i' + 1 - (j + 1)) _ _ _ (by omega) ⟨j + 1, by omega, rfl, ?_⟩
                rw [hci, hla]
                simp (config := { maxSteps := 2000000 }) (disch := omega) only [go_sem, *]
              · rw [if_neg (fun q => he q.symm)] at hla
                repeat' first | simp (config := { maxSteps := 2000000 }) (disch := omega) only [go_sem, *, Try.results59] | (first | apply EvG_ndec | apply EvC_ndec | apply EvG_dec | apply EvC_dec | apply EvC_nbool | apply EvC_bool | apply EvG_nbool | apply EvG_bool) <;> intro _ | (first | apply EvH_ndec | apply EvH_dec | apply EvH_nbool | apply EvH_bool) <;> intro _ | refine EvK_draw (id := 4) (L := [(3, 5), (4, 5), (3, 6), (4, 6), (5, 6), (3, 7), (4, 7), (5, 7), (3, 8), (4, 8), (3, 9), (4, 9), (3, 10), (4, 10)]) (by kernel_rfl) (by kernel_rfl) ?_ | refine EvK_draw (id := 12) (L := [(0, 1), (0, 5), (1, 5), (2, 5), (3, 5), (4, 5), (0, 6), (1, 6), (2, 6), (3, 6), (4, 6)]) (by kernel_rfl) (by kernel_rfl) ?_ | refine EvK_draw (id := 13) (L := [(0, 1), (0, 5), (1, 5), (2, 5), (3, 5), (4, 5), (0, 6), (1, 6), (2, 6), (3, 6), (4, 6), (5, 6), (0, 7), (1, 7), (2, 7), (3, 7), (4, 7), (0, 8), (1, 8), (2, 8), (3, 8), (4, 8), (0, 9), (1, 9), (2, 9), (3, 9), (4, 9), (5, 10), (6, 10), (7, 10), (8, 10), (9, 10)]) (by kernel_rfl) (by kernel_rfl) ?_
                refine ih (i' + 1 - (j + 1)) _ _ _ (by omega) ⟨j + 1, by omega, rfl, ?_⟩
                rw [hci, hla]
                simp (config := { maxSteps := 2000000 }) (disch := omega) only [go_sem, *]
            · obtain rfl : j = i' + 1 := by omega
              have e7 : ¬ ((i' + 1 : Nat) : Int) < ((i' + 1 : Nat) : Int) := by omega
              generalize lastT (E.take (i' + 1)) th = w at *
              obtain ⟨a, c⟩ := w
              simp only at m6 m7 hQ
              clear ih hb b5
              simp only [goodE, Int.reduceEq, ↓reduceIte] at hQ
              repeat' first | simp (config := { maxSteps := 2000000 }) (disch := omega) only [go_sem, *, Try.results59] | (first | apply EvG_ndec | apply EvC_ndec | apply EvG_dec | apply EvC_dec | apply EvC_nbool | apply EvC_bool | apply EvG_nbool | apply EvG_bool) <;> intro _ | (first | apply EvH_ndec | apply EvH_dec | apply EvH_nbool | apply EvH_bool) <;> intro _ | refine EvK_draw (id := 4) (L := [(3, 5), (4, 5), (3, 6), (4, 6), (5, 6), (3, 7), (4, 7), (5, 7), (3, 8), (4, 8), (3, 9), (4, 9), (3, 10), (4, 10)]) (by kernel_rfl) (by kernel_rfl) ?_ | refine EvK_draw (id := 12) (L := [(0, 1), (0, 5), (1, 5), (2, 5), (3, 5), (4, 5), (0, 6), (1, 6), (2, 6), (3, 6), (4, 6)]) (by kernel_rfl) (by kernel_rfl) ?_ | refine EvK_draw (id := 13) (L := [(0, 1), (0, 5), (1, 5), (2, 5), (3, 5), (4, 5), (0, 6), (1, 6), (2, 6), (3, 6), (4, 6), (5, 6), (0, 7), (1, 7), (2, 7), (3, 7), (4, 7), (0, 8), (1, 8), (2, 8), (3, 8), (4, 8), (0, 9), (1, 9), (2, 9), (3, 9), (4, 9), (5, 10), (6, 10), (7, 10), (8, 10), (9, 10)]) (by kernel_rfl) (by kernel_rfl) ?_
              all_goals first | done | (refine ⟨congrArg Value.bool ?_, k5⟩; first | exact decide_eq_decide.2 (by omega) | exact (decide_eq_false (by omega)).symm | exact (decide_eq_true (by omega)).symm) | (refine congrArg Value.bool ?_; first | exact decide_eq_decide.2 (by omega) | exact (decide_eq_false (by omega)).symm | exact (decide_eq_true (by omega)).symm)
        · have hg0 : gd E (i' + 1) = false := by
            rw [hgd]
            have : ordOk (some (ps, pt, pk, pv)) (st, th, kd, val) = false := by
              unfold ordOk
              refine decide_eq_false ?_
              simp only
              omega
            rw [this]; rfl
          rw [hg0]
          clear hgd hg0
          refine EvB_run (N := 146) Try.func59 rfl rfl fun z hP hO hro hN hQ => ?_
          repeat' first | simp (config := { maxSteps := 2000000 }) (disch := omega) only [go_sem, *, Try.results59] | (first | apply EvG_ndec | apply EvC_ndec | apply EvG_dec | apply EvC_dec | apply EvC_nbool | apply EvC_bool | apply EvG_nbool | apply EvG_bool) <;> intro _ | (first | apply EvH_ndec | apply EvH_dec | apply EvH_nbool | apply EvH_bool) <;> intro _ | refine EvK_draw (id := 4) (L := [(3, 5), (4, 5), (3, 6), (4, 6), (5, 6), (3, 7), (4, 7), (5, 7), (3, 8), (4, 8), (3, 9), (4, 9), (3, 10), (4, 10)]) (by kernel_rfl) (by kernel_rfl) ?_ | refine EvK_draw (id := 12) (L := [(0, 1), (0, 5), (1, 5), (2, 5), (3, 5), (4, 5), (0, 6), (1, 6), (2, 6), (3, 6), (4, 6)]) (by kernel_rfl) (by kernel_rfl) ?_ | refine EvK_draw (id := 13) (L := [(0, 1), (0, 5), (1, 5), (2, 5), (3, 5), (4, 5), (0, 6), (1, 6), (2, 6), (3, 6), (4, 6), (5, 6), (0, 7), (1, 7), (2, 7), (3, 7), (4, 7), (0, 8), (1, 8), (2, 8), (3, 8), (4, 8), (0, 9), (1, 9), (2, 9), (3, 9), (4, 9), (5, 10), (6, 10), (7, 10), (8, 10), (9, 10)]) (by kernel_rfl) (by kernel_rfl) ?_
          all_goals first | (repeat first | assumption | exact Kept.refl _ | refine Kept.set' (by assumption) ?_ ?_ | omega) | (exfalso; omega)
      · refine EvB_run (N := 146) Try.func59 rfl rfl fun z hP hO hro hN hQ => ?_
        repeat' first | simp (config := { maxSteps := 2000000 }) (disch := omega) only [go_sem, *, Try.results59] | (first | apply EvG_ndec | apply EvC_ndec | apply EvG_dec | apply EvC_dec | apply EvC_nbool | apply EvC_bool | apply EvG_nbool | apply EvG_bool) <;> intro _ | (first | apply EvH_ndec | apply EvH_dec | apply EvH_nbool | apply EvH_bool) <;> intro _ | refine EvK_draw (id := 4) (L := [(3, 5), (4, 5), (3, 6), (4, 6), (5, 6), (3, 7), (4, 7), (5, 7), (3, 8), (4, 8), (3, 9), (4, 9), (3, 10), (4, 10)]) (by kernel_rfl) (by kernel_rfl) ?_ | refine EvK_draw (id := 12) (L := [(0, 1), (0, 5), (1, 5), (2, 5), (3, 5), (4, 5), (0, 6), (1, 6), (2, 6), (3, 6), (4, 6)]) (by kernel_rfl) (by kernel_rfl) ?_ | refine EvK_draw (id := 13) (L := [(0, 1), (0, 5), (1, 5), (2, 5), (3, 5), (4, 5), (0, 6), (1, 6), (2, 6), (3, 6), (4, 6), (5, 6), (0, 7), (1, 7), (2, 7), (3, 7), (4, 7), (0, 8), (1, 8), (2, 8), (3, 8), (4, 8), (0, 9), (1, 9), (2, 9), (3, 9), (4, 9), (5, 10), (6, 10), (7, 10), (8, 10), (9, 10)]) (by kernel_rfl) (by kernel_rfl) ?_
        have hgd2 : gd E (i' + 1) = goodE kd (lastT (E.take (i' + 1)) th).1 (lastT (E.take (i' + 1)) th).2 val := by
          rw [hgd]
          have : ordOk (some (ps, pt, pk, pv)) (st, th, kd, val) = true := decide_eq_true (.inl (by simp only; omega))
          rw [this]; rfl
        rw [hgd2] at hQ
        clear hgd hgd2
        generalize hh5 : PT.set (PT.set h N _) N _ = h5
        have e5 : h5.get N = some (.cells (PT.ofList .leaf 0 [.int .i64 st, .int .i64 th, .int .u8 kd, .int .u64 val]) false) := by rw [← hh5]; simp (disch := omega) only [heap_ne, heap_same]
        have b5 : h5.get b = some (.cells (PT.ofList .leaf 0 (evCs E)) false) := by rw [← hh5]; simp (disch := omega) only [heap_ne]; exact hb
        have k5 : Kept h h5 := by rw [← hh5]; exact Kept.set' hW (by omega) (hW.kept (Nat.le_refl _))
        clear hh5
        refine ind_loop (fun t m h' n' => ∃ j : Nat, j ≤ i' + 1 ∧ t = i' + 1 - j ∧ m.n = 146 ∧ m.dfs = [] ∧ m.get 0 = .slice (some ⟨b, 0, none⟩) E.length cap ∧ m.get 1 = .int .i64 ((i' + 1 : Nat) : Int) ∧ m.get 5 = .pointer (some ⟨N, 0, none⟩) ∧ m.get 7 = .int .u8 (lastT (E.take j) th).1 ∧ m.get 8 = .int .u64 (lastT (E.take j) th).2 ∧ m.get 9 = .int .i64 j ∧ h' = h5) (i' + 1) ?_ ?_
        · refine ⟨0, by omega, by omega, ?_⟩
          have l0 : (lastT (E.take 0) th) = (0, 0) := rfl
          rw [l0]
          simp (config := { maxSteps := 2000000 }) (disch := omega) only [go_sem, *]
          try trivial
        · rintro t m h' n' ih ⟨j, hij, rfl, m1, m2, m3, m4, m5, m6, m7, m8, rfl⟩
          rcases Nat.lt_or_ge j (i' + 1) with hlt | hge
          · have hjl : j < E.length := by omega
            have e7 : (j : Int) < ((i' + 1 : Nat) : Int) := by omega
            have e8 : (j : Int) < E.length := by omega
            have cj1 := evCs_cell (j := 1) hjl (by omega)
            have cj2 := evCs_cell (j := 2) hjl (by omega)
            have cj3 := evCs_cell (j := 3) hjl (by omega)
            have hla := lastT_at (th := th) hjl
            obtain ⟨⟨st', th', kd', val'⟩, hx'⟩ : ∃ x, E[j] = x := ⟨_, rfl⟩
            rw [hx'] at cj1 cj2 cj3 hla
            simp only [evC, List.getElem?_cons_zero, List.getElem?_cons_succ, Nat.add_zero] at cj1 cj2 cj3
            simp only at hla
            have hpl : (evCs E).length = E.length * 4 := evCs_length E
            have hci : ((j + 1 : Nat) : Int) = (j : Int) + 1 := by omega
            clear hx' hQ hrow hb
            by_cases he : th' = th
            · subst he
              rw [if_pos rfl] at hla
              repeat' first | simp (config := { maxSteps := 2000000 }) (disch := omega) only [go_sem, *, Try.results59] | (first | apply EvG_ndec | apply EvC_ndec | apply EvG_dec | apply EvC_dec | apply EvC_nbool | apply EvC_bool | apply EvG_nbool | apply EvG_bool) <;> intro _ | (first | apply EvH_ndec | apply EvH_dec | apply EvH_nbool | apply EvH_bool) <;> intro _ | refine EvK_draw (id := 4) (L := [(3, 5), (4, 5), (3, 6), (4, 6), (5, 6), (3, 7), (4, 7), (5, 7), (3, 8), (4, 8), (3, 9), (4, 9), (3, 10), (4, 10)]) (by kernel_rfl) (by kernel_rfl) ?_ | refine EvK_draw (id := 12) (L := [(0, 1), (0, 5), (1, 5), (2, 5), (3, 5), (4, 5), (0, 6), (1, 6), (2, 6), (3, 6), (4, 6)]) (by kernel_rfl) (by kernel_rfl) ?_ | refine EvK_draw (id := 13) (L := [(0, 1), (0, 5), (1, 5), (2, 5), (3, 5), (4, 5), (0, 6), (1, 6), (2, 6), (3, 6), (4, 6), (5, 6), (0, 7), (1, 7), (2, 7), (3, 7), (4, 7), (0, 8), (1, 8), (2, 8), (3, 8), (4, 8), (0, 9), (1, 9), (2, 9), (3, 9), (4, 9), (5, 10), (6, 10), (7, 10), (8, 10), (9, 10)]) (by kernel_rfl) (by kernel_rfl) ?_
              refine ih (i' + 1 - (j + 1)) _ _ _ (by omega) ⟨j + 1, by omega, rfl, ?_⟩
              rw [hci, hla]
              simp (config := { maxSteps := 2000000 }) (disch := omega) only [go_sem, *]
            · rw [if_neg (fun q => he q.symm)] at hla
              repeat' first | simp (config := { maxSteps := 2000000 }) (disch := omega) only [go_sem, *, Try.results59] | (first | apply EvG_ndec | apply EvC_ndec | apply EvG_dec | apply EvC_dec | apply EvC_nbool | apply EvC_bool | apply EvG_nbool | apply EvG_bool) <;> intro _ | (first | apply EvH_ndec | apply EvH_dec | apply EvH_nbool | apply EvH_bool) <;> intro _ | refine EvK_draw (id := 4) (L := [(3, 5), (4, 5), (3, 6), (4, 6), (5, 6), (3, 7), (4, 7), (5, 7), (3, 8), (4, 8), (3, 9), (4, 9), (3, 10), (4, 10)]) (by kernel_rfl) (by kernel_rfl) ?_ | refine EvK_draw (id := 12) (L := [(0, 1), (0, 5), (1, 5), (2, 5), (3, 5), (4, 5), (0, 6), (1, 6), (2, 6), (3, 6), (4, 6)]) (by kernel_rfl) (by kernel_rfl) ?_ | refine EvK_draw (id := 13) (L := [(0, 1), (0, 5), (1, 5), (2, 5), (3, 5), (4, 5), (0, 6), (1, 6), (2, 6), (3, 6), (4, 6), (5, 6), (0, 7), (1, 7), (2, 7), (3, 7), (4, 7), (0, 8), (1, 8), (2, 8), (3, 8), (4, 8), (0, 9), (1, 9), (2, 9), (3, 9), (4, 9), (5, 10), (6, 10), (7, 10), (8, 10), (9, 10)]) (by kernel_rfl) (by kernel_rfl) ?_
              refine ih (i' + 1 - (j + 1)) _ _ _ (by omega) ⟨j + 1, by omega, rfl, ?_⟩
              rw [hci, hla]
              simp (config := { maxSteps := 2000000 }) (disch := omega) only [go_sem, *]
          · obtain rfl : j = i' + 1 := by omega
            have e7 : ¬ ((i' + 1 : Nat) : Int) < ((i' + 1 : Nat) : Int) := by omega
            generalize lastT (E.take (i' + 1)) th = w at *
            obtain ⟨a, c⟩ := w
            simp only at m6 m7 hQ
            clear ih hb b5
            have hcs : kd = 1 ∨ kd = 2 ∨ kd = 3 ∨ kd = 4 := by omega
            rcases hcs with rfl | rfl | rfl | rfl
            all_goals
              simp only [goodE, Int.reduceEq, ↓reduceIte] at hQ
              repeat' first | simp (config := { maxSteps := 2000000 }) (disch := omega) only [go_sem, *, Try.results59] | (first | apply EvG_ndec | apply EvC_ndec | apply EvG_dec | apply EvC_dec | apply EvC_nbool | apply EvC_bool | apply EvG_nbool | apply EvG_bool) <;> intro _ | (first | apply EvH_ndec | apply EvH_dec | apply EvH_nbool | apply EvH_bool) <;> intro _ | refine EvK_draw (id := 4) (L := [(3, 5), (4, 5), (3, 6), (4, 6), (5, 6), (3, 7), (4, 7), (5, 7), (3, 8), (4, 8), (3, 9), (4, 9), (3, 10), (4, 10)]) (by kernel_rfl) (by kernel_rfl) ?_ | refine EvK_draw (id := 12) (L := [(0, 1), (0, 5), (1, 5), (2, 5), (3, 5), (4, 5), (0, 6), (1, 6), (2, 6), (3, 6), (4, 6)]) (by kernel_rfl) (by kernel_rfl) ?_ | refine EvK_draw (id := 13) (L := [(0, 1), (0, 5), (1, 5), (2, 5), (3, 5), (4, 5), (0, 6), (1, 6), (2, 6), (3, 6), (4, 6), (5, 6), (0, 7), (1, 7), (2, 7), (3, 7), (4, 7), (0, 8), (1, 8), (2, 8), (3, 8), (4, 8), (0, 9), (1, 9), (2, 9), (3, 9), (4, 9), (5, 10), (6, 10), (7, 10), (8, 10), (9, 10)]) (by kernel_rfl) (by kernel_rfl) ?_
              all_goals first | done | (refine ⟨congrArg Value.bool ?_, k5⟩; first | exact decide_eq_decide.2 (by omega) | exact (decide_eq_false (by omega)).symm | exact (decide_eq_true (by omega)).symm) | (refine congrArg Value.bool ?_; first | exact decide_eq_decide.2 (by omega) | exact (decide_eq_false (by omega)).symm | exact (decide_eq_true (by omega)).symm)
  · have hg0 : gd E i = false := by
      rw [hgd]
      cases hc : fldOk (st, th, kd, val) with
      | false => rfl
      | true => exact absurd hc hf
    rw [hg0]
    have hf' : ¬ (0 ≤ st ∧ 0 ≤ th ∧ th < 64 ∧ 1 ≤ kd ∧ kd ≤ 4) := fun q => hf (decide_eq_true q)
    clear hgd hg0 hx
    refine EvB_run (N := 146) Try.func59 rfl rfl fun z hP hO hro hN hQ => ?_
    repeat' first | simp (config := { maxSteps := 2000000 }) (disch := omega) only [go_sem, *, Try.results59] | (first | apply EvG_ndec | apply EvC_ndec | apply EvG_dec | apply EvC_dec | apply EvC_nbool | apply EvC_bool | apply EvG_nbool | apply EvG_bool) <;> intro _ | (first | apply EvH_ndec | apply EvH_dec | apply EvH_nbool | apply EvH_bool) <;> intro _ | refine EvK_draw (id := 4) (L := [(3, 5), (4, 5), (3, 6), (4, 6), (5, 6), (3, 7), (4, 7), (5, 7), (3, 8), (4, 8), (3, 9), (4, 9), (3, 10), (4, 10)]) (by kernel_rfl) (by kernel_rfl) ?_ | refine EvK_draw (id := 12) (L := [(0, 1), (0, 5), (1, 5), (2, 5), (3, 5), (4, 5), (0, 6), (1, 6), (2, 6), (3, 6), (4, 6)]) (by kernel_rfl) (by kernel_rfl) ?_ | refine EvK_draw (id := 13) (L := [(0, 1), (0, 5), (1, 5), (2, 5), (3, 5), (4, 5), (0, 6), (1, 6), (2, 6), (3, 6), (4, 6), (5, 6), (0, 7), (1, 7), (2, 7), (3, 7), (4, 7), (0, 8), (1, 8), (2, 8), (3, 8), (4, 8), (0, 9), (1, 9), (2, 9), (3, 9), (4, 9), (5, 10), (6, 10), (7, 10), (8, 10), (9, 10)]) (by kernel_rfl) (by kernel_rfl) ?_
    all_goals first | (repeat first | assumption | exact Kept.refl _ | refine Kept.set' (by assumption) ?_ ?_ | omega) | (exfalso; omega)
end Go.Proofs.Ythhohpbghfbkbaa

set_option linter.unusedVariables false
set_option linter.unusedSimpArgs false
namespace Go.Proofs.Ythhohpbghfbkbaa
open Go.Am

/-- The answer of a check: an error's place, or all is in order. -/
def ChkV (E : List Ev) (v : Value) : Prop := (chk E = false ∧ ∃ k : Int, v = .tuple ⟨[.int .i64 k, .int .i64 15]⟩) ∨ (chk E = true ∧ v = .tuple ⟨[.int .i64 0, .int .i64 0]⟩)
set_option maxRecDepth 100000 in
set_option maxHeartbeats 1000000 in
theorem refCheckB {O : Over} (o61 : O 59 = fun _ => none) (E : List Ev) (s : Value) (hn : E.length ≤ 100000) (h : PT ABlk) (N : Nat) (hW : WfH h N) (hs : IsEvs h s E) :
    EvB Try.prog O 53 [s] h N fun v h' n' => ChkV E v ∧ Kept h h' := by
  obtain ⟨ba, bc, rfl, hrow⟩ := hs.len
  unfold ChkV
  rw [chk_eq]
  refine EvB_run (N := 16) Try.func53 rfl rfl fun z hP hO hro hN hQ => ?_
  repeat' first | simp (config := { maxSteps := 2000000 }) (disch := omega) only [go_sem, *, Try.results53] | (first | apply EvG_ndec | apply EvC_ndec | apply EvG_dec | apply EvC_dec | apply EvC_nbool | apply EvC_bool | apply EvG_nbool | apply EvG_bool) <;> intro _
  refine ind_loop (fun t m h' n' => ∃ j : Nat, j ≤ E.length ∧ t = E.length - j ∧ m.n = 16 ∧ m.dfs = [] ∧ m.get 0 = .slice ba E.length bc ∧ m.get 4 = .int .i64 j ∧ WfH h' n' ∧ Kept h h' ∧ runsR (prev E j) (lastT (E.take j)) (E.drop j) = chkR E) E.length ?_ ?_
  · refine ⟨0, by omega, by omega, ?_⟩
    simp (config := { maxSteps := 2000000 }) (disch := omega) only [go_sem, *]
    exact ⟨Kept.refl _, rfl⟩
  · rintro t m h' n' ih ⟨j, hj, rfl, m1, m2, m3, m4, q1, q2, q3⟩
    rcases Nat.lt_or_ge j E.length with hlt | hge
    · have e7 : (j : Int) < E.length := by omega
      rw [runsR_at hlt] at q3
      obtain ⟨b, rfl, hb⟩ := hrow j hlt
      repeat' first | simp (config := { maxSteps := 2000000 }) (disch := omega) only [go_sem, *, Try.results53] | (first | apply EvG_ndec | apply EvC_ndec | apply EvG_dec | apply EvC_dec | apply EvC_nbool | apply EvC_bool | apply EvG_nbool | apply EvG_bool) <;> intro _
      refine EvQ_call ?_ ?_ (by rw [hP, hO]; exact (goodB E b bc j hlt hn _ _ q1 (q2 _ _ hb)).wf q1) ?_
      · simp (config := { maxSteps := 2000000 }) (disch := omega) only [go_sem, *]
      · simp (config := { maxSteps := 2000000 }) (disch := omega) only [go_sem, *]
      rintro v h2 n2 ⟨⟨rfl, k2⟩, hn2, hW2⟩
      have k02 := q2.trans k2
      clear hrow hb k2 hn2 q2
      cases hg : gd E j with
      | false =>
        rw [hg, Bool.false_and] at q3
        rw [← q3] at hQ
        clear ih q3 hg
        repeat' first | simp (config := { maxSteps := 2000000 }) (disch := omega) only [go_sem, *, Try.results53] | (first | apply EvG_ndec | apply EvC_ndec | apply EvG_dec | apply EvC_dec | apply EvC_nbool | apply EvC_bool | apply EvG_nbool | apply EvG_bool) <;> intro _
        exact ⟨_, rfl⟩
      | true =>
        rw [hg, Bool.true_and] at q3
        clear hQ hg
        repeat' first | simp (config := { maxSteps := 2000000 }) (disch := omega) only [go_sem, *, Try.results53] | (first | apply EvG_ndec | apply EvC_ndec | apply EvG_dec | apply EvC_dec | apply EvC_nbool | apply EvC_bool | apply EvG_nbool | apply EvG_bool) <;> intro _
        refine ih (E.length - (j + 1)) _ _ _ (by omega) ⟨j + 1, by omega, rfl, ?_⟩
        have hci : ((j + 1 : Nat) : Int) = (j : Int) + 1 := by omega
        rw [hci]
        simp (config := { maxSteps := 2000000 }) (disch := omega) only [go_sem, *]
    · have e7 : ¬ (j : Int) < E.length := by omega
      rw [List.drop_eq_nil_of_le hge] at q3
      have q4 : chkR E = true := q3.symm
      rw [q4] at hQ
      clear ih q3 q4 hrow
      repeat' first | simp (config := { maxSteps := 2000000 }) (disch := omega) only [go_sem, *, Try.results53] | (first | apply EvG_ndec | apply EvC_ndec | apply EvG_dec | apply EvC_dec | apply EvC_nbool | apply EvC_bool | apply EvG_nbool | apply EvG_bool) <;> intro _
end Go.Proofs.Ythhohpbghfbkbaa

set_option linter.unusedVariables false
set_option linter.unusedSimpArgs false
namespace Go.Proofs.Ythhohpbghfbkbaa
open Go.Am

/-- The row of the threads' states. -/
def IsTh (L : List Value) (T : TS) : Prop := L.length = 128 ∧ ∀ t : Nat, t < 64 → L[t * 2]? = some (.int .u8 (T t).1) ∧ L[t * 2 + 1]? = some (.int .u64 (T t).2)
theorem IsTh.step {L : List Value} {T : TS} (H : IsTh L T) {t : Nat} (ht : t < 64) (f : Int → Int → Int → Int × Int × Bool) (val : Int) :
    thG f (t * 2) val L = some ((L.set (t * 2) (.int .u8 (f (T t).1 (T t).2 val).1)).set (t * 2 + 1) (.int .u64 (f (T t).1 (T t).2 val).2.1), .bool (f (T t).1 (T t).2 val).2.2) ∧
      IsTh ((L.set (t * 2) (.int .u8 (f (T t).1 (T t).2 val).1)).set (t * 2 + 1) (.int .u64 (f (T t).1 (T t).2 val).2.1)) (updT T t ((f (T t).1 (T t).2 val).1, (f (T t).1 (T t).2 val).2.1)) := by
  obtain ⟨a, b⟩ := H.2 t ht
  refine ⟨by unfold thG; rw [a, b], by rw [List.length_set, List.length_set]; exact H.1, fun u hu => ?_⟩
  obtain ⟨c, d⟩ := H.2 u hu
  have hl := H.1
  unfold updT
  by_cases e : u = t
  · subst e
    rw [if_pos rfl, List.getElem?_set_ne (by omega), List.getElem?_set_self (by omega), List.getElem?_set_self (by rw [List.length_set]; omega)]
    exact ⟨rfl, rfl⟩
  · have e' : ¬ (u : Int) = t := by omega
    rw [if_neg e', List.getElem?_set_ne (by omega), List.getElem?_set_ne (by omega), List.getElem?_set_ne (by omega), List.getElem?_set_ne (by omega)]
    exact ⟨c, d⟩
/-- The method of a kind. -/
def fid (kd : Int) : FuncId := if kd = 1 then 78 else if kd = 2 then 79 else if kd = 3 then 80 else 81
theorem lkr {kd : Int} (h1 : 1 ≤ kd) (h4 : kd ≤ 4) : lkB Try.prog (.int .u8) 125 (.int .u8 kd) true (.map rulesE 4) = .pure (.value (.tuple ⟨[.func (.func (fid kd)) ⟨[]⟩ ⟨[]⟩, .bool true]⟩)) := by
  have hcs : kd = 1 ∨ kd = 2 ∨ kd = 3 ∨ kd = 4 := by omega
  rcases hcs with rfl | rfl | rfl | rfl <;> rfl
structure Follows (O : Over) : Prop where
  enter : O 78 = thS enterT
  exit : O 79 = thS exitT
  wait : O 80 = thS waitT
  done : O 81 = thS doneT
theorem Follows.at {O : Over} (H : Follows O) {kd : Int} (h1 : 1 ≤ kd) (h4 : kd ≤ 4) : O (fid kd) = thS (rl kd) := by
  have hcs : kd = 1 ∨ kd = 2 ∨ kd = 3 ∨ kd = 4 := by omega
  rcases hcs with rfl | rfl | rfl | rfl
  · exact H.enter
  · exact H.exit
  · exact H.wait
  · exact H.done
theorem flat2 (a b : Value) : ∀ (n t : Nat), t < n → (List.replicate n [a, b]).flatten[t * 2]? = some a ∧ (List.replicate n [a, b]).flatten[t * 2 + 1]? = some b
  | 0, t, h => by omega
  | n + 1, 0, _ => ⟨rfl, rfl⟩
  | n + 1, t + 1, h => by
    have := flat2 a b n t (by omega)
    rw [List.replicate_succ, List.flatten_cons, show (t + 1) * 2 = t * 2 + 2 by omega, show t * 2 + 2 + 1 = t * 2 + 1 + 2 by omega]
    exact this
def thr0 : List Value := (List.replicate 64 [Value.int .u8 0, Value.int .u64 0]).flatten
@[go_sem] theorem zcThr : zcT Try.prog 121 = some thr0 := by kernel_rfl
theorem zeroTh : IsTh thr0 T0 := ⟨rfl, fun t ht => flat2 _ _ 64 t ht⟩
theorem cfid {kd : Int} (h1 : 1 ≤ kd) (h4 : kd ≤ 4) (args : List Value) : aCallFunc Try.prog (fid kd) args = .pure (.enter (fid kd) args) := by
  have hcs : kd = 1 ∨ kd = 2 ∨ kd = 3 ∨ kd = 4 := by omega
  rcases hcs with rfl | rfl | rfl | rfl <;> rfl
theorem thS_eq {f : Int → Int → Int → Int × Int × Bool} {b off : Nat} {st t kd val : Int} : thS f [.pointer (some ⟨b, off, none⟩), .agg ⟨[.int .i64 st, .int .i64 t, .int .u8 kd, .int .u64 val]⟩] = some (setP b (thG f off val)) := rfl
set_option maxRecDepth 100000 in
set_option maxHeartbeats 2000000 in
theorem checkB {O : Over} (hO2 : Follows O) (o57 : O 71 = fun _ => none) (E : List Ev) (s : Value) (hn : E.length ≤ 100000) (h : PT ABlk) (N : Nat) (hW : WfH h N) (hs : IsEvs h s E) :
    EvB Try.prog O 58 [s] h N fun v h' n' => ChkV E v ∧ Kept h h' := by
  obtain ⟨ba, bc, rfl, hrow⟩ := hs.len
  unfold ChkV
  refine EvB_run (N := 94) Try.func58 rfl rfl fun z hP hO hro hN hQ => ?_
  repeat' first | simp (config := { maxSteps := 2000000 }) (disch := omega) only [go_sem, *, Try.results58] | (first | apply EvG_ndec | apply EvC_ndec | apply EvG_dec | apply EvC_dec | apply EvC_nbool | apply EvC_bool | apply EvG_nbool | apply EvG_bool) <;> intro _ | (first | apply EvH_ndec | apply EvH_dec | apply EvH_nbool | apply EvH_bool) <;> intro _ | refine EvK_draw (id := 9) (L := [(3, 5), (4, 5), (3, 6), (4, 6), (5, 6), (3, 7), (4, 7), (5, 7), (3, 8), (4, 8), (3, 9), (4, 9), (3, 10), (4, 10)]) (by kernel_rfl) (by kernel_rfl) ?_ | refine EvK_draw (id := 13) (L := [(0, 1), (0, 2), (0, 3), (0, 4), (1, 4), (2, 4), (3, 4)]) (by kernel_rfl) (by kernel_rfl) ?_
  refine EvQ_call ?_ ?_ (by rw [hP, hO]; exact (rulesB _ _ (hW.set (Nat.le_succ _) (Nat.lt_succ_self _))).wf (hW.set (Nat.le_succ _) (Nat.lt_succ_self _))) ?_
  · simp (config := { maxSteps := 2000000 }) (disch := omega) only [go_sem, *]
  · simp (config := { maxSteps := 2000000 }) (disch := omega) only [go_sem, *]
  rintro v h2 n2 ⟨⟨rfl, r1, rfl, r2⟩, -, hW2⟩
  have r0 : h2.get N = some (.cells (PT.ofList .leaf 0 thr0) false) := by rw [r2 N (by omega)]; exact heap_same
  have hk2 : Kept h h2 := fun i B e => by
    have := hW.lt e
    rw [r2 i (by omega), heap_ne (by omega)]; exact e
  clear r2
  repeat' first | simp (config := { maxSteps := 2000000 }) (disch := omega) only [go_sem, *, Try.results58] | (first | apply EvG_ndec | apply EvC_ndec | apply EvG_dec | apply EvC_dec | apply EvC_nbool | apply EvC_bool | apply EvG_nbool | apply EvG_bool) <;> intro _ | (first | apply EvH_ndec | apply EvH_dec | apply EvH_nbool | apply EvH_bool) <;> intro _ | refine EvK_draw (id := 9) (L := [(3, 5), (4, 5), (3, 6), (4, 6), (5, 6), (3, 7), (4, 7), (5, 7), (3, 8), (4, 8), (3, 9), (4, 9), (3, 10), (4, 10)]) (by kernel_rfl) (by kernel_rfl) ?_ | refine EvK_draw (id := 13) (L := [(0, 1), (0, 2), (0, 3), (0, 4), (1, 4), (2, 4), (3, 4)]) (by kernel_rfl) (by kernel_rfl) ?_
  refine ind_loop (fun t m h' n' => ∃ i : Nat, i ≤ E.length ∧ t = E.length - i ∧ m.n = 94 ∧ m.dfs = [] ∧ m.get 0 = .slice ba E.length bc ∧ m.get 4 = .pointer (some ⟨N, 0, none⟩) ∧ m.get 5 = .map (some (N + 1)) ∧ m.get 12 = .slice ba E.length bc ∧ m.get 13 = .int .i64 E.length ∧ m.get 14 = .int .i64 i ∧ h'.get (N + 1) = some (.map rulesE 4) ∧ WfH h' n' ∧ N + 1 + 1 ≤ n' ∧ Kept h h' ∧ ∃ T L, h'.get N = some (.cells (PT.ofList .leaf 0 L) false) ∧ IsTh L T ∧ runs (prev E i) T (E.drop i) = chk E) E.length ?_ ?_
  · refine ⟨0, by omega, by omega, ?_⟩
    simp (config := { maxSteps := 2000000 }) (disch := omega) only [go_sem, *]
    exact ⟨Nat.le_refl _, _, _, rfl, zeroTh, rfl⟩
  · clear r0 r1 hk2 hW2 h2
    rintro t m h' n' ih ⟨i, hi, rfl, m1, m2, m3, m4, m5, m6, m7, m8, q1, q2, q3, q4, T, L, q5, q6, q7⟩
    rcases Nat.lt_or_ge i E.length with hlt | hge
    · have e7 : (i : Int) < E.length := by omega
      rw [runs_at hlt] at q7
      obtain ⟨b, rfl, hb0⟩ := hrow i hlt
      have hb := q4 _ _ hb0
      have hbN := hW.lt hb0
      have hpl : (evCs E).length = E.length * 4 := evCs_length E
      have hro4 := evCs_row hlt
      have hlk := fun r => @lk105 r
      obtain ⟨⟨st, th, kd, val⟩, hx⟩ : ∃ x, E[i] = x := ⟨_, rfl⟩
      rw [hx] at hro4 q7
      simp only [evC] at hro4
      simp only at q7
      clear hrow hb0
      by_cases hk : 1 ≤ kd ∧ kd ≤ 4
      · obtain ⟨k1, k4⟩ := hk
        have hlk2 := lkr k1 k4
        have hcf := cfid k1 k4
        have hOf := hO2.at k1 k4
        by_cases hf : 0 ≤ st ∧ 0 ≤ th ∧ th < 64
        · obtain ⟨f1, f2, f3⟩ := hf
          have hf1 : fldOk (st, th, kd, val) = true := decide_eq_true ⟨f1, f2, f3, k1, k4⟩
          rw [hf1, Bool.true_and] at q7
          obtain ⟨tn, rfl⟩ : ∃ tn : Nat, th = tn := ⟨th.toNat, by omega⟩
          have f1' : ¬ st < 0 := by omega
          have f2' : ¬ (tn : Int) < 0 := by omega
          have f3' : ¬ (tn : Int) ≥ 64 := by omega
          obtain ⟨hg, hT'⟩ := q6.step (t := tn) (by omega) (rl kd) val
          unfold nextT at q7
          simp only at q7
          have hLl := q6.1
          generalize rl kd (T tn).1 (T tn).2 val = w at hg hT' q7
          obtain ⟨a, c, r⟩ := w
          simp only at hg hT' q7
          generalize (L.set (tn * 2) _).set _ _ = L' at hg hT'
          clear hf1 hx k1 k4 hO2 q6
          by_cases h0 : i = 0
          · have hp0 : ¬ (i : Int) > 0 := by omega
            have hpv : ordOk (prev E i) (st, tn, kd, val) = true := by rw [h0]; rfl
            rw [hpv, Bool.true_and] at q7
            clear h0 hpv
            cases r with
            | true =>
              rw [Bool.true_and] at q7
              clear hQ
              repeat' first | simp (config := { maxSteps := 2000000 }) (disch := omega) only [go_sem, *, Try.results58, lk105, thS_eq, setP] | (first | apply EvG_ndec | apply EvC_ndec | apply EvG_dec | apply EvC_dec | apply EvC_nbool | apply EvC_bool | apply EvG_nbool | apply EvG_bool) <;> intro _ | (first | apply EvH_ndec | apply EvH_dec | apply EvH_nbool | apply EvH_bool) <;> intro _ | refine EvK_draw (id := 9) (L := [(3, 5), (4, 5), (3, 6), (4, 6), (5, 6), (3, 7), (4, 7), (5, 7), (3, 8), (4, 8), (3, 9), (4, 9), (3, 10), (4, 10)]) (by kernel_rfl) (by kernel_rfl) ?_ | refine EvK_draw (id := 13) (L := [(0, 1), (0, 2), (0, 3), (0, 4), (1, 4), (2, 4), (3, 4)]) (by kernel_rfl) (by kernel_rfl) ?_
              refine ih (E.length - (i + 1)) _ _ _ (by omega) ⟨i + 1, by omega, rfl, ?_⟩
              have hci : ((i + 1 : Nat) : Int) = ((i : Nat) : Int) + 1 := by omega
              rw [hci]
              clear ih
              simp (config := { maxSteps := 2000000 }) (disch := omega) only [go_sem, *]
              exact ⟨WfH.set' (by omega) (WfH.set' (by omega) (q2.set (Nat.le_succ _) (Nat.lt_succ_self _))), by omega, Kept.set' hW (by omega) (Kept.set' hW (by omega) (Kept.set' hW (by omega) (q4))), _, _, rfl, hT', q7⟩
            | false =>
              rw [Bool.false_and] at q7
              rw [← q7] at hQ
              clear ih q7
              repeat' first | simp (config := { maxSteps := 2000000 }) (disch := omega) only [go_sem, *, Try.results58, lk105, thS_eq, setP] | (first | apply EvG_ndec | apply EvC_ndec | apply EvG_dec | apply EvC_dec | apply EvC_nbool | apply EvC_bool | apply EvG_nbool | apply EvG_bool) <;> intro _ | (first | apply EvH_ndec | apply EvH_dec | apply EvH_nbool | apply EvH_bool) <;> intro _ | refine EvK_draw (id := 9) (L := [(3, 5), (4, 5), (3, 6), (4, 6), (5, 6), (3, 7), (4, 7), (5, 7), (3, 8), (4, 8), (3, 9), (4, 9), (3, 10), (4, 10)]) (by kernel_rfl) (by kernel_rfl) ?_ | refine EvK_draw (id := 13) (L := [(0, 1), (0, 2), (0, 3), (0, 4), (1, 4), (2, 4), (3, 4)]) (by kernel_rfl) (by kernel_rfl) ?_
              exact ⟨⟨_, rfl⟩, Kept.set' hW (by omega) (Kept.set' hW (by omega) (Kept.set' hW (by omega) (q4)))⟩
          · have hp0 : (i : Int) > 0 := by omega
            obtain ⟨i', rfl⟩ : ∃ i', i = i' + 1 := ⟨i - 1, by omega⟩
            have hi' : i' < E.length := by omega
            have hpv : prev E (i' + 1) = some E[i'] := prev_succ hi'
            rw [hpv] at q7
            have hrow' := evCs_row hi'
            have c0 := evCs_cell (j := 0) hi' (by omega)
            obtain ⟨⟨ps, pt, pk, pv⟩, hx'⟩ : ∃ x, E[i'] = x := ⟨_, rfl⟩
            rw [hx'] at q7 hrow' c0
            simp only [evC, List.getElem?_cons_zero, Nat.add_zero] at hrow' c0
            have hsb : ((i' + 1 : Nat) : Int) - 1 = i' := by omega
            have hin : (i' : Int) < E.length := by omega
            clear hpv hx' h0
            by_cases hle : st ≤ ps
            · by_cases hex : st = ps ∧ pk = 3 ∧ kd = 4 ∧ tn = pt
              · obtain ⟨rfl, rfl, rfl, rfl⟩ := hex
                have hns : ¬ st < st := by omega
                have ho : ordOk (some (st, (tn : Int), 3, pv)) (st, (tn : Int), 4, val) = true := decide_eq_true (.inr ⟨rfl, rfl, rfl, rfl⟩)
                rw [ho, Bool.true_and] at q7
                clear ho
                cases r with
                | true =>
                  rw [Bool.true_and] at q7
                  clear hQ
                  repeat' first | simp (config := { maxSteps := 2000000 }) (disch := omega) only [go_sem, *, Try.results58, lk105, thS_eq, setP] | (first | apply EvG_ndec | apply EvC_ndec | apply EvG_dec | apply EvC_dec | apply EvC_nbool | apply EvC_bool | apply EvG_nbool | apply EvG_bool) <;> intro _ | (first | apply EvH_ndec | apply EvH_dec | apply EvH_nbool | apply EvH_bool) <;> intro _ | refine EvK_draw (id := 9) (L := [(3, 5), (4, 5), (3, 6), (4, 6), (5, 6), (3, 7), (4, 7), (5, 7), (3, 8), (4, 8), (3, 9), (4, 9), (3, 10), (4, 10)]) (by kernel_rfl) (by kernel_rfl) ?_ | refine EvK_draw (id := 13) (L := [(0, 1), (0, 2), (0, 3), (0, 4), (1, 4), (2, 4), (3, 4)]) (by kernel_rfl) (by kernel_rfl) ?_
                  refine ih (E.length - ((i' + 1) + 1)) _ _ _ (by omega) ⟨(i' + 1) + 1, by omega, rfl, ?_⟩
                  have hci : (((i' + 1) + 1 : Nat) : Int) = (((i' + 1) : Nat) : Int) + 1 := by omega
                  rw [hci]
                  clear ih
                  simp (config := { maxSteps := 2000000 }) (disch := omega) only [go_sem, *]
                  exact ⟨WfH.set' (by omega) (WfH.set' (by omega) (WfH.set (WfH.set' (by omega) (q2.set (Nat.le_succ _) (Nat.lt_succ_self _))) (Nat.le_succ _) (by omega))), by omega, Kept.set' hW (by omega) (Kept.set' hW (by omega) (Kept.set' hW (by omega) (Kept.set' hW (by omega) (Kept.set' hW (by omega) (q4))))), _, _, rfl, hT', q7⟩
                | false =>
                  rw [Bool.false_and] at q7
                  rw [← q7] at hQ
                  clear ih q7
                  repeat' first | simp (config := { maxSteps := 2000000 }) (disch := omega) only [go_sem, *, Try.results58, lk105, thS_eq, setP] | (first | apply EvG_ndec | apply EvC_ndec | apply EvG_dec | apply EvC_dec | apply EvC_nbool | apply EvC_bool | apply EvG_nbool | apply EvG_bool) <;> intro _ | (first | apply EvH_ndec | apply EvH_dec | apply EvH_nbool | apply EvH_bool) <;> intro _ | refine EvK_draw (id := 9) (L := [(3, 5), (4, 5), (3, 6), (4, 6), (5, 6), (3, 7), (4, 7), (5, 7), (3, 8), (4, 8), (3, 9), (4, 9), (3, 10), (4, 10)]) (by kernel_rfl) (by kernel_rfl) ?_ | refine EvK_draw (id := 13) (L := [(0, 1), (0, 2), (0, 3), (0, 4), (1, 4), (2, 4), (3, 4)]) (by kernel_rfl) (by kernel_rfl) ?_
                  exact ⟨⟨_, rfl⟩, Kept.set' hW (by omega) (Kept.set' hW (by omega) (Kept.set' hW (by omega) (Kept.set' hW (by omega) (Kept.set' hW (by omega) (q4)))))⟩
              · have ho : ordOk (some (ps, pt, pk, pv)) (st, (tn : Int), kd, val) = false := by
                  unfold ordOk
                  refine decide_eq_false ?_
                  simp only
                  omega
                rw [ho, Bool.false_and] at q7
                rw [← q7] at hQ
                clear ih q7 ho hT'
                repeat' first | simp (config := { maxSteps := 2000000 }) (disch := omega) only [go_sem, *, Try.results58, lk105, thS_eq, setP] | (first | apply EvG_ndec | apply EvC_ndec | apply EvG_dec | apply EvC_dec | apply EvC_nbool | apply EvC_bool | apply EvG_nbool | apply EvG_bool) <;> intro _ | (first | apply EvH_ndec | apply EvH_dec | apply EvH_nbool | apply EvH_bool) <;> intro _ | refine EvK_draw (id := 9) (L := [(3, 5), (4, 5), (3, 6), (4, 6), (5, 6), (3, 7), (4, 7), (5, 7), (3, 8), (4, 8), (3, 9), (4, 9), (3, 10), (4, 10)]) (by kernel_rfl) (by kernel_rfl) ?_ | refine EvK_draw (id := 13) (L := [(0, 1), (0, 2), (0, 3), (0, 4), (1, 4), (2, 4), (3, 4)]) (by kernel_rfl) (by kernel_rfl) ?_
                all_goals first | exact ⟨⟨_, rfl⟩, Kept.set' hW (by omega) (Kept.set' hW (by omega) (Kept.set' hW (by omega) (Kept.set' hW (by omega) q4)))⟩ | (exfalso; omega)
            · have ho : ordOk (some (ps, pt, pk, pv)) (st, (tn : Int), kd, val) = true := decide_eq_true (.inl (by simp only; omega))
              rw [ho, Bool.true_and] at q7
              clear ho
              cases r with
              | true =>
                rw [Bool.true_and] at q7
                clear hQ
                repeat' first | simp (config := { maxSteps := 2000000 }) (disch := omega) only [go_sem, *, Try.results58, lk105, thS_eq, setP] | (first | apply EvG_ndec | apply EvC_ndec | apply EvG_dec | apply EvC_dec | apply EvC_nbool | apply EvC_bool | apply EvG_nbool | apply EvG_bool) <;> intro _ | (first | apply EvH_ndec | apply EvH_dec | apply EvH_nbool | apply EvH_bool) <;> intro _ | refine EvK_draw (id := 9) (L := [(3, 5), (4, 5), (3, 6), (4, 6), (5, 6), (3, 7), (4, 7), (5, 7), (3, 8), (4, 8), (3, 9), (4, 9), (3, 10), (4, 10)]) (by kernel_rfl) (by kernel_rfl) ?_ | refine EvK_draw (id := 13) (L := [(0, 1), (0, 2), (0, 3), (0, 4), (1, 4), (2, 4), (3, 4)]) (by kernel_rfl) (by kernel_rfl) ?_
                refine ih (E.length - ((i' + 1) + 1)) _ _ _ (by omega) ⟨(i' + 1) + 1, by omega, rfl, ?_⟩
                have hci : (((i' + 1) + 1 : Nat) : Int) = (((i' + 1) : Nat) : Int) + 1 := by omega
                rw [hci]
                clear ih
                simp (config := { maxSteps := 2000000 }) (disch := omega) only [go_sem, *]
                exact ⟨WfH.set' (by omega) (WfH.set' (by omega) (q2.set (Nat.le_succ _) (Nat.lt_succ_self _))), by omega, Kept.set' hW (by omega) (Kept.set' hW (by omega) (Kept.set' hW (by omega) (q4))), _, _, rfl, hT', q7⟩
              | false =>
                rw [Bool.false_and] at q7
                rw [← q7] at hQ
                clear ih q7
                repeat' first | simp (config := { maxSteps := 2000000 }) (disch := omega) only [go_sem, *, Try.results58, lk105, thS_eq, setP] | (first | apply EvG_ndec | apply EvC_ndec | apply EvG_dec | apply EvC_dec | apply EvC_nbool | apply EvC_bool | apply EvG_nbool | apply EvG_bool) <;> intro _ | (first | apply EvH_ndec | apply EvH_dec | apply EvH_nbool | apply EvH_bool) <;> intro _ | refine EvK_draw (id := 9) (L := [(3, 5), (4, 5), (3, 6), (4, 6), (5, 6), (3, 7), (4, 7), (5, 7), (3, 8), (4, 8), (3, 9), (4, 9), (3, 10), (4, 10)]) (by kernel_rfl) (by kernel_rfl) ?_ | refine EvK_draw (id := 13) (L := [(0, 1), (0, 2), (0, 3), (0, 4), (1, 4), (2, 4), (3, 4)]) (by kernel_rfl) (by kernel_rfl) ?_
                exact ⟨⟨_, rfl⟩, Kept.set' hW (by omega) (Kept.set' hW (by omega) (Kept.set' hW (by omega) (q4)))⟩
        · have hf0 : fldOk (st, th, kd, val) = false := decide_eq_false (by simp only; omega)
          rw [hf0, Bool.false_and] at q7
          rw [← q7] at hQ
          clear ih q7 hf0 hx
          repeat' first | simp (config := { maxSteps := 2000000 }) (disch := omega) only [go_sem, *, Try.results58, lk105] | (first | apply EvG_ndec | apply EvC_ndec | apply EvG_dec | apply EvC_dec | apply EvC_nbool | apply EvC_bool | apply EvG_nbool | apply EvG_bool) <;> intro _ | (first | apply EvH_ndec | apply EvH_dec | apply EvH_nbool | apply EvH_bool) <;> intro _ | refine EvK_draw (id := 9) (L := [(3, 5), (4, 5), (3, 6), (4, 6), (5, 6), (3, 7), (4, 7), (5, 7), (3, 8), (4, 8), (3, 9), (4, 9), (3, 10), (4, 10)]) (by kernel_rfl) (by kernel_rfl) ?_ | refine EvK_draw (id := 13) (L := [(0, 1), (0, 2), (0, 3), (0, 4), (1, 4), (2, 4), (3, 4)]) (by kernel_rfl) (by kernel_rfl) ?_
          all_goals first | exact ⟨⟨_, rfl⟩, Kept.set' hW (by omega) (Kept.set' hW (by omega) q4)⟩ | (exfalso; omega)
      · have hf0 : fldOk (st, th, kd, val) = false := decide_eq_false (by simp only; omega)
        rw [hf0, Bool.false_and] at q7
        rw [← q7] at hQ
        have hlk2 := lkr0 (x := kd) (by omega) (by omega) (by omega) (by omega)
        clear ih q7 hf0 hx
        repeat' first | simp (config := { maxSteps := 2000000 }) (disch := omega) only [go_sem, *, Try.results58, lk105] | (first | apply EvG_ndec | apply EvC_ndec | apply EvG_dec | apply EvC_dec | apply EvC_nbool | apply EvC_bool | apply EvG_nbool | apply EvG_bool) <;> intro _ | (first | apply EvH_ndec | apply EvH_dec | apply EvH_nbool | apply EvH_bool) <;> intro _ | refine EvK_draw (id := 9) (L := [(3, 5), (4, 5), (3, 6), (4, 6), (5, 6), (3, 7), (4, 7), (5, 7), (3, 8), (4, 8), (3, 9), (4, 9), (3, 10), (4, 10)]) (by kernel_rfl) (by kernel_rfl) ?_ | refine EvK_draw (id := 13) (L := [(0, 1), (0, 2), (0, 3), (0, 4), (1, 4), (2, 4), (3, 4)]) (by kernel_rfl) (by kernel_rfl) ?_
        all_goals exact ⟨⟨_, rfl⟩, Kept.set' hW (by omega) (Kept.set' hW (by omega) q4)⟩
    · have e7 : ¬ (i : Int) < E.length := by omega
      rw [List.drop_eq_nil_of_le hge] at q7
      have q8 : chk E = true := q7.symm
      rw [q8] at hQ
      clear ih q7 q8 hrow
      repeat' first | simp (config := { maxSteps := 2000000 }) (disch := omega) only [go_sem, *, Try.results58] | (first | apply EvG_ndec | apply EvC_ndec | apply EvG_dec | apply EvC_dec | apply EvC_nbool | apply EvC_bool | apply EvG_nbool | apply EvG_bool) <;> intro _ | (first | apply EvH_ndec | apply EvH_dec | apply EvH_nbool | apply EvH_bool) <;> intro _ | refine EvK_draw (id := 9) (L := [(3, 5), (4, 5), (3, 6), (4, 6), (5, 6), (3, 7), (4, 7), (5, 7), (3, 8), (4, 8), (3, 9), (4, 9), (3, 10), (4, 10)]) (by kernel_rfl) (by kernel_rfl) ?_ | refine EvK_draw (id := 13) (L := [(0, 1), (0, 2), (0, 3), (0, 4), (1, 4), (2, 4), (3, 4)]) (by kernel_rfl) (by kernel_rfl) ?_
end Go.Proofs.Ythhohpbghfbkbaa
