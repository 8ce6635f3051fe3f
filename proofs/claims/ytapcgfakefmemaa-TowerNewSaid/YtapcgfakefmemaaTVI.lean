/-
  A part of the proof: contracts of inner functions.
-/
import Derived.Test.YtapcgfakefmemaaTVF
set_option linter.unusedVariables false
set_option linter.unusedSimpArgs false
namespace Go.Proofs.Ytapcgfakefmemaa
open Go.Am

set_option maxRecDepth 100000 in
set_option maxHeartbeats 8000000 in
theorem symMergeB {O : Over} (o46 : O 46 = cmpS) (o92 : O 92 = fun _ => none) (g cap : Nat) (ps : List (Int × Int)) (ro : Bool) (h : PT ABlk) (N : Nat) (hb : h.get g = some (.cells (PT.ofList .leaf 0 (prL ps)) ro)) (hasc : AscP ps) (h3 : ps.length ≤ 100000) :
    ∀ (k a m b : Nat), b - a ≤ k → a < m → m < b → b ≤ ps.length → EvB Try.prog O 92 [.slice (some ⟨g, 0, none⟩) ps.length cap, .int .i64 a, .int .i64 m, .int .i64 b, .func (.func 46) ⟨[]⟩ ⟨[]⟩] h N fun v h' n' => v = .tuple ⟨[]⟩ ∧ h' = h ∧ n' = N
  | 0, a, m, b, hk, h1, h2, h4 => by omega
  | k + 1, a, m, b, hk, h1, h2, h4 => by
    have IH := symMergeB o46 o92 g cap ps ro h N hb hasc h3 k
    have hll := prL_length ps
    refine EvB_run (N := 220) Try.func92 rfl rfl fun z hP hO hro hN hQ => ?_
    by_cases cA : (m : Int) - a = 1
    · obtain rfl : m = a + 1 := by omega
      clear IH
      repeat' first | simp (maxSteps := 2000000) (disch := omega) only [go_sem, *, Try.results92] | (first | apply xg1 | apply xc1 | apply xg2 | apply xc2 | apply xc3 | apply xc4 | apply xg3 | apply xg4) <;> intro _ | (first | apply xh1 | apply xh2 | apply xh3 | apply xh4) <;> intro _ | refine EvK_draw (id := 5) (L := w92_5) (by kernel_rfl) (by kernel_rfl) ?_ | refine EvK_draw (id := 11) (L := w92_11) (by kernel_rfl) (by kernel_rfl) ?_ | refine EvK_draw (id := 17) (L := w92_17) (by kernel_rfl) (by kernel_rfl) ?_ | refine EvK_draw (id := 23) (L := w92_23) (by kernel_rfl) (by kernel_rfl) ?_ | refine EvK_draw (id := 35) (L := w92_35) (by kernel_rfl) (by kernel_rfl) ?_
      refine ind_loop (fun t s h' n' => h' = h ∧ n' = N ∧ ∃ j : Nat, a + 1 ≤ j ∧ j ≤ b ∧ t = j - (a + 1) ∧ s.n = 220 ∧ s.dfs = [] ∧ s.get 0 = .slice (some ⟨g, 0, none⟩) ps.length cap ∧ s.get 1 = .int .i64 a ∧ s.get 2 = .int .i64 ((a + 1 : Nat) : Int) ∧ s.get 4 = .func (.func 46) ⟨[]⟩ ⟨[]⟩ ∧ s.get 10 = .int .i64 ((a + 1 : Nat) : Int) ∧ s.get 11 = .int .i64 j) (b - (a + 1)) ?_ ?_
      · refine ⟨rfl, rfl, b, by omega, by omega, rfl, ?_⟩
        simp (maxSteps := 2000000) (disch := omega) only [go_sem, *]
      · rintro t s h' n' ih ⟨rfl, rfl, j, hj1, hj2, rfl, m1, m2, m3, m4, m5, m6, m7, m8⟩
        by_cases hlt : ((a + 1 : Nat) : Int) < j
        · have hw : IntKind.u64.wrap (((a + 1 : Nat) : Int) + j) = ((a + 1 + j : Nat) : Int) := by
            have := wrap_u64 (x := ((a + 1 : Nat) : Int) + j) (by omega) (by omega)
            omega
          obtain ⟨c, hc⟩ : ∃ c, (a + 1 + j) / 2 = c := ⟨_, rfl⟩
          have hfd : ((a + 1 + j : Nat) : Int).fdiv (2 ^ min 1 64) = ((c : Nat) : Int) := by
            rw [← hc]; exact fdiv_half (a + 1 + j)
          have hcl : c < ps.length ∧ a + 1 ≤ c ∧ c < j := by omega
          have e1 := prL_at ps c (by omega)
          have e2 := prL_at ps a (by omega)
          have hb1 : Nat.ble (c * 2 + 2) (ps.length * 2) = true := Nat.ble_eq_true_of_le (by omega)
          have hb2 : Nat.ble (a * 2 + 2) (ps.length * 2) = true := Nat.ble_eq_true_of_le (by omega)
          have hnn : ¬ cmpV (ps.getD c (0, 0)).1 (ps.getD a (0, 0)).1 < 0 := cmpV_nn (hasc a c (by omega) (by omega))
          generalize (ps.getD c (0, 0)).1 = k1 at *
          generalize (ps.getD c (0, 0)).2 = x1 at *
          generalize (ps.getD a (0, 0)).1 = k2 at *
          generalize (ps.getD a (0, 0)).2 = x2 at *
          repeat' first | simp (maxSteps := 2000000) (disch := omega) only [go_sem, *, Try.results92, cmpS] | (first | apply xg1 | apply xc1 | apply xg2 | apply xc2 | apply xc3 | apply xc4 | apply xg3 | apply xg4) <;> intro _ | (first | apply xh1 | apply xh2 | apply xh3 | apply xh4) <;> intro _ | refine EvK_draw (id := 5) (L := w92_5) (by kernel_rfl) (by kernel_rfl) ?_ | refine EvK_draw (id := 11) (L := w92_11) (by kernel_rfl) (by kernel_rfl) ?_ | refine EvK_draw (id := 17) (L := w92_17) (by kernel_rfl) (by kernel_rfl) ?_ | refine EvK_draw (id := 23) (L := w92_23) (by kernel_rfl) (by kernel_rfl) ?_ | refine EvK_draw (id := 35) (L := w92_35) (by kernel_rfl) (by kernel_rfl) ?_
          refine ih (c - (a + 1)) _ _ _ (by omega) ⟨rfl, rfl, c, by omega, by omega, rfl, ?_⟩
          clear ih
          simp (maxSteps := 2000000) (disch := omega) only [go_sem, *]
        · obtain rfl : j = a + 1 := by omega
          have ea : ((a + 1 : Nat) : Int) - 1 = (a : Int) := by omega
          have eb : ¬ (a : Int) < (a : Int) := by omega
          clear ih
          repeat' first | simp (maxSteps := 2000000) (disch := omega) only [go_sem, *, Try.results92] | (first | apply xg1 | apply xc1 | apply xg2 | apply xc2 | apply xc3 | apply xc4 | apply xg3 | apply xg4) <;> intro _ | (first | apply xh1 | apply xh2 | apply xh3 | apply xh4) <;> intro _ | refine EvK_draw (id := 5) (L := w92_5) (by kernel_rfl) (by kernel_rfl) ?_ | refine EvK_draw (id := 11) (L := w92_11) (by kernel_rfl) (by kernel_rfl) ?_ | refine EvK_draw (id := 17) (L := w92_17) (by kernel_rfl) (by kernel_rfl) ?_ | refine EvK_draw (id := 23) (L := w92_23) (by kernel_rfl) (by kernel_rfl) ?_ | refine EvK_draw (id := 35) (L := w92_35) (by kernel_rfl) (by kernel_rfl) ?_
          rw [EvK_loop]
          repeat' first | simp (maxSteps := 2000000) (disch := omega) only [go_sem, *, Try.results92] | (first | apply xg1 | apply xc1 | apply xg2 | apply xc2 | apply xc3 | apply xc4 | apply xg3 | apply xg4) <;> intro _ | (first | apply xh1 | apply xh2 | apply xh3 | apply xh4) <;> intro _ | refine EvK_draw (id := 5) (L := w92_5) (by kernel_rfl) (by kernel_rfl) ?_ | refine EvK_draw (id := 11) (L := w92_11) (by kernel_rfl) (by kernel_rfl) ?_ | refine EvK_draw (id := 17) (L := w92_17) (by kernel_rfl) (by kernel_rfl) ?_ | refine EvK_draw (id := 23) (L := w92_23) (by kernel_rfl) (by kernel_rfl) ?_ | refine EvK_draw (id := 35) (L := w92_35) (by kernel_rfl) (by kernel_rfl) ?_
          rfl
    · by_cases cB : (b : Int) - m = 1
      · obtain rfl : b = m + 1 := by omega
        clear IH
        repeat' first | simp (maxSteps := 2000000) (disch := omega) only [go_sem, *, Try.results92] | (first | apply xg1 | apply xc1 | apply xg2 | apply xc2 | apply xc3 | apply xc4 | apply xg3 | apply xg4) <;> intro _ | (first | apply xh1 | apply xh2 | apply xh3 | apply xh4) <;> intro _ | refine EvK_draw (id := 5) (L := w92_5) (by kernel_rfl) (by kernel_rfl) ?_ | refine EvK_draw (id := 11) (L := w92_11) (by kernel_rfl) (by kernel_rfl) ?_ | refine EvK_draw (id := 17) (L := w92_17) (by kernel_rfl) (by kernel_rfl) ?_ | refine EvK_draw (id := 23) (L := w92_23) (by kernel_rfl) (by kernel_rfl) ?_ | refine EvK_draw (id := 35) (L := w92_35) (by kernel_rfl) (by kernel_rfl) ?_
        refine ind_loop (fun t s h' n' => h' = h ∧ n' = N ∧ ∃ j : Nat, a ≤ j ∧ j ≤ m ∧ t = m - j ∧ s.n = 220 ∧ s.dfs = [] ∧ s.get 0 = .slice (some ⟨g, 0, none⟩) ps.length cap ∧ s.get 1 = .int .i64 a ∧ s.get 2 = .int .i64 m ∧ s.get 4 = .func (.func 46) ⟨[]⟩ ⟨[]⟩ ∧ s.get 14 = .int .i64 j ∧ s.get 15 = .int .i64 m) (m - a) ?_ ?_
        · refine ⟨rfl, rfl, a, by omega, by omega, rfl, ?_⟩
          simp (maxSteps := 2000000) (disch := omega) only [go_sem, *]
        · rintro t s h' n' ih ⟨rfl, rfl, j, hj1, hj2, rfl, m1, m2, m3, m4, m5, m6, m7, m8⟩
          by_cases hlt : (j : Int) < m
          · obtain ⟨c, hc⟩ : ∃ c, (j + m) / 2 = c := ⟨_, rfl⟩
            have hfd : ((j : Int) + m).fdiv (2 ^ min 1 64) = ((c : Nat) : Int) := by
              rw [← hc]; exact fdiv_half (j + m)
            have hcl : c < ps.length ∧ j ≤ c ∧ c < m := by omega
            have e1 := prL_at ps m (by omega)
            have e2 := prL_at ps c (by omega)
            have hb1 : Nat.ble (m * 2 + 2) (ps.length * 2) = true := Nat.ble_eq_true_of_le (by omega)
            have hb2 : Nat.ble (c * 2 + 2) (ps.length * 2) = true := Nat.ble_eq_true_of_le (by omega)
            have hnn : ¬ cmpV (ps.getD m (0, 0)).1 (ps.getD c (0, 0)).1 < 0 := cmpV_nn (hasc c m (by omega) (by omega))
            generalize (ps.getD m (0, 0)).1 = k1 at *
            generalize (ps.getD m (0, 0)).2 = x1 at *
            generalize (ps.getD c (0, 0)).1 = k2 at *
            generalize (ps.getD c (0, 0)).2 = x2 at *
            repeat' first | simp (maxSteps := 2000000) (disch := omega) only [go_sem, *, Try.results92, cmpS] | (first | apply xg1 | apply xc1 | apply xg2 | apply xc2 | apply xc3 | apply xc4 | apply xg3 | apply xg4) <;> intro _ | (first | apply xh1 | apply xh2 | apply xh3 | apply xh4) <;> intro _ | refine EvK_draw (id := 5) (L := w92_5) (by kernel_rfl) (by kernel_rfl) ?_ | refine EvK_draw (id := 11) (L := w92_11) (by kernel_rfl) (by kernel_rfl) ?_ | refine EvK_draw (id := 17) (L := w92_17) (by kernel_rfl) (by kernel_rfl) ?_ | refine EvK_draw (id := 23) (L := w92_23) (by kernel_rfl) (by kernel_rfl) ?_ | refine EvK_draw (id := 35) (L := w92_35) (by kernel_rfl) (by kernel_rfl) ?_
            refine ih (m - (c + 1)) _ _ _ (by omega) ⟨rfl, rfl, c + 1, by omega, by omega, rfl, ?_⟩
            have ci : ((c + 1 : Nat) : Int) = (c : Int) + 1 := by omega
            rw [ci]
            clear ih
            simp (maxSteps := 2000000) (disch := omega) only [go_sem, *]
          · obtain rfl : j = m := by omega
            clear ih
            repeat' first | simp (maxSteps := 2000000) (disch := omega) only [go_sem, *, Try.results92] | (first | apply xg1 | apply xc1 | apply xg2 | apply xc2 | apply xc3 | apply xc4 | apply xg3 | apply xg4) <;> intro _ | (first | apply xh1 | apply xh2 | apply xh3 | apply xh4) <;> intro _ | refine EvK_draw (id := 5) (L := w92_5) (by kernel_rfl) (by kernel_rfl) ?_ | refine EvK_draw (id := 11) (L := w92_11) (by kernel_rfl) (by kernel_rfl) ?_ | refine EvK_draw (id := 17) (L := w92_17) (by kernel_rfl) (by kernel_rfl) ?_ | refine EvK_draw (id := 23) (L := w92_23) (by kernel_rfl) (by kernel_rfl) ?_ | refine EvK_draw (id := 35) (L := w92_35) (by kernel_rfl) (by kernel_rfl) ?_
            rw [EvK_loop]
            repeat' first | simp (maxSteps := 2000000) (disch := omega) only [go_sem, *, Try.results92] | (first | apply xg1 | apply xc1 | apply xg2 | apply xc2 | apply xc3 | apply xc4 | apply xg3 | apply xg4) <;> intro _ | (first | apply xh1 | apply xh2 | apply xh3 | apply xh4) <;> intro _ | refine EvK_draw (id := 5) (L := w92_5) (by kernel_rfl) (by kernel_rfl) ?_ | refine EvK_draw (id := 11) (L := w92_11) (by kernel_rfl) (by kernel_rfl) ?_ | refine EvK_draw (id := 17) (L := w92_17) (by kernel_rfl) (by kernel_rfl) ?_ | refine EvK_draw (id := 23) (L := w92_23) (by kernel_rfl) (by kernel_rfl) ?_ | refine EvK_draw (id := 35) (L := w92_35) (by kernel_rfl) (by kernel_rfl) ?_
            rfl
      · obtain ⟨mid, hmid⟩ : ∃ c, (a + b) / 2 = c := ⟨_, rfl⟩
        have hfd0 : ((a : Int) + b).fdiv (2 ^ min 1 64) = ((mid : Nat) : Int) := by
          rw [← hmid]; exact fdiv_half (a + b)
        obtain ⟨nn, hnn0⟩ : ∃ nn : Nat, (mid : Int) + m = nn := ⟨mid + m, by omega⟩
        obtain ⟨pp, hpp⟩ : ∃ pp : Nat, (nn : Int) - 1 = pp := ⟨nn - 1, by omega⟩
        have hself : ∀ x : Nat, ¬ (x : Int) < (x : Int) := fun x => by omega
        by_cases cm : (mid : Int) < m
        · obtain ⟨st, hst⟩ : ∃ st : Nat, (nn : Int) - b = st := ⟨nn - b, by omega⟩
          have hee : (nn : Int) - mid = m := by omega
          repeat' first | simp (maxSteps := 2000000) (disch := omega) only [go_sem, *, Try.results92] | (first | apply xg1 | apply xc1 | apply xg2 | apply xc2 | apply xc3 | apply xc4 | apply xg3 | apply xg4) <;> intro _ | (first | apply xh1 | apply xh2 | apply xh3 | apply xh4) <;> intro _ | refine EvK_draw (id := 5) (L := w92_5) (by kernel_rfl) (by kernel_rfl) ?_ | refine EvK_draw (id := 11) (L := w92_11) (by kernel_rfl) (by kernel_rfl) ?_ | refine EvK_draw (id := 17) (L := w92_17) (by kernel_rfl) (by kernel_rfl) ?_ | refine EvK_draw (id := 23) (L := w92_23) (by kernel_rfl) (by kernel_rfl) ?_ | refine EvK_draw (id := 35) (L := w92_35) (by kernel_rfl) (by kernel_rfl) ?_
          refine ind_loop (fun t s h' n' => h' = h ∧ n' = N ∧ ∃ j : Nat, st ≤ j ∧ j ≤ mid ∧ t = mid - j ∧ s.n = 220 ∧ s.dfs = [] ∧ s.get 0 = .slice (some ⟨g, 0, none⟩) ps.length cap ∧ s.get 1 = .int .i64 a ∧ s.get 2 = .int .i64 m ∧ s.get 3 = .int .i64 b ∧ s.get 4 = .func (.func 46) ⟨[]⟩ ⟨[]⟩ ∧ s.get 18 = .int .i64 mid ∧ s.get 19 = .int .i64 nn ∧ s.get 20 = .int .i64 j ∧ s.get 21 = .int .i64 mid ∧ s.get 22 = .int .i64 pp) (mid - st) ?_ ?_
          · refine ⟨rfl, rfl, st, by omega, by omega, rfl, ?_⟩
            clear IH
            simp (maxSteps := 2000000) (disch := omega) only [go_sem, *]
          · rintro t s h' n' ih ⟨rfl, rfl, j, hj1, hj2, rfl, m1, m2, m3, m4, m5, m6, m7, m8, m9, m10, m11, m12⟩
            by_cases hlt : (j : Int) < mid
            · obtain ⟨c, hc⟩ : ∃ c, (j + mid) / 2 = c := ⟨_, rfl⟩
              have hfd : ((j : Int) + mid).fdiv (2 ^ min 1 64) = ((c : Nat) : Int) := by
                rw [← hc]; exact fdiv_half (j + mid)
              have hcl : j ≤ c ∧ c < mid := by omega
              obtain ⟨d, hd⟩ : ∃ d : Nat, (pp : Int) - c = d := ⟨pp - c, by omega⟩
              have hdl : c ≤ d ∧ d < ps.length := by omega
              clear IH
              have e1 := prL_at ps d (by omega)
              have e2 := prL_at ps c (by omega)
              have hb1 : Nat.ble (d * 2 + 2) (ps.length * 2) = true := Nat.ble_eq_true_of_le (by omega)
              have hb2 : Nat.ble (c * 2 + 2) (ps.length * 2) = true := Nat.ble_eq_true_of_le (by omega)
              have hnn : ¬ cmpV (ps.getD d (0, 0)).1 (ps.getD c (0, 0)).1 < 0 := cmpV_nn (hasc c d (by omega) (by omega))
              generalize (ps.getD d (0, 0)).1 = k1 at *
              generalize (ps.getD d (0, 0)).2 = x1 at *
              generalize (ps.getD c (0, 0)).1 = k2 at *
              generalize (ps.getD c (0, 0)).2 = x2 at *
              repeat' first | simp (maxSteps := 2000000) (disch := omega) only [go_sem, *, Try.results92, cmpS] | (first | apply xg1 | apply xc1 | apply xg2 | apply xc2 | apply xc3 | apply xc4 | apply xg3 | apply xg4) <;> intro _ | (first | apply xh1 | apply xh2 | apply xh3 | apply xh4) <;> intro _ | refine EvK_draw (id := 5) (L := w92_5) (by kernel_rfl) (by kernel_rfl) ?_ | refine EvK_draw (id := 11) (L := w92_11) (by kernel_rfl) (by kernel_rfl) ?_ | refine EvK_draw (id := 17) (L := w92_17) (by kernel_rfl) (by kernel_rfl) ?_ | refine EvK_draw (id := 23) (L := w92_23) (by kernel_rfl) (by kernel_rfl) ?_ | refine EvK_draw (id := 35) (L := w92_35) (by kernel_rfl) (by kernel_rfl) ?_
              refine ih (mid - (c + 1)) _ _ _ (by omega) ⟨rfl, rfl, c + 1, by omega, by omega, rfl, ?_⟩
              have ci : ((c + 1 : Nat) : Int) = (c : Int) + 1 := by omega
              rw [ci]
              clear ih
              simp (maxSteps := 2000000) (disch := omega) only [go_sem, *]
            · obtain rfl : mid = j := by omega
              clear ih
              have IH1 := IH mid m b (by omega) (by omega) h2 h4
              have hmb : (m : Int) < b := by omega
              have ham : (a : Int) < mid := by omega
              clear IH
              repeat' first | simp (maxSteps := 2000000) (disch := omega) only [go_sem, *, Try.results92] | (first | apply xg1 | apply xc1 | apply xg2 | apply xc2 | apply xc3 | apply xc4 | apply xg3 | apply xg4) <;> intro _ | (first | apply xh1 | apply xh2 | apply xh3 | apply xh4) <;> intro _ | refine EvK_draw (id := 5) (L := w92_5) (by kernel_rfl) (by kernel_rfl) ?_ | refine EvK_draw (id := 11) (L := w92_11) (by kernel_rfl) (by kernel_rfl) ?_ | refine EvK_draw (id := 17) (L := w92_17) (by kernel_rfl) (by kernel_rfl) ?_ | refine EvK_draw (id := 23) (L := w92_23) (by kernel_rfl) (by kernel_rfl) ?_ | refine EvK_draw (id := 35) (L := w92_35) (by kernel_rfl) (by kernel_rfl) ?_
              refine EvQ_call ?_ ?_ (by rw [hP, hO]; exact IH1) ?_
              · simp (maxSteps := 2000000) (disch := omega) only [go_sem, *]
              · simp (maxSteps := 2000000) (disch := omega) only [go_sem, *]
              rintro v h2' n2 ⟨rfl, hh, hn⟩
              subst hh hn
              repeat' first | simp (maxSteps := 2000000) (disch := omega) only [go_sem, *, Try.results92] | (first | apply xg1 | apply xc1 | apply xg2 | apply xc2 | apply xc3 | apply xc4 | apply xg3 | apply xg4) <;> intro _ | (first | apply xh1 | apply xh2 | apply xh3 | apply xh4) <;> intro _ | refine EvK_draw (id := 5) (L := w92_5) (by kernel_rfl) (by kernel_rfl) ?_ | refine EvK_draw (id := 11) (L := w92_11) (by kernel_rfl) (by kernel_rfl) ?_ | refine EvK_draw (id := 17) (L := w92_17) (by kernel_rfl) (by kernel_rfl) ?_ | refine EvK_draw (id := 23) (L := w92_23) (by kernel_rfl) (by kernel_rfl) ?_ | refine EvK_draw (id := 35) (L := w92_35) (by kernel_rfl) (by kernel_rfl) ?_
              rfl
        · have hee : (nn : Int) - m = mid := by omega
          repeat' first | simp (maxSteps := 2000000) (disch := omega) only [go_sem, *, Try.results92] | (first | apply xg1 | apply xc1 | apply xg2 | apply xc2 | apply xc3 | apply xc4 | apply xg3 | apply xg4) <;> intro _ | (first | apply xh1 | apply xh2 | apply xh3 | apply xh4) <;> intro _ | refine EvK_draw (id := 5) (L := w92_5) (by kernel_rfl) (by kernel_rfl) ?_ | refine EvK_draw (id := 11) (L := w92_11) (by kernel_rfl) (by kernel_rfl) ?_ | refine EvK_draw (id := 17) (L := w92_17) (by kernel_rfl) (by kernel_rfl) ?_ | refine EvK_draw (id := 23) (L := w92_23) (by kernel_rfl) (by kernel_rfl) ?_ | refine EvK_draw (id := 35) (L := w92_35) (by kernel_rfl) (by kernel_rfl) ?_
          refine ind_loop (fun t s h' n' => h' = h ∧ n' = N ∧ ∃ j : Nat, a ≤ j ∧ j ≤ m ∧ t = m - j ∧ s.n = 220 ∧ s.dfs = [] ∧ s.get 0 = .slice (some ⟨g, 0, none⟩) ps.length cap ∧ s.get 1 = .int .i64 a ∧ s.get 2 = .int .i64 m ∧ s.get 3 = .int .i64 b ∧ s.get 4 = .func (.func 46) ⟨[]⟩ ⟨[]⟩ ∧ s.get 18 = .int .i64 mid ∧ s.get 19 = .int .i64 nn ∧ s.get 20 = .int .i64 j ∧ s.get 21 = .int .i64 m ∧ s.get 22 = .int .i64 pp) (m - a) ?_ ?_
          · refine ⟨rfl, rfl, a, by omega, by omega, rfl, ?_⟩
            clear IH
            simp (maxSteps := 2000000) (disch := omega) only [go_sem, *]
          · rintro t s h' n' ih ⟨rfl, rfl, j, hj1, hj2, rfl, m1, m2, m3, m4, m5, m6, m7, m8, m9, m10, m11, m12⟩
            by_cases hlt : (j : Int) < m
            · obtain ⟨c, hc⟩ : ∃ c, (j + m) / 2 = c := ⟨_, rfl⟩
              have hfd : ((j : Int) + m).fdiv (2 ^ min 1 64) = ((c : Nat) : Int) := by
                rw [← hc]; exact fdiv_half (j + m)
              have hcl : j ≤ c ∧ c < m := by omega
              obtain ⟨d, hd⟩ : ∃ d : Nat, (pp : Int) - c = d := ⟨pp - c, by omega⟩
              have hdl : c ≤ d ∧ d < ps.length := by omega
              clear IH
              have e1 := prL_at ps d (by omega)
              have e2 := prL_at ps c (by omega)
              have hb1 : Nat.ble (d * 2 + 2) (ps.length * 2) = true := Nat.ble_eq_true_of_le (by omega)
              have hb2 : Nat.ble (c * 2 + 2) (ps.length * 2) = true := Nat.ble_eq_true_of_le (by omega)
              have hnn : ¬ cmpV (ps.getD d (0, 0)).1 (ps.getD c (0, 0)).1 < 0 := cmpV_nn (hasc c d (by omega) (by omega))
              generalize (ps.getD d (0, 0)).1 = k1 at *
              generalize (ps.getD d (0, 0)).2 = x1 at *
              generalize (ps.getD c (0, 0)).1 = k2 at *
              generalize (ps.getD c (0, 0)).2 = x2 at *
              repeat' first | simp (maxSteps := 2000000) (disch := omega) only [go_sem, *, Try.results92, cmpS] | (first | apply xg1 | apply xc1 | apply xg2 | apply xc2 | apply xc3 | apply xc4 | apply xg3 | apply xg4) <;> intro _ | (first | apply xh1 | apply xh2 | apply xh3 | apply xh4) <;> intro _ | refine EvK_draw (id := 5) (L := w92_5) (by kernel_rfl) (by kernel_rfl) ?_ | refine EvK_draw (id := 11) (L := w92_11) (by kernel_rfl) (by kernel_rfl) ?_ | refine EvK_draw (id := 17) (L := w92_17) (by kernel_rfl) (by kernel_rfl) ?_ | refine EvK_draw (id := 23) (L := w92_23) (by kernel_rfl) (by kernel_rfl) ?_ | refine EvK_draw (id := 35) (L := w92_35) (by kernel_rfl) (by kernel_rfl) ?_
              refine ih (m - (c + 1)) _ _ _ (by omega) ⟨rfl, rfl, c + 1, by omega, by omega, rfl, ?_⟩
              have ci : ((c + 1 : Nat) : Int) = (c : Int) + 1 := by omega
              rw [ci]
              clear ih
              simp (maxSteps := 2000000) (disch := omega) only [go_sem, *]
            · obtain rfl : m = j := by omega
              clear ih
              have ham : (a : Int) < m := by omega
              by_cases cmm : (m : Int) < mid
              · have IH1 := IH a m mid (by omega) h1 (by omega) (by omega)
                clear IH
                repeat' first | simp (maxSteps := 2000000) (disch := omega) only [go_sem, *, Try.results92] | (first | apply xg1 | apply xc1 | apply xg2 | apply xc2 | apply xc3 | apply xc4 | apply xg3 | apply xg4) <;> intro _ | (first | apply xh1 | apply xh2 | apply xh3 | apply xh4) <;> intro _ | refine EvK_draw (id := 5) (L := w92_5) (by kernel_rfl) (by kernel_rfl) ?_ | refine EvK_draw (id := 11) (L := w92_11) (by kernel_rfl) (by kernel_rfl) ?_ | refine EvK_draw (id := 17) (L := w92_17) (by kernel_rfl) (by kernel_rfl) ?_ | refine EvK_draw (id := 23) (L := w92_23) (by kernel_rfl) (by kernel_rfl) ?_ | refine EvK_draw (id := 35) (L := w92_35) (by kernel_rfl) (by kernel_rfl) ?_
                refine EvQ_call ?_ ?_ (by rw [hP, hO]; exact IH1) ?_
                · simp (maxSteps := 2000000) (disch := omega) only [go_sem, *]
                · simp (maxSteps := 2000000) (disch := omega) only [go_sem, *]
                rintro v h2' n2 ⟨rfl, hh, hn⟩
                subst hh hn
                repeat' first | simp (maxSteps := 2000000) (disch := omega) only [go_sem, *, Try.results92] | (first | apply xg1 | apply xc1 | apply xg2 | apply xc2 | apply xc3 | apply xc4 | apply xg3 | apply xg4) <;> intro _ | (first | apply xh1 | apply xh2 | apply xh3 | apply xh4) <;> intro _ | refine EvK_draw (id := 5) (L := w92_5) (by kernel_rfl) (by kernel_rfl) ?_ | refine EvK_draw (id := 11) (L := w92_11) (by kernel_rfl) (by kernel_rfl) ?_ | refine EvK_draw (id := 17) (L := w92_17) (by kernel_rfl) (by kernel_rfl) ?_ | refine EvK_draw (id := 23) (L := w92_23) (by kernel_rfl) (by kernel_rfl) ?_ | refine EvK_draw (id := 35) (L := w92_35) (by kernel_rfl) (by kernel_rfl) ?_
                rfl
              · clear IH
                repeat' first | simp (maxSteps := 2000000) (disch := omega) only [go_sem, *, Try.results92] | (first | apply xg1 | apply xc1 | apply xg2 | apply xc2 | apply xc3 | apply xc4 | apply xg3 | apply xg4) <;> intro _ | (first | apply xh1 | apply xh2 | apply xh3 | apply xh4) <;> intro _ | refine EvK_draw (id := 5) (L := w92_5) (by kernel_rfl) (by kernel_rfl) ?_ | refine EvK_draw (id := 11) (L := w92_11) (by kernel_rfl) (by kernel_rfl) ?_ | refine EvK_draw (id := 17) (L := w92_17) (by kernel_rfl) (by kernel_rfl) ?_ | refine EvK_draw (id := 23) (L := w92_23) (by kernel_rfl) (by kernel_rfl) ?_ | refine EvK_draw (id := 35) (L := w92_35) (by kernel_rfl) (by kernel_rfl) ?_
                rfl
end Go.Proofs.Ytapcgfakefmemaa

set_option linter.unusedVariables false
set_option linter.unusedSimpArgs false
namespace Go.Proofs.Ytapcgfakefmemaa
open Go.Am

set_option maxRecDepth 100000 in
set_option maxHeartbeats 8000000 in
theorem stableB {O : Over} (o46 : O 46 = cmpS) (o92 : O 92 = fun _ => none) (o91 : O 91 = fun _ => none) (g cap : Nat) (ps : List (Int × Int)) (ro : Bool) (h : PT ABlk) (N : Nat) (hb : h.get g = some (.cells (PT.ofList .leaf 0 (prL ps)) ro)) (hasc : AscP ps) (h3 : ps.length ≤ 100000) :
    EvB Try.prog O 78 [.slice (some ⟨g, 0, none⟩) ps.length cap, .int .i64 ps.length, .func (.func 46) ⟨[]⟩ ⟨[]⟩] h N fun v h' n' => v = .tuple ⟨[]⟩ ∧ h' = h ∧ n' = N := by
  have IM := symMergeB o46 o92 g cap ps ro h N hb hasc h3
  have II := fun a b h1 h2 => insertionB o46 g ps.length cap ps ro a b h N hb rfl hasc h1 h2 h3
  clear hasc hb
  refine EvB_run (N := 63) Try.func78 rfl rfl fun z hP hO hro hN hQ => ?_
  repeat' first | simp (maxSteps := 2000000) (disch := omega) only [go_sem, *, Try.results78] | (first | apply xg1 | apply xc1 | apply xg2 | apply xc2 | apply xc3 | apply xc4 | apply xg3 | apply xg4) <;> intro _
  refine ind_loop (fun t m h' n' => h' = h ∧ n' = N ∧ ∃ a : Nat, a ≤ ps.length ∧ t = ps.length - a ∧ m.n = 63 ∧ m.dfs = [] ∧ m.get 0 = .slice (some ⟨g, 0, none⟩) ps.length cap ∧ m.get 1 = .int .i64 ps.length ∧ m.get 2 = .func (.func 46) ⟨[]⟩ ⟨[]⟩ ∧ m.get 6 = .int .i64 20 ∧ m.get 7 = .int .i64 a ∧ m.get 8 = .int .i64 ((a : Int) + 20)) ps.length ?_ ?_
  · refine ⟨rfl, rfl, 0, by omega, rfl, ?_⟩
    clear IM II
    simp (maxSteps := 2000000) (disch := omega) only [go_sem, *]
  · rintro t m h' n' ih ⟨rfl, rfl, a, ha, rfl, m1, m2, m3, m4, m5, m6, m7, m8⟩
    by_cases c1 : (a : Int) + 20 ≤ ps.length
    · have II1 := II a (a + 20) (by omega) (by omega)
      have ca : ((a + 20 : Nat) : Int) = (a : Int) + 20 := by omega
      rw [ca] at II1
      clear IM II
      repeat' first | simp (maxSteps := 2000000) (disch := omega) only [go_sem, *, Try.results78] | (first | apply xg1 | apply xc1 | apply xg2 | apply xc2 | apply xc3 | apply xc4 | apply xg3 | apply xg4) <;> intro _
      refine EvQ_call ?_ ?_ (by rw [hP, hO]; exact II1) ?_
      · simp (maxSteps := 2000000) (disch := omega) only [go_sem, *]
      · simp (maxSteps := 2000000) (disch := omega) only [go_sem, *]
      rintro v h2' n2 ⟨rfl, hh, hn⟩
      subst hh hn
      repeat' first | simp (maxSteps := 2000000) (disch := omega) only [go_sem, *, Try.results78] | (first | apply xg1 | apply xc1 | apply xg2 | apply xc2 | apply xc3 | apply xc4 | apply xg3 | apply xg4) <;> intro _
      refine ih (ps.length - (a + 20)) _ _ _ (by omega) ⟨rfl, rfl, a + 20, by omega, rfl, ?_⟩
      rw [ca]
      clear ih
      simp (maxSteps := 2000000) (disch := omega) only [go_sem, *]
    · have II1 := II a ps.length (by omega) (Nat.le_refl _)
      clear II ih
      repeat' first | simp (maxSteps := 2000000) (disch := omega) only [go_sem, *, Try.results78] | (first | apply xg1 | apply xc1 | apply xg2 | apply xc2 | apply xc3 | apply xc4 | apply xg3 | apply xg4) <;> intro _
      refine EvQ_call ?_ ?_ (by rw [hP, hO]; exact II1) ?_
      · simp (maxSteps := 2000000) (disch := omega) only [go_sem, *]
      · simp (maxSteps := 2000000) (disch := omega) only [go_sem, *]
      rintro v h2' n2 ⟨rfl, hh, hn⟩
      subst hh hn
      clear II1
      repeat' first | simp (maxSteps := 2000000) (disch := omega) only [go_sem, *, Try.results78] | (first | apply xg1 | apply xc1 | apply xg2 | apply xc2 | apply xc3 | apply xc4 | apply xg3 | apply xg4) <;> intro _
      refine ind_loop (fun t m hx nx => hx = h2' ∧ nx = n2 ∧ ∃ bs : Nat, 1 ≤ bs ∧ bs ≤ 400000 ∧ t = ps.length - bs ∧ m.n = 63 ∧ m.dfs = [] ∧ m.get 0 = .slice (some ⟨g, 0, none⟩) ps.length cap ∧ m.get 1 = .int .i64 ps.length ∧ m.get 2 = .func (.func 46) ⟨[]⟩ ⟨[]⟩ ∧ m.get 6 = .int .i64 bs) (ps.length - 20) ?_ ?_
      · refine ⟨rfl, rfl, 20, by omega, by omega, rfl, ?_⟩
        have c20 : ((20 : Nat) : Int) = 20 := rfl
        clear IM
        simp (maxSteps := 2000000) (disch := omega) only [go_sem, *]
      · clear m1 m2 m3 m4 m5 m6 m7 m8 m
        rintro t m h' n' ih ⟨hh, hn, bs, hb1, hb2, rfl, m1, m2, m3, m4, m5, m6⟩
        subst hh hn
        by_cases c2 : (bs : Int) < ps.length
        · repeat' first | simp (maxSteps := 2000000) (disch := omega) only [go_sem, *, Try.results78] | (first | apply xg1 | apply xc1 | apply xg2 | apply xc2 | apply xc3 | apply xc4 | apply xg3 | apply xg4) <;> intro _
          refine ind_loop (fun t m hx nx => hx = h' ∧ nx = n' ∧ ∃ a : Nat, a ≤ ps.length ∧ t = ps.length - a ∧ m.n = 63 ∧ m.dfs = [] ∧ m.get 0 = .slice (some ⟨g, 0, none⟩) ps.length cap ∧ m.get 1 = .int .i64 ps.length ∧ m.get 2 = .func (.func 46) ⟨[]⟩ ⟨[]⟩ ∧ m.get 6 = .int .i64 bs ∧ m.get 7 = .int .i64 a ∧ m.get 8 = .int .i64 ((a : Int) + 2 * bs)) ps.length ?_ ?_
          · refine ⟨rfl, rfl, 0, by omega, rfl, ?_⟩
            have c0 : ((0 : Nat) : Int) + 2 * (bs : Int) = 2 * (bs : Int) := by omega
            rw [c0]
            clear IM ih
            simp (maxSteps := 2000000) (disch := omega) only [go_sem, *]
          · clear m1 m2 m3 m4 m5 m6 m
            rintro t m h' n' ih2 ⟨hh, hn, a, ha, rfl, m1, m2, m3, m4, m5, m6, m7, m8⟩
            subst hh hn
            by_cases c3 : (a : Int) + 2 * bs ≤ ps.length
            · have IM1 := IM (a + 2 * bs - a) a (a + bs) (a + 2 * bs) (Nat.le_refl _) (by omega) (by omega) (by omega)
              have ca : ((a + 2 * bs : Nat) : Int) = (a : Int) + 2 * bs := by omega
              have cb : ((a + bs : Nat) : Int) = (a : Int) + bs := by omega
              rw [ca, cb] at IM1
              clear IM ih
              repeat' first | simp (maxSteps := 2000000) (disch := omega) only [go_sem, *, Try.results78] | (first | apply xg1 | apply xc1 | apply xg2 | apply xc2 | apply xc3 | apply xc4 | apply xg3 | apply xg4) <;> intro _
              refine EvQ_call ?_ ?_ (by rw [hP, hO]; exact IM1) ?_
              · simp (maxSteps := 2000000) (disch := omega) only [go_sem, *]
              · simp (maxSteps := 2000000) (disch := omega) only [go_sem, *]
              rintro v h2 n3 ⟨rfl, hh, hn⟩
              subst hh hn
              repeat' first | simp (maxSteps := 2000000) (disch := omega) only [go_sem, *, Try.results78] | (first | apply xg1 | apply xc1 | apply xg2 | apply xc2 | apply xc3 | apply xc4 | apply xg3 | apply xg4) <;> intro _
              refine ih2 (ps.length - (a + 2 * bs)) _ _ _ (by omega) ⟨rfl, rfl, a + 2 * bs, by omega, rfl, ?_⟩
              rw [ca]
              clear ih2
              simp (maxSteps := 2000000) (disch := omega) only [go_sem, *]
            · clear ih2
              by_cases c4 : (a : Int) + bs < ps.length
              · have IM1 := IM (ps.length - a) a (a + bs) ps.length (Nat.le_refl _) (by omega) (by omega) (Nat.le_refl _)
                have cb : ((a + bs : Nat) : Int) = (a : Int) + bs := by omega
                rw [cb] at IM1
                clear IM
                repeat' first | simp (maxSteps := 2000000) (disch := omega) only [go_sem, *, Try.results78] | (first | apply xg1 | apply xc1 | apply xg2 | apply xc2 | apply xc3 | apply xc4 | apply xg3 | apply xg4) <;> intro _
                refine EvQ_call ?_ ?_ (by rw [hP, hO]; exact IM1) ?_
                · simp (maxSteps := 2000000) (disch := omega) only [go_sem, *]
                · simp (maxSteps := 2000000) (disch := omega) only [go_sem, *]
                rintro v h2 n3 ⟨rfl, hh, hn⟩
                subst hh hn
                repeat' first | simp (maxSteps := 2000000) (disch := omega) only [go_sem, *, Try.results78] | (first | apply xg1 | apply xc1 | apply xg2 | apply xc2 | apply xc3 | apply xc4 | apply xg3 | apply xg4) <;> intro _
                refine ih (ps.length - bs * 2) _ _ _ (by omega) ⟨rfl, rfl, bs * 2, by omega, by omega, rfl, ?_⟩
                have cc : ((bs * 2 : Nat) : Int) = (bs : Int) * 2 := by omega
                rw [cc]
                clear ih
                simp (maxSteps := 2000000) (disch := omega) only [go_sem, *]
              · clear IM
                repeat' first | simp (maxSteps := 2000000) (disch := omega) only [go_sem, *, Try.results78] | (first | apply xg1 | apply xc1 | apply xg2 | apply xc2 | apply xc3 | apply xc4 | apply xg3 | apply xg4) <;> intro _
                refine ih (ps.length - bs * 2) _ _ _ (by omega) ⟨rfl, rfl, bs * 2, by omega, by omega, rfl, ?_⟩
                have cc : ((bs * 2 : Nat) : Int) = (bs : Int) * 2 := by omega
                rw [cc]
                clear ih
                simp (maxSteps := 2000000) (disch := omega) only [go_sem, *]
        · clear ih IM
          repeat' first | simp (maxSteps := 2000000) (disch := omega) only [go_sem, *, Try.results78] | (first | apply xg1 | apply xc1 | apply xg2 | apply xc2 | apply xc3 | apply xc4 | apply xg3 | apply xg4) <;> intro _
          rfl
end Go.Proofs.Ytapcgfakefmemaa

set_option linter.unusedVariables false
set_option linter.unusedSimpArgs false
namespace Go.Proofs.Ytapcgfakefmemaa
open Go.Am

theorem insertionNil {O : Over} (h : PT ABlk) (N : Nat) : EvB Try.prog O 91 [.slice none 0 0, .int .i64 0, .int .i64 0, .func (.func 46) ⟨[]⟩ ⟨[]⟩] h N fun v h' n' => v = .tuple ⟨[]⟩ ∧ h' = h ∧ n' = N := by
  refine EvB_run (N := 53) Try.func91 rfl rfl fun z hP hO hro hN hQ => ?_
  repeat' first | simp (maxSteps := 2000000) (disch := omega) only [go_sem, *, Try.results91] | (first | apply xg1 | apply xc1 | apply xg2 | apply xc2 | apply xc3 | apply xc4 | apply xg3 | apply xg4) <;> intro _ | (first | apply xh1 | apply xh2 | apply xh3 | apply xh4) <;> intro _ | refine EvK_draw (id := 4) (L := w91_4) (by kernel_rfl) (by kernel_rfl) ?_ | refine EvK_draw (id := 6) (L := w91_6) (by kernel_rfl) (by kernel_rfl) ?_
  rw [EvK_loop]
  repeat' first | simp (maxSteps := 2000000) (disch := omega) only [go_sem, *, Try.results91] | (first | apply xg1 | apply xc1 | apply xg2 | apply xc2 | apply xc3 | apply xc4 | apply xg3 | apply xg4) <;> intro _ | (first | apply xh1 | apply xh2 | apply xh3 | apply xh4) <;> intro _ | refine EvK_draw (id := 4) (L := w91_4) (by kernel_rfl) (by kernel_rfl) ?_ | refine EvK_draw (id := 6) (L := w91_6) (by kernel_rfl) (by kernel_rfl) ?_
  rfl
theorem stableNil {O : Over} (o91 : O 91 = fun _ => none) (h : PT ABlk) (N : Nat) : EvB Try.prog O 78 [.slice none 0 0, .int .i64 0, .func (.func 46) ⟨[]⟩ ⟨[]⟩] h N fun v h' n' => v = .tuple ⟨[]⟩ ∧ h' = h ∧ n' = N := by
  refine EvB_run (N := 63) Try.func78 rfl rfl fun z hP hO hro hN hQ => ?_
  repeat' first | simp (maxSteps := 2000000) (disch := omega) only [go_sem, *, Try.results78] | (first | apply xg1 | apply xc1 | apply xg2 | apply xc2 | apply xc3 | apply xc4 | apply xg3 | apply xg4) <;> intro _
  rw [EvK_loop]
  repeat' first | simp (maxSteps := 2000000) (disch := omega) only [go_sem, *, Try.results78] | (first | apply xg1 | apply xc1 | apply xg2 | apply xc2 | apply xc3 | apply xc4 | apply xg3 | apply xg4) <;> intro _
  refine EvQ_call ?_ ?_ (by rw [hP, hO]; exact insertionNil _ _) ?_
  · simp (maxSteps := 2000000) (disch := omega) only [go_sem, *]
  · simp (maxSteps := 2000000) (disch := omega) only [go_sem, *]
  rintro v h2 n2 ⟨rfl, hh, hn⟩
  subst hh hn
  repeat' first | simp (maxSteps := 2000000) (disch := omega) only [go_sem, *, Try.results78] | (first | apply xg1 | apply xc1 | apply xg2 | apply xc2 | apply xc3 | apply xc4 | apply xg3 | apply xg4) <;> intro _
  rw [EvK_loop]
  repeat' first | simp (maxSteps := 2000000) (disch := omega) only [go_sem, *, Try.results78] | (first | apply xg1 | apply xc1 | apply xg2 | apply xc2 | apply xc3 | apply xc4 | apply xg3 | apply xg4) <;> intro _
  rfl
theorem sortNilB {O : Over} (o91 : O 91 = fun _ => none) (o78 : O 78 = fun _ => none) (h : PT ABlk) (N : Nat) : EvB Try.prog O 45 [.slice none 0 0, .func (.func 46) ⟨[]⟩ ⟨[]⟩] h N fun v h' n' => v = .tuple ⟨[]⟩ ∧ h' = h ∧ n' = N := by
  refine EvB_run (N := 9) Try.func45 rfl rfl fun z hP hO hro hN hQ => ?_
  repeat' first | simp (maxSteps := 2000000) (disch := omega) only [go_sem, *, Try.results45, cast_zero_int] | (first | apply xg1 | apply xc1 | apply xg2 | apply xc2 | apply xc3 | apply xc4 | apply xg3 | apply xg4) <;> intro _
  refine EvQ_call ?_ ?_ (by rw [hP, hO]; exact stableNil o91 _ _) ?_
  · simp (maxSteps := 2000000) (disch := omega) only [go_sem, *]
  · simp (maxSteps := 2000000) (disch := omega) only [go_sem, *]
  rintro v h2 n2 ⟨rfl, hh, hn⟩
  subst hh hn
  repeat' first | simp (maxSteps := 2000000) (disch := omega) only [go_sem, *, Try.results45] | (first | apply xg1 | apply xc1 | apply xg2 | apply xc2 | apply xc3 | apply xc4 | apply xg3 | apply xg4) <;> intro _
  rfl
theorem sortB {O : Over} (o46 : O 46 = cmpS) (o92 : O 92 = fun _ => none) (o91 : O 91 = fun _ => none) (o78 : O 78 = fun _ => none) (g cap : Nat) (ps : List (Int × Int)) (ro : Bool) (h : PT ABlk) (N : Nat) (hb : h.get g = some (.cells (PT.ofList .leaf 0 (prL ps)) ro)) (hasc : AscP ps) (h3 : ps.length ≤ 100000) :
    EvB Try.prog O 45 [.slice (some ⟨g, 0, none⟩) ps.length cap, .func (.func 46) ⟨[]⟩ ⟨[]⟩] h N fun v h' n' => v = .tuple ⟨[]⟩ ∧ h' = h ∧ n' = N := by
  have hs := stableB o46 o92 o91 g cap ps ro h N hb hasc h3
  refine EvB_run (N := 9) Try.func45 rfl rfl fun z hP hO hro hN hQ => ?_
  repeat' first | simp (maxSteps := 2000000) (disch := omega) only [go_sem, *, Try.results45] | (first | apply xg1 | apply xc1 | apply xg2 | apply xc2 | apply xc3 | apply xc4 | apply xg3 | apply xg4) <;> intro _
  refine EvQ_call ?_ ?_ (by rw [hP, hO]; exact hs) ?_
  · simp (maxSteps := 2000000) (disch := omega) only [go_sem, *]
  · simp (maxSteps := 2000000) (disch := omega) only [go_sem, *]
  rintro v h2 n2 ⟨rfl, hh, hn⟩
  subst hh hn
  repeat' first | simp (maxSteps := 2000000) (disch := omega) only [go_sem, *, Try.results45] | (first | apply xg1 | apply xc1 | apply xg2 | apply xc2 | apply xc3 | apply xc4 | apply xg3 | apply xg4) <;> intro _
  rfl
/-- Strictly ascending. -/
def IncP (ps : List (Int × Int)) : Prop := ∀ i j, i < j → j < ps.length → key ps i < key ps j
theorem IncP.asc {ps : List (Int × Int)} (h : IncP ps) : AscP ps := fun i j hij hj => by
  rcases Nat.lt_or_ge i j with q | q
  · have := h i j q hj; omega
  · obtain rfl : i = j := by omega
    exact Int.le_refl _
theorem compactNil {O : Over} (h : PT ABlk) (N : Nat) : EvB Try.prog O 48 [.slice none 0 0, .func (.func 49) ⟨[]⟩ ⟨[]⟩] h N fun v h' n' => v = .slice none 0 0 ∧ h' = h ∧ n' = N := by
  refine EvB_run (N := 66) Try.func48 rfl rfl fun z hP hO hro hN hQ => ?_
  repeat' first | simp (maxSteps := 2000000) (disch := omega) only [go_sem, *, Try.results48] | (first | apply xg1 | apply xc1 | apply xg2 | apply xc2 | apply xc3 | apply xc4 | apply xg3 | apply xg4) <;> intro _ | (first | apply xh1 | apply xh2 | apply xh3 | apply xh4) <;> intro _ | refine EvK_draw (id := 6) (L := w48_6) (by kernel_rfl) (by kernel_rfl) ?_ | refine EvK_draw (id := 11) (L := w48_11) (by kernel_rfl) (by kernel_rfl) ?_
set_option maxRecDepth 100000 in
set_option maxHeartbeats 4000000 in
theorem compactB {O : Over} (o49 : O 49 = samS) (g cap : Nat) (ps : List (Int × Int)) (ro : Bool) (h : PT ABlk) (N : Nat) (hb : h.get g = some (.cells (PT.ofList .leaf 0 (prL ps)) ro)) (hinc : IncP ps) (h3 : ps.length ≤ 100000) :
    EvB Try.prog O 48 [.slice (some ⟨g, 0, none⟩) ps.length cap, .func (.func 49) ⟨[]⟩ ⟨[]⟩] h N fun v h' n' => v = .slice (some ⟨g, 0, none⟩) ps.length cap ∧ h' = h ∧ n' = N := by
  have hll := prL_length ps
  refine EvB_run (N := 66) Try.func48 rfl rfl fun z hP hO hro hN hQ => ?_
  by_cases c0 : (ps.length : Int) < 2
  · repeat' first | simp (maxSteps := 2000000) (disch := omega) only [go_sem, *, Try.results48] | (first | apply xg1 | apply xc1 | apply xg2 | apply xc2 | apply xc3 | apply xc4 | apply xg3 | apply xg4) <;> intro _ | (first | apply xh1 | apply xh2 | apply xh3 | apply xh4) <;> intro _ | refine EvK_draw (id := 6) (L := w48_6) (by kernel_rfl) (by kernel_rfl) ?_ | refine EvK_draw (id := 11) (L := w48_11) (by kernel_rfl) (by kernel_rfl) ?_
  · repeat' first | simp (maxSteps := 2000000) (disch := omega) only [go_sem, *, Try.results48] | (first | apply xg1 | apply xc1 | apply xg2 | apply xc2 | apply xc3 | apply xc4 | apply xg3 | apply xg4) <;> intro _ | (first | apply xh1 | apply xh2 | apply xh3 | apply xh4) <;> intro _ | refine EvK_draw (id := 6) (L := w48_6) (by kernel_rfl) (by kernel_rfl) ?_ | refine EvK_draw (id := 11) (L := w48_11) (by kernel_rfl) (by kernel_rfl) ?_
    refine ind_loop (fun t m hx nx => hx = h ∧ nx = N ∧ ∃ j : Nat, j + 1 ≤ ps.length ∧ t = ps.length - (j + 1) ∧ m.n = 66 ∧ m.dfs = [] ∧ m.get 0 = .slice (some ⟨g, 0, none⟩) ps.length cap ∧ m.get 1 = .func (.func 49) ⟨[]⟩ ⟨[]⟩ ∧ m.get 5 = .int .i64 ((j + 1 : Nat) : Int)) (ps.length - 1) ?_ ?_
    · refine ⟨rfl, rfl, 0, by omega, rfl, ?_⟩
      have c1 : ((0 + 1 : Nat) : Int) = 1 := rfl
      rw [c1]
      simp (maxSteps := 2000000) (disch := omega) only [go_sem, *]
    · rintro t m h' n' ih ⟨rfl, rfl, j, hj, rfl, m1, m2, m3, m4, m5⟩
      by_cases hlt : ((j + 1 : Nat) : Int) < ps.length
      · have ej : ((j + 1 : Nat) : Int) - 1 = (j : Int) := by omega
        have e1 := prL_at ps (j + 1) (by omega)
        have e2 := prL_at ps j (by omega)
        have hb1 : Nat.ble ((j + 1) * 2 + 2) (ps.length * 2) = true := Nat.ble_eq_true_of_le (by omega)
        have hb2 : Nat.ble (j * 2 + 2) (ps.length * 2) = true := Nat.ble_eq_true_of_le (by omega)
        have hne : ¬ (ps.getD (j + 1) (0, 0)).1 = (ps.getD j (0, 0)).1 := fun e => by
          have := hinc j (j + 1) (by omega) (by omega)
          unfold key at this
          omega
        generalize (ps.getD (j + 1) (0, 0)).1 = k1 at *
        generalize (ps.getD (j + 1) (0, 0)).2 = x1 at *
        generalize (ps.getD j (0, 0)).1 = k2 at *
        generalize (ps.getD j (0, 0)).2 = x2 at *
        repeat' first | simp (maxSteps := 2000000) (disch := omega) only [go_sem, *, Try.results48, samS] | (first | apply xg1 | apply xc1 | apply xg2 | apply xc2 | apply xc3 | apply xc4 | apply xg3 | apply xg4) <;> intro _ | (first | apply xh1 | apply xh2 | apply xh3 | apply xh4) <;> intro _ | refine EvK_draw (id := 6) (L := w48_6) (by kernel_rfl) (by kernel_rfl) ?_ | refine EvK_draw (id := 11) (L := w48_11) (by kernel_rfl) (by kernel_rfl) ?_
        refine ih (ps.length - (j + 1 + 1)) _ _ _ (by omega) ⟨rfl, rfl, j + 1, by omega, rfl, ?_⟩
        have ci : ((j + 1 + 1 : Nat) : Int) = ((j + 1 : Nat) : Int) + 1 := by omega
        rw [ci]
        clear ih
        simp (maxSteps := 2000000) (disch := omega) only [go_sem, *]
      · clear ih hinc
        repeat' first | simp (maxSteps := 2000000) (disch := omega) only [go_sem, *, Try.results48] | (first | apply xg1 | apply xc1 | apply xg2 | apply xc2 | apply xc3 | apply xc4 | apply xg3 | apply xg4) <;> intro _ | (first | apply xh1 | apply xh2 | apply xh3 | apply xh4) <;> intro _ | refine EvK_draw (id := 6) (L := w48_6) (by kernel_rfl) (by kernel_rfl) ?_ | refine EvK_draw (id := 11) (L := w48_11) (by kernel_rfl) (by kernel_rfl) ?_
end Go.Proofs.Ytapcgfakefmemaa
