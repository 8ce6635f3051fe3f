/-
  A part of the proof: contracts of inner functions.
-/
import Derived.Test.YtapcgfakefmemaaTVF
import Derived.Test.YtapcgfakefmemaaTWQ
set_option linter.unusedVariables false
set_option linter.unusedSimpArgs false
namespace Go.Proofs.Ytapcgfakefmemaa
open Go.Am
set_option maxRecDepth 100000 in
set_option maxHeartbeats 8000000 in
theorem symMergeB {O : Over} (o46 : O 46 = cmpS) (o92 : O 92 = fun _ => none) (g cap : Nat) (ps : List (Int × Int)) (ro : Bool) (h : PT ABlk) (N : Nat) (hb : h.get g = some (.cells (PT.ofList .leaf 0 (prL ps)) ro)) (hasc : AscP ps) (h3 : ps.length ≤ 100000) :
    ∀ (k a m b : Nat), b - a ≤ k → a < m → m < b → b ≤ ps.length → EvB Try.prog O 92 [.slice (some ⟨g, 0, none⟩) ps.length cap, .int .i64 a, .int .i64 m, .int .i64 b, .func (.func 46) ⟨[]⟩ ⟨[]⟩] h N fun v h' n' => v = .tuple ⟨[]⟩ ∧ h' = h ∧ n' = N
  | 0, a, m, b, hk, h1, h2, h4 => by omega
  | k + 1, a, m, b, hk, h1, h2, h4 => by
    have IH := symMergeB o46 o92 g cap ps ro h N hb hasc h3 k
    have hll := prL_length ps
    refine EvB_run (N := 220) Try.func92 rfl rfl fun z hP hO hro hN hQ => ?_
    by_cases cA : (m : Int) - a = 1
    · obtain rfl : m = a + 1 := by omega
      clear IH
      repeat' first | simp (maxSteps := 2000000) (disch := omega) only [go_sem, *, Try.results92] | (first | apply xg1 | apply xc1 | apply xg2 | apply xc2 | apply xc3 | apply xc4 | apply xg3 | apply xg4) <;> intro _ | (first | apply xh1 | apply xh2 | apply xh3 | apply xh4) <;> intro _ | refine EvK_draw (id := 5) (L := w92_5) (by kernel_rfl) (by kernel_rfl) ?_ | refine EvK_draw (id := 11) (L := w92_11) (by kernel_rfl) (by kernel_rfl) ?_ | refine EvK_draw (id := 17) (L := w92_17) (by kernel_rfl) (by kernel_rfl) ?_ | refine EvK_draw (id := 23) (L := w92_23) (by kernel_rfl) (by kernel_rfl) ?_ | refine EvK_draw (id := 35) (L := w92_35) (by kernel_rfl) (by kernel_rfl) ?_
      refine ind_loop (fun t s h' n' => h' = h ∧ n' = N ∧ ∃ j : Nat, a + 1 ≤ j ∧ j ≤ b ∧ t = j - (a + 1) ∧ s.n = 220 ∧ s.dfs = [] ∧ s.get 0 = .slice (some ⟨g, 0, none⟩) ps.length cap ∧ s.get 1 = .int .i64 a ∧ s.get 2 = .int .i64 ((a + 1 : Nat) : Int) ∧ s.get 4 = .func (.func 46) ⟨[]⟩ ⟨[]⟩ ∧ s.get 10 = .int .i64 ((a + 1 : Nat) : Int) ∧ s.get 11 = .int .i64 j) (b - (a + 1)) ?_ ?_
      · refine ⟨rfl, rfl, b, by omega, by omega, rfl, ?_⟩
        simp (maxSteps := 2000000) (disch := omega) only [go_sem, *]
      · rintro t s h' n' ih ⟨rfl, rfl, j, hj1, hj2, rfl, m1, m2, m3, m4, m5, m6, m7, m8⟩
        by_cases hlt : ((a + 1 : Nat) : Int) < j
        · have hw : IntKind.u64.wrap (((a + 1 : Nat) : Int) + j) = ((a + 1 + j : Nat) : Int) := by
            have := wrap_u64 (x := ((a + 1 : Nat) : Int) + j) (by omega) (by omega)
            omega
          obtain ⟨c, hc⟩ : ∃ c, (a + 1 + j) / 2 = c := ⟨_, rfl⟩
          have hfd : ((a + 1 + j : Nat) : Int).fdiv (2 ^ min 1 64) = ((c : Nat) : Int) := by
            rw [← hc]; exact fdiv_half (a + 1 + j)
          have hcl : c < ps.length ∧ a + 1 ≤ c ∧ c < j := by omega
          have e1 := prL_at ps c (by omega)
          have e2 := prL_at ps a (by omega)
          have hb1 : Nat.ble (c * 2 + 2) (ps.length * 2) = true := Nat.ble_eq_true_of_le (by omega)
          have hb2 : Nat.ble (a * 2 + 2) (ps.length * 2) = true := Nat.ble_eq_true_of_le (by omega)
          have hnn : ¬ cmpV (ps.getD c (0, 0)).1 (ps.getD a (0, 0)).1 < 0 := cmpV_nn (hasc a c (by omega) (by omega))
          generalize (ps.getD c (0, 0)).1 = k1 at *
          generalize (ps.getD c (0, 0)).2 = x1 at *
          generalize (ps.getD a (0, 0)).1 = k2 at *
          generalize (ps.getD a (0, 0)).2 = x2 at *
          repeat' first | simp (maxSteps := 2000000) (disch := omega) only [go_sem, *, Try.results92, cmpS] | (first | apply xg1 | apply xc1 | apply xg2 | apply xc2 | apply xc3 | apply xc4 | apply xg3 | apply xg4) <;> intro _ | (first | apply xh1 | apply xh2 | apply xh3 | apply xh4) <;> intro _ | refine EvK_draw (id := 5) (L := w92_5) (by kernel_rfl) (by kernel_rfl) ?_ | refine EvK_draw (id := 11) (L := w92_11) (by kernel_rfl) (by kernel_rfl) ?_ | refine EvK_draw (id := 17) (L := w92_17) (by kernel_rfl) (by kernel_rfl) ?_ | refine EvK_draw (id := 23) (L := w92_23) (by kernel_rfl) (by kernel_rfl) ?_ | refine EvK_draw (id := 35) (L := w92_35) (by kernel_rfl) (by kernel_rfl) ?_
          refine ih (c - (a + 1)) _ _ _ (by omega) ⟨rfl, rfl, c, by omega, by omega, rfl, ?_⟩
          clear ih
          simp (maxSteps := 2000000) (disch := omega) only [go_sem, *]
        · obtain rfl : j = a + 1 := by omega
          have ea : ((a + 1 : Nat) : Int) - 1 = (a : Int) := by omega
          have eb : ¬ (a : Int) < (a : Int) := by omega
          clear ih
          repeat' first | simp (maxSteps := 2000000) (disch := omega) only [go_sem, *, Try.results92] | (first | apply xg1 | apply xc1 | apply xg2 | apply xc2 | apply xc3 | apply xc4 | apply xg3 | apply xg4) <;> intro _ | (first | apply xh1 | apply xh2 | apply xh3 | apply xh4) <;> intro _ | refine EvK_draw (id := 5) (L := w92_5) (by kernel_rfl) (by kernel_rfl) ?_ | refine EvK_draw (id := 11) (L := w92_11) (by kernel_rfl) (by kernel_rfl) ?_ | refine EvK_draw (id := 17) (L := w92_17) (by kernel_rfl) (by kernel_rfl) ?_ | refine EvK_draw (id := 23) (L := w92_23) (by kernel_rfl) (by kernel_rfl) ?_ | refine EvK_draw (id := 35) (L := w92_35) (by kernel_rfl) (by kernel_rfl) ?_
          rw [EvK_loop]
          repeat' first | simp (maxSteps := 2000000) (disch := omega) only [go_sem, *, Try.results92] | (first | apply xg1 | apply xc1 | apply xg2 | apply xc2 | apply xc3 | apply xc4 | apply xg3 | apply xg4) <;> intro _ | (first | apply xh1 | apply xh2 | apply xh3 | apply xh4) <;> intro _ | refine EvK_draw (id := 5) (L := w92_5) (by kernel_rfl) (by kernel_rfl) ?_ | refine EvK_draw (id := 11) (L := w92_11) (by kernel_rfl) (by kernel_rfl) ?_ | refine EvK_draw (id := 17) (L := w92_17) (by kernel_rfl) (by kernel_rfl) ?_ | refine EvK_draw (id := 23) (L := w92_23) (by kernel_rfl) (by kernel_rfl) ?_ | refine EvK_draw (id := 35) (L := w92_35) (by kernel_rfl) (by kernel_rfl) ?_
          rfl
    · by_cases cB : (b : Int) - m = 1
      · obtain rfl : b = m + 1 := by omega
        clear IH
        repeat' first | simp (maxSteps := 2000000) (disch := omega) only [go_sem, *, Try.results92] | (first | apply xg1 | apply xc1 | apply xg2 | apply xc2 | apply xc3 | apply xc4 | apply xg3 | apply xg4) <;> intro _ | (first | apply xh1 | apply xh2 | apply xh3 | apply xh4) <;> intro _ | refine EvK_draw (id := 5) (L := w92_5) (by kernel_rfl) (by kernel_rfl) ?_ | refine EvK_draw (id := 11) (L := w92_11) (by kernel_rfl) (by kernel_rfl) ?_ | refine EvK_draw (id := 17) (L := w92_17) (by kernel_rfl) (by kernel_rfl) ?_ | refine EvK_draw (id := 23) (L := w92_23) (by kernel_rfl) (by kernel_rfl) ?_ | refine EvK_draw (id := 35) (L := w92_35) (by kernel_rfl) (by kernel_rfl) ?_
        refine ind_loop (fun t s h' n' => h' = h ∧ n' = N ∧ ∃ j : Nat, a ≤ j ∧ j ≤ m ∧ t = m - j ∧ s.n = 220 ∧ s.dfs = [] ∧ s.get 0 = .slice (some ⟨g, 0, none⟩) ps.length cap ∧ s.get 1 = .int .i64 a ∧ s.get 2 = .int .i64 m ∧ s.get 4 = .func (.func 46) ⟨[]⟩ ⟨[]⟩ ∧ s.get 14 = .int .i64 j ∧ s.get 15 = .int .i64 m) (m - a) ?_ ?_
        · refine ⟨rfl, rfl, a, by omega, by omega, rfl, ?_⟩
          simp (maxSteps := 2000000) (disch := omega) only [go_sem, *]
        · rintro t s h' n' ih ⟨rfl, rfl, j, hj1, hj2, rfl, m1, m2, m3, m4, m5, m6, m7, m8⟩
          by_cases hlt : (j : Int) < m
          · obtain ⟨c, hc⟩ : ∃ c, (j + m) / 2 = c := ⟨_, rfl⟩
            have hfd : ((j : Int) + m).fdiv (2 ^ min 1 64) = ((c : Nat) : Int) := by
              rw [← hc]; exact fdiv_half (j + m)
            have hcl : c < ps.length ∧ j ≤ c ∧ c < m := by omega
            have e1 := prL_at ps m (by omega)
            have e2 := prL_at ps c (by omega)
            have hb1 : Nat.ble (m * 2 + 2) (ps.length * 2) = true := Nat.ble_eq_true_of_le (by omega)
            have hb2 : Nat.ble (c * 2 + 2) (ps.length * 2) = true := Nat.ble_eq_true_of_le (by omega)
            have hnn : ¬ cmpV (ps.getD m (0, 0)).1 (ps.getD c (0, 0)).1 < 0 := cmpV_nn (hasc c m (by omega) (by omega))
            generalize (ps.getD m (0, 0)).1 = k1 at *
            generalize (ps.getD m (0, 0)).2 = x1 at *
            generalize (ps.getD c (0, 0)).1 = k2 at *
            generalize (ps.getD c (0, 0)).2 = x2 at *
            repeat' first | simp (maxSteps := 2000000) (disch := omega) only [go_sem, *, Try.results92, cmpS] | (first | apply xg1 | apply xc1 | apply xg2 | apply xc2 | apply xc3 | apply xc4 | apply xg3 | apply xg4) <;> intro _ | (first | apply xh1 | apply xh2 | apply xh3 | apply xh4) <;> intro _ | refine EvK_draw (id := 5) (L := w92_5) (by kernel_rfl) (by kernel_rfl) ?_ | refine EvK_draw (id := 11) (L := w92_11) (by kernel_rfl) (by kernel_rfl) ?_ | refine EvK_draw (id := 17) (L := w92_17) (by kernel_rfl) (by kernel_rfl) ?_ | refine EvK_draw (id := 23) (L := w92_23) (by kernel_rfl) (by kernel_rfl) ?_ | refine EvK_draw (id := 35) (L := w92_35) (by kernel_rfl) (by kernel_rfl) ?_
            refine ih (m - (c + 1)) _ _ _ (by omega) ⟨rfl, rfl, c + 1, by omega, by omega, rfl, ?_⟩
            have ci : ((c + 1 : Nat) : Int) = (c : Int) + 1 := by omega
            rw [ci]
            clear ih
            simp (maxSteps := 2000000) (disch := omega) only [go_sem, *]
          · obtain rfl : j = m := by omega
            clear ih
            repeat' first | simp (maxSteps := 2000000) (disch := omega) only [go_sem, *, Try.results92] | (first | apply xg1 | apply xc1 | apply xg2 | apply xc2 | apply xc3 | apply xc4 | apply xg3 | apply xg4) <;> intro _ | (first | apply xh1 | apply xh2 | apply xh3 | apply xh4) <;> intro _ | refine EvK_draw (id := 5) (L := w92_5) (by kernel_rfl) (by kernel_rfl) ?_ | refine EvK_draw (id := 11) (L := w92_11) (by kernel_rfl) (by kernel_rfl) ?_ | refine EvK_draw (id := 17) (L := w92_17) (by kernel_rfl) (by kernel_rfl) ?_ | refine EvK_draw (id := 23) (L := w92_23) (by kernel_rfl) (by kernel_rfl) ?_ | refine EvK_draw (id := 35) (L := w92_35) (by kernel_rfl) (by kernel_rfl) ?_
            rw [EvK_loop]
            repeat' first | simp (maxSteps := 2000000) (disch := omega) only [go_sem, *, Try.results92] | (first | apply xg1 | apply xc1 | apply xg2 | apply xc2 | apply xc3 | apply xc4 | apply xg3 | apply xg4) <;> intro _ | (first | apply xh1 | apply xh2 | apply xh3 | apply xh4) <;> intro _ | refine EvK_draw (id := 5) (L := w92_5) (by kernel_rfl) (by kernel_rfl) ?_ | refine EvK_draw (id := 11) (L := w92_11) (by kernel_rfl) (by kernel_rfl) ?_ | refine EvK_draw (id := 17) (L := w92_17) (by kernel_rfl) (by kernel_rfl) ?_ | refine EvK_draw (id := 23) (L := w92_23) (by kernel_rfl) (by kernel_rfl) ?_ | refine EvK_draw (id := 35) (L := w92_35) (by kernel_rfl) (by kernel_rfl) ?_
            rfl
      · obtain ⟨mid, hmid⟩ : ∃ c, (a + b) / 2 = c := ⟨_, rfl⟩
        have hfd0 : ((a : Int) + b).fdiv (2 ^ min 1 64) = ((mid : Nat) : Int) := by
          rw [← hmid]; exact fdiv_half (a + b)
        obtain ⟨nn, hnn0⟩ : ∃ nn : Nat, (mid : Int) + m = nn := ⟨mid + m, by omega⟩
        obtain ⟨pp, hpp⟩ : ∃ pp : Nat, (nn : Int) - 1 = pp := ⟨nn - 1, by omega⟩
        have hself : ∀ x : Nat, ¬ (x : Int) < (x : Int) := fun x => by omega
        by_cases cm : (mid : Int) < m
        · obtain ⟨st, hst⟩ : ∃ st : Nat, (nn : Int) - b = st := ⟨nn - b, by omega⟩
          have hee : (nn : Int) - mid = m := by omega
          repeat' first | simp (maxSteps := 2000000) (disch := omega) only [go_sem, *, Try.results92] | (first | apply xg1 | apply xc1 | apply xg2 | apply xc2 | apply xc3 | apply xc4 | apply xg3 | apply xg4) <;> intro _ | (first | apply xh1 | apply xh2 | apply xh3 | apply xh4) <;> intro _ | refine EvK_draw (id := 5) (L := w92_5) (by kernel_rfl) (by kernel_rfl) ?_ | refine EvK_draw (id := 11) (L := w92_11) (by kernel_rfl) (by kernel_rfl) ?_ | refine EvK_draw (id := 17) (L := w92_17) (by kernel_rfl) (by kernel_rfl) ?_ | refine EvK_draw (id := 23) (L := w92_23) (by kernel_rfl) (by kernel_rfl) ?_ | refine EvK_draw (id := 35) (L := w92_35) (by kernel_rfl) (by kernel_rfl) ?_
          refine ind_loop (fun t s h' n' => h' = h ∧ n' = N ∧ ∃ j : Nat, st ≤ j ∧ j ≤ mid ∧ t = mid - j ∧ s.n = 220 ∧ s.dfs = [] ∧ s.get 0 = .slice (some ⟨g, 0, none⟩) ps.length cap ∧ s.get 1 = .int .i64 a ∧ s.get 2 = .int .i64 m ∧ s.get 3 = .int .i64 b ∧ s.get 4 = .func (.func 46) ⟨[]⟩ ⟨[]⟩ ∧ s.get 18 = .int .i64 mid ∧ s.get 19 = .int .i64 nn ∧ s.get 20 = .int .i64 j ∧ s.get 21 = .int .i64 mid ∧ s.get 22 = .int .i64 pp) (mid - st) ?_ ?_
          · refine ⟨rfl, rfl, st, by omega, by omega, rfl, ?_⟩
            clear IH
            simp (maxSteps := 2000000) (disch := omega) only [go_sem, *]
          · rintro t s h' n' ih ⟨rfl, rfl, j, hj1, hj2, rfl, m1, m2, m3, m4, m5, m6, m7, m8, m9, m10, m11, m12⟩
            by_cases hlt : (j : Int) < mid
            · obtain ⟨c, hc⟩ : ∃ c, (j + mid) / 2 = c := ⟨_, rfl⟩
              have hfd : ((j : Int) + mid).fdiv (2 ^ min 1 64) = ((c : Nat) : Int) := by
                rw [← hc]; exact fdiv_half (j + mid)
              have hcl : j ≤ c ∧ c < mid := by omega
              obtain ⟨d, hd⟩ : ∃ d : Nat, (pp : Int) - c = d := ⟨pp - c, by omega⟩
              have hdl : c ≤ d ∧ d < ps.length := by omega
              clear IH
              have e1 := prL_at ps d (by omega)
              have e2 := prL_at ps c (by omega)
              have hb1 : Nat.ble (d * 2 + 2) (ps.length * 2) = true := Nat.ble_eq_true_of_le (by omega)
              have hb2 : Nat.ble (c * 2 + 2) (ps.length * 2) = true := Nat.ble_eq_true_of_le (by omega)
              have hnn : ¬ cmpV (ps.getD d (0, 0)).1 (ps.getD c (0, 0)).1 < 0 := cmpV_nn (hasc c d (by omega) (by omega))
              generalize (ps.getD d (0, 0)).1 = k1 at *
              generalize (ps.getD d (0, 0)).2 = x1 at *
              generalize (ps.getD c (0, 0)).1 = k2 at *
              generalize (ps.getD c (0, 0)).2 = x2 at *
              repeat' first | simp (maxSteps := 2000000) (disch := omega) only [go_sem, *, Try.results92, cmpS] | (first | apply xg1 | apply xc1 | apply xg2 | apply xc2 | apply xc3 | apply xc4 | apply xg3 | apply xg4) <;> intro _ | (first | apply xh1 | apply xh2 | apply xh3 | apply xh4) <;> intro _ | refine EvK_draw (id := 5) (L := w92_5) (by kernel_rfl) (by kernel_rfl) ?_ | refine EvK_draw (id := 11) (L := w92_11) (by kernel_rfl) (by kernel_rfl) ?_ | refine EvK_draw (id := 17) (L := w92_17) (by kernel_rfl) (by kernel_rfl) ?_ | refine EvK_draw (id := 23) (L := w92_23) (by kernel_rfl) (by kernel_rfl) ?_ | refine EvK_draw (id := 35) (L := w92_35) (by kernel_rfl) (by kernel_rfl) ?_
              refine ih (mid - (c + 1)) _ _ _ (by omega) ⟨rfl, rfl, c + 1, by omega, by omega, rfl, ?_⟩
              have ci : ((c + 1 : Nat) : Int) = (c : Int) + 1 := by omega
              rw [ci]
              clear ih
              simp (maxSteps := 2000000) (disch := omega) only [go_sem, *]
            · obtain rfl : mid = j := by omega
              clear ih
              have IH1 := IH mid m b (by omega) (by omega) h2 h4
              have hmb : (m : Int) < b := by omega
              have ham : (a : Int) < mid := by omega
              clear IH
              repeat' first | simp (maxSteps := 2000000) (disch := omega) only [go_sem, *, Try.results92] | (first | apply xg1 | apply xc1 | apply xg2 | apply xc2 | apply xc3 | apply xc4 | apply xg3 | apply xg4) <;> intro _ | (first | apply xh1 | apply xh2 | apply xh3 | apply xh4) <;> intro _ | refine EvK_draw (id := 5) (L := w92_5) (by kernel_rfl) (by kernel_rfl) ?_ | refine EvK_draw (id := 11) (L := w92_11) (by kernel_rfl) (by kernel_rfl) ?_ | refine EvK_draw (id := 17) (L := w92_17) (by kernel_rfl) (by kernel_rfl) ?_ | refine EvK_draw (id := 23) (L := w92_23) (by kernel_rfl) (by kernel_rfl) ?_ | refine EvK_draw (id := 35) (L := w92_35) (by kernel_rfl) (by kernel_rfl) ?_
              refine EvQ_call ?_ ?_ (by rw [hP, hO]; exact IH1) ?_
              · simp (maxSteps := 2000000) (disch := omega) only [go_sem, *]
              · simp (maxSteps := 2000000) (disch := omega) only [go_sem, *]
              rintro v h2' n2 ⟨rfl, hh, hn⟩
              subst hh hn
              repeat' first | simp (maxSteps := 2000000) (disch := omega) only [go_sem, *, Try.results92] | (first | apply xg1 | apply xc1 | apply xg2 | apply xc2 | apply xc3 | apply xc4 | apply xg3 | apply xg4) <;> intro _ | (first | apply xh1 | apply xh2 | apply xh3 | apply xh4) <;> intro _ | refine EvK_draw (id := 5) (L := w92_5) (by kernel_rfl) (by kernel_rfl) ?_ | refine EvK_draw (id := 11) (L := w92_11) (by kernel_rfl) (by kernel_rfl) ?_ | refine EvK_draw (id := 17) (L := w92_17) (by kernel_rfl) (by kernel_rfl) ?_ | refine EvK_draw (id := 23) (L := w92_23) (by kernel_rfl) (by kernel_rfl) ?_ | refine EvK_draw (id := 35) (L := w92_35) (by kernel_rfl) (by kernel_rfl) ?_
              rfl
        · have hee : (nn : Int) - m = mid := by omega
          repeat' first | simp (maxSteps := 2000000) (disch := omega) only [go_sem, *, Try.results92] | (first | apply xg1 | apply xc1 | apply xg2 | apply xc2 | apply xc3 | apply xc4 | apply xg3 | apply xg4) <;> intro _ | (first | apply xh1 | apply xh2 | apply xh3 | apply xh4) <;> intro _ | refine EvK_draw (id := 5) (L := w92_5) (by kernel_rfl) (by kernel_rfl) ?_ | refine EvK_draw (id := 11) (L := w92_11) (by kernel_rfl) (by kernel_rfl) ?_ | refine EvK_draw (id := 17) (L := w92_17) (by kernel_rfl) (by kernel_rfl) ?_ | refine EvK_draw (id := 23) (L := w92_23) (by kernel_rfl) (by kernel_rfl) ?_ | refine EvK_draw (id := 35) (L := w92_35) (by kernel_rfl) (by kernel_rfl) ?_
          refine ind_loop (fun t s h' n' => h' = h ∧ n' = N ∧ ∃ j : Nat, a ≤ j ∧ j ≤ m ∧ t = m - j ∧ s.n = 220 ∧ s.dfs = [] ∧ s.get 0 = .slice (some ⟨g, 0, none⟩) ps.length cap ∧ s.get 1 = .int .i64 a ∧ s.get 2 = .int .i64 m ∧ s.get 3 = .int .i64 b ∧ s.get 4 = .func (.func 46) ⟨[]⟩ ⟨[]⟩ ∧ s.get 18 = .int .i64 mid ∧ s.get 19 = .int .i64 nn ∧ s.get 20 = .int .i64 j ∧ s.get 21 = .int .i64 m ∧ s.get 22 = .int .i64 pp) (m - a) ?_ ?_
          · refine ⟨rfl, rfl, a, by omega, by omega, rfl, ?_⟩
            clear IH
            simp (maxSteps := 2000000) (disch := omega) only [go_sem, *]
          · rintro t s h' n' ih ⟨rfl, rfl, j, hj1, hj2, rfl, m1, m2, m3, m4, m5, m6, m7, m8, m9, m10, m11, m12⟩
            by_cases hlt : (j : Int) < m
            · obtain ⟨c, hc⟩ : ∃ c, (j + m) / 2 = c := ⟨_, rfl⟩
              have hfd : ((j : Int) + m).fdiv (2 ^ min 1 64) = ((c : Nat) : Int) := by
                rw [← hc]; exact fdiv_half (j + m)
              have hcl : j ≤ c ∧ c < m := by omega
              obtain ⟨d, hd⟩ : ∃ d : Nat, (pp : Int) - c = d := ⟨pp - c, by omega⟩
              have hdl : c ≤ d ∧ d < ps.length := by omega
              clear IH
              have e1 := prL_at ps d (by omega)
              have e2 := prL_at ps c (by omega)
              have hb1 : Nat.ble (d * 2 + 2) (ps.length * 2) = true := Nat.ble_eq_true_of_le (by omega)
              have hb2 : Nat.ble (c * 2 + 2) (ps.length * 2) = true := Nat.ble_eq_true_of_le (by omega)
              have hnn : ¬ cmpV (ps.getD d (0, 0)).1 (ps.getD c (0, 0)).1 < 0 := cmpV_nn (hasc c d (by omega) (by omega))
              generalize (ps.getD d (0, 0)).1 = k1 at *
              generalize (ps.getD d (0, 0)).2 = x1 at *
              generalize (ps.getD c (0, 0)).1 = k2 at *
              generalize (ps.getD c (0, 0)).2 = x2 at *
              repeat' first | simp (maxSteps := 2000000) (disch := omega) only [go_sem, *, Try.results92, cmpS] | (first | apply xg1 | apply xc1 | apply xg2 | apply xc2 | apply xc3 | apply xc4 | apply xg3 | apply xg4) <;> intro _ | (first | apply xh1 | apply xh2 | apply xh3 | apply xh4) <;> intro _ | refine EvK_draw (id := 5) (L := w92_5) (by kernel_rfl) (by kernel_rfl) ?_ | refine EvK_draw (id := 11) (L := w92_11) (by kernel_rfl) (by kernel_rfl) ?_ | refine EvK_draw (id := 17) (L := w92_17) (by kernel_rfl) (by kernel_rfl) ?_ | refine EvK_draw (id := 23) (L := w92_23) (by kernel_rfl) (by kernel_rfl) ?_ | refine EvK_draw (id := 35) (L := w92_35) (by kernel_rfl) (by kernel_rfl) ?_
              refine ih (m - (c + 1)) _ _ _ (by omega) ⟨rfl, rfl, c + 1, by omega, by omega, rfl, ?_⟩
              have ci : ((c + 1 : Nat) : Int) = (c : Int) + 1 := by omega
              rw [ci]
              clear ih
              simp (maxSteps := 2000000) (disch := omega) only [go_sem, *]
            · obtain rfl : m = j := by omega
              clear ih
              have ham : (a : Int) < m := by omega
              by_cases cmm : (m : Int) < mid
              · have IH1 := IH a m mid (by omega) h1 (by omega) (by omega)
                clear IH
                repeat' first | simp (maxSteps := 2000000) (disch := omega) only [go_sem, *, Try.results92] | (first | apply xg1 | apply xc1 | apply xg2 | apply xc2 | apply xc3 | apply xc4 | apply xg3 | apply xg4) <;> intro _ | (first | apply xh1 | apply xh2 | apply xh3 | apply xh4) <;> intro _ | refine EvK_draw (id := 5) (L := w92_5) (by kernel_rfl) (by kernel_rfl) ?_ | refine EvK_draw (id := 11) (L := w92_11) (by kernel_rfl) (by kernel_rfl) ?_ | refine EvK_draw (id := 17) (L := w92_17) (by kernel_rfl) (by kernel_rfl) ?_ | refine EvK_draw (id := 23) (L := w92_23) (by kernel_rfl) (by kernel_rfl) ?_ | refine EvK_draw (id := 35) (L := w92_35) (by kernel_rfl) (by kernel_rfl) ?_
                refine EvQ_call ?_ ?_ (by rw [hP, hO]; exact IH1) ?_
                · simp (maxSteps := 2000000) (disch := omega) only [go_sem, *]
                · simp (maxSteps := 2000000) (disch := omega) only [go_sem, *]
                rintro v h2' n2 ⟨rfl, hh, hn⟩
                subst hh hn
                repeat' first | simp (maxSteps := 2000000) (disch := omega) only [go_sem, *, Try.results92] | (first | apply xg1 | apply xc1 | apply xg2 | apply xc2 | apply xc3 | apply xc4 | apply xg3 | apply xg4) <;> intro _ | (first | apply xh1 | apply xh2 | apply xh3 | apply xh4) <;> intro _ | refine EvK_draw (id := 5) (L := w92_5) (by kernel_rfl) (by kernel_rfl) ?_ | refine EvK_draw (id := 11) (L := w92_11) (by kernel_rfl) (by kernel_rfl) ?_ | refine EvK_draw (id := 17) (L := w92_17) (by kernel_rfl) (by kernel_rfl) ?_ | refine EvK_draw (id := 23) (L := w92_23) (by kernel_rfl) (by kernel_rfl) ?_ | refine EvK_draw (id := 35) (L := w92_35) (by kernel_rfl) (by kernel_rfl) ?_
                rfl
              · clear IH
                repeat' first | simp (maxSteps := 2000000) (disch := omega) only [go_sem, *, Try.results92] | (first | apply xg1 | apply xc1 | apply xg2 | apply xc2 | apply xc3 | apply xc4 | apply xg3 | apply xg4) <;> intro _ | (first | apply xh1 | apply xh2 | apply xh3 | apply xh4) <;> intro _ | refine EvK_draw (id := 5) (L := w92_5) (by kernel_rfl) (by kernel_rfl) ?_ | refine EvK_draw (id := 11) (L := w92_11) (by kernel_rfl) (by kernel_rfl) ?_ | refine EvK_draw (id := 17) (L := w92_17) (by kernel_rfl) (by kernel_rfl) ?_ | refine EvK_draw (id := 23) (L := w92_23) (by kernel_rfl) (by kernel_rfl) ?_ | refine EvK_draw (id := 35) (L := w92_35) (by kernel_rfl) (by kernel_rfl) ?_
                rfl
end Go.Proofs.Ytapcgfakefmemaa
set_option linter.unusedVariables false
set_option linter.unusedSimpArgs false
namespace Go.Proofs.Ytapcgfakefmemaa
open Go.Am
set_option maxRecDepth 100000 in
set_option maxHeartbeats 8000000 in
theorem stableB {O : Over} (o46 : O 46 = cmpS) (o92 : O 92 = fun _ => none) (o91 : O 91 = fun _ => none) (g cap : Nat) (ps : List (Int × Int)) (ro : Bool) (h : PT ABlk) (N : Nat) (hb : h.get g = some (.cells (PT.ofList .leaf 0 (prL ps)) ro)) (hasc : AscP ps) (h3 : ps.length ≤ 100000) :
    EvB Try.prog O 78 [.slice (some ⟨g, 0, none⟩) ps.length cap, .int .i64 ps.length, .func (.func 46) ⟨[]⟩ ⟨[]⟩] h N fun v h' n' => v = .tuple ⟨[]⟩ ∧ h' = h ∧ n' = N := by
  have IM := symMergeB o46 o92 g cap ps ro h N hb hasc h3
  have II := fun a b h1 h2 => insertionB o46 g ps.length cap ps ro a b h N hb rfl hasc h1 h2 h3
  clear hasc hb
  refine EvB_run (N := 63) Try.func78 rfl rfl fun z hP hO hro hN hQ => ?_
  repeat' first | simp (maxSteps := 2000000) (disch := omega) only [go_sem, *, Try.results78] | (first | apply xg1 | apply xc1 | apply xg2 | apply xc2 | apply xc3 | apply xc4 | apply xg3 | apply xg4) <;> intro _
  refine ind_loop (fun t m h' n' => h' = h ∧ n' = N ∧ ∃ a : Nat, a ≤ ps.length ∧ t = ps.length - a ∧ m.n = 63 ∧ m.dfs = [] ∧ m.get 0 = .slice (some ⟨g, 0, none⟩) ps.length cap ∧ m.get 1 = .int .i64 ps.length ∧ m.get 2 = .func (.func 46) ⟨[]⟩ ⟨[]⟩ ∧ m.get 6 = .int .i64 20 ∧ m.get 7 = .int .i64 a ∧ m.get 8 = .int .i64 ((a : Int) + 20)) ps.length ?_ ?_
  · refine ⟨rfl, rfl, 0, by omega, rfl, ?_⟩
    clear IM II
    simp (maxSteps := 2000000) (disch := omega) only [go_sem, *]
  · rintro t m h' n' ih ⟨rfl, rfl, a, ha, rfl, m1, m2, m3, m4, m5, m6, m7, m8⟩
    by_cases c1 : (a : Int) + 20 ≤ ps.length
    · have II1 := II a (a + 20) (by omega) (by omega)
      have ca : ((a + 20 : Nat) : Int) = (a : Int) + 20 := by omega
      rw [ca] at II1
      clear IM II
      repeat' first | simp (maxSteps := 2000000) (disch := omega) only [go_sem, *, Try.results78] | (first | apply xg1 | apply xc1 | apply xg2 | apply xc2 | apply xc3 | apply xc4 | apply xg3 | apply xg4) <;> intro _
      refine EvQ_call ?_ ?_ (by rw [hP, hO]; exact II1) ?_
      · simp (maxSteps := 2000000) (disch := omega) only [go_sem, *]
      · simp (maxSteps := 2000000) (disch := omega) only [go_sem, *]
      rintro v h2' n2 ⟨rfl, hh, hn⟩
      subst hh hn
      repeat' first | simp (maxSteps := 2000000) (disch := omega) only [go_sem, *, Try.results78] | (first | apply xg1 | apply xc1 | apply xg2 | apply xc2 | apply xc3 | apply xc4 | apply xg3 | apply xg4) <;> intro _
      refine ih (ps.length - (a + 20)) _ _ _ (by omega) ⟨rfl, rfl, a + 20, by omega, rfl, ?_⟩
      rw [ca]
      clear ih
      simp (maxSteps := 2000000) (disch := omega) only [go_sem, *]
    · have II1 := II a ps.length (by omega) (Nat.le_refl _)
      clear II ih
      repeat' first | simp (maxSteps := 2000000) (disch := omega) only [go_sem, *, Try.results78] | (first | apply xg1 | apply xc1 | apply xg2 | apply xc2 | apply xc3 | apply xc4 | apply xg3 | apply xg4) <;> intro _
      refine EvQ_call ?_ ?_ (by rw [hP, hO]; exact II1) ?_
      · simp (maxSteps := 2000000) (disch := omega) only [go_sem, *]
      · simp (maxSteps := 2000000) (disch := omega) only [go_sem, *]
      rintro v h2' n2 ⟨rfl, hh, hn⟩
      subst hh hn
      clear II1
      repeat' first | simp (maxSteps := 2000000) (disch := omega) only [go_sem, *, Try.results78] | (first | apply xg1 | apply xc1 | apply xg2 | apply xc2 | apply xc3 | apply xc4 | apply xg3 | apply xg4) <;> intro _
      refine ind_loop (fun t m hx nx => hx = h2' ∧ nx = n2 ∧ ∃ bs : Nat, 1 ≤ bs ∧ bs ≤ 400000 ∧ t = ps.length - bs ∧ m.n = 63 ∧ m.dfs = [] ∧ m.get 0 = .slice (some ⟨g, 0, none⟩) ps.length cap ∧ m.get 1 = .int .i64 ps.length ∧ m.get 2 = .func (.func 46) ⟨[]⟩ ⟨[]⟩ ∧ m.get 6 = .int .i64 bs) (ps.length - 20) ?_ ?_
      · refine ⟨rfl, rfl, 20, by omega, by omega, rfl, ?_⟩
        have c20 : ((20 : Nat) : Int) = 20 := rfl
        clear IM
        simp (maxSteps := 2000000) (disch := omega) only [go_sem, *]
      · clear m1 m2 m3 m4 m5 m6 m7 m8 m
        rintro t m h' n' ih ⟨hh, hn, bs, hb1, hb2, rfl, m1, m2, m3, m4, m5, m6⟩
        subst hh hn
        by_cases c2 : (bs : Int) < ps.length
        · repeat' first | simp (maxSteps := 2000000) (disch := omega) only [go_sem, *, Try.results78] | (first | apply xg1 | apply xc1 | apply xg2 | apply xc2 | apply xc3 | apply xc4 | apply xg3 | apply xg4) <;> intro _
          refine ind_loop (fun t m hx nx => hx = h' ∧ nx = n' ∧ ∃ a : Nat, a ≤ ps.length ∧ t = ps.length - a ∧ m.n = 63 ∧ m.dfs = [] ∧ m.get 0 = .slice (some ⟨g, 0, none⟩) ps.length cap ∧ m.get 1 = .int .i64 ps.length ∧ m.get 2 = .func (.func 46) ⟨[]⟩ ⟨[]⟩ ∧ m.get 6 = .int .i64 bs ∧ m.get 7 = .int .i64 a ∧ m.get 8 = .int .i64 ((a : Int) + 2 * bs)) ps.length ?_ ?_
          · refine ⟨rfl, rfl, 0, by omega, rfl, ?_⟩
            have c0 : ((0 : Nat) : Int) + 2 * (bs : Int) = 2 * (bs : Int) := by omega
            rw [c0]
            clear IM ih
            simp (maxSteps := 2000000) (disch := omega) only [go_sem, *]
          · clear m1 m2 m3 m4 m5 m6 m
            rintro t m h' n' ih2 ⟨hh, hn, a, ha, rfl, m1, m2, m3, m4, m5, m6, m7, m8⟩
            subst hh hn
            by_cases c3 : (a : Int) + 2 * bs ≤ ps.length
            · have IM1 := IM (a + 2 * bs - a) a (a + bs) (a + 2 * bs) (Nat.le_refl _) (by omega) (by omega) (by omega)
              have ca : ((a + 2 * bs : Nat) : Int) = (a : Int) + 2 * bs := by omega
              have cb : ((a + bs : Nat) : Int) = (a : Int) + bs := by omega
              rw [ca, cb] at IM1
              clear IM ih
              repeat' first | simp (maxSteps := 2000000) (disch := omega) only [go_sem, *, Try.results78] | (first | apply xg1 | apply xc1 | apply xg2 | apply xc2 | apply xc3 | apply xc4 | apply xg3 | apply xg4) <;> intro _
              refine EvQ_call ?_ ?_ (by rw [hP, hO]; exact IM1) ?_
              · simp (maxSteps := 2000000) (disch := omega) only [go_sem, *]
              · simp (maxSteps := 2000000) (disch := omega) only [go_sem, *]
              rintro v h2 n3 ⟨rfl, hh, hn⟩
              subst hh hn
              repeat' first | simp (maxSteps := 2000000) (disch := omega) only [go_sem, *, Try.results78] | (first | apply xg1 | apply xc1 | apply xg2 | apply xc2 | apply xc3 | apply xc4 | apply xg3 | apply xg4) <;> intro _
              refine ih2 (ps.length - (a + 2 * bs)) _ _ _ (by omega) ⟨rfl, rfl, a + 2 * bs, by omega, rfl, ?_⟩
              rw [ca]
              clear ih2
              simp (maxSteps := 2000000) (disch := omega) only [go_sem, *]
            · clear ih2
              by_cases c4 : (a : Int) + bs < ps.length
              · have IM1 := IM (ps.length - a) a (a + bs) ps.length (Nat.le_refl _) (by omega) (by omega) (Nat.le_refl _)
                have cb : ((a + bs : Nat) : Int) = (a : Int) + bs := by omega
                rw [cb] at IM1
                clear IM
                repeat' first | simp (maxSteps := 2000000) (disch := omega) only [go_sem, *, Try.results78] | (first | apply xg1 | apply xc1 | apply xg2 | apply xc2 | apply xc3 | apply xc4 | apply xg3 | apply xg4) <;> intro _
                refine EvQ_call ?_ ?_ (by rw [hP, hO]; exact IM1) ?_
                · simp (maxSteps := 2000000) (disch := omega) only [go_sem, *]
                · simp (maxSteps := 2000000) (disch := omega) only [go_sem, *]
                rintro v h2 n3 ⟨rfl, hh, hn⟩
                subst hh hn
                repeat' first | simp (maxSteps := 2000000) (disch := omega) only [go_sem, *, Try.results78] | (first | apply xg1 | apply xc1 | apply xg2 | apply xc2 | apply xc3 | apply xc4 | apply xg3 | apply xg4) <;> intro _
                refine ih (ps.length - bs * 2) _ _ _ (by omega) ⟨rfl, rfl, bs * 2, by omega, by omega, rfl, ?_⟩
                have cc : ((bs * 2 : Nat) : Int) = (bs : Int) * 2 := by omega
                rw [cc]
                clear ih
                simp (maxSteps := 2000000) (disch := omega) only [go_sem, *]
              · clear IM
                repeat' first | simp (maxSteps := 2000000) (disch := omega) only [go_sem, *, Try.results78] | (first | apply xg1 | apply xc1 | apply xg2 | apply xc2 | apply xc3 | apply xc4 | apply xg3 | apply xg4) <;> intro _
                refine ih (ps.length - bs * 2) _ _ _ (by omega) ⟨rfl, rfl, bs * 2, by omega, by omega, rfl, ?_⟩
                have cc : ((bs * 2 : Nat) : Int) = (bs : Int) * 2 := by omega
                rw [cc]
                clear ih
                simp (maxSteps := 2000000) (disch := omega) only [go_sem, *]
        · clear ih IM
          repeat' first | simp (maxSteps := 2000000) (disch := omega) only [go_sem, *, Try.results78] | (first | apply xg1 | apply xc1 | apply xg2 | apply xc2 | apply xc3 | apply xc4 | apply xg3 | apply xg4) <;> intro _
          rfl
end Go.Proofs.Ytapcgfakefmemaa
set_option linter.unusedVariables false
set_option linter.unusedSimpArgs false
namespace Go.Proofs.Ytapcgfakefmemaa
open Go.Am
theorem insertionNil {O : Over} (h : PT ABlk) (N : Nat) : EvB Try.prog O 91 [.slice none 0 0, .int .i64 0, .int .i64 0, .func (.func 46) ⟨[]⟩ ⟨[]⟩] h N fun v h' n' => v = .tuple ⟨[]⟩ ∧ h' = h ∧ n' = N := by
  refine EvB_run (N := 53) Try.func91 rfl rfl fun z hP hO hro hN hQ => ?_
  repeat' first | simp (maxSteps := 2000000) (disch := omega) only [go_sem, *, Try.results91] | (first | apply xg1 | apply xc1 | apply xg2 | apply xc2 | apply xc3 | apply xc4 | apply xg3 | apply xg4) <;> intro _ | (first | apply xh1 | apply xh2 | apply xh3 | apply xh4) <;> intro _ | refine EvK_draw (id := 4) (L := w91_4) (by kernel_rfl) (by kernel_rfl) ?_ | refine EvK_draw (id := 6) (L := w91_6) (by kernel_rfl) (by kernel_rfl) ?_
  rw [EvK_loop]
  repeat' first | simp (maxSteps := 2000000) (disch := omega) only [go_sem, *, Try.results91] | (first | apply xg1 | apply xc1 | apply xg2 | apply xc2 | apply xc3 | apply xc4 | apply xg3 | apply xg4) <;> intro _ | (first | apply xh1 | apply xh2 | apply xh3 | apply xh4) <;> intro _ | refine EvK_draw (id := 4) (L := w91_4) (by kernel_rfl) (by kernel_rfl) ?_ | refine EvK_draw (id := 6) (L := w91_6) (by kernel_rfl) (by kernel_rfl) ?_
  rfl
theorem stableNil {O : Over} (o91 : O 91 = fun _ => none) (h : PT ABlk) (N : Nat) : EvB Try.prog O 78 [.slice none 0 0, .int .i64 0, .func (.func 46) ⟨[]⟩ ⟨[]⟩] h N fun v h' n' => v = .tuple ⟨[]⟩ ∧ h' = h ∧ n' = N := by
  refine EvB_run (N := 63) Try.func78 rfl rfl fun z hP hO hro hN hQ => ?_
  repeat' first | simp (maxSteps := 2000000) (disch := omega) only [go_sem, *, Try.results78] | (first | apply xg1 | apply xc1 | apply xg2 | apply xc2 | apply xc3 | apply xc4 | apply xg3 | apply xg4) <;> intro _
  rw [EvK_loop]
  repeat' first | simp (maxSteps := 2000000) (disch := omega) only [go_sem, *, Try.results78] | (first | apply xg1 | apply xc1 | apply xg2 | apply xc2 | apply xc3 | apply xc4 | apply xg3 | apply xg4) <;> intro _
  refine EvQ_call ?_ ?_ (by rw [hP, hO]; exact insertionNil _ _) ?_
  · simp (maxSteps := 2000000) (disch := omega) only [go_sem, *]
  · simp (maxSteps := 2000000) (disch := omega) only [go_sem, *]
  rintro v h2 n2 ⟨rfl, hh, hn⟩
  subst hh hn
  repeat' first | simp (maxSteps := 2000000) (disch := omega) only [go_sem, *, Try.results78] | (first | apply xg1 | apply xc1 | apply xg2 | apply xc2 | apply xc3 | apply xc4 | apply xg3 | apply xg4) <;> intro _
  rw [EvK_loop]
  repeat' first | simp (maxSteps := 2000000) (disch := omega) only [go_sem, *, Try.results78] | (first | apply xg1 | apply xc1 | apply xg2 | apply xc2 | apply xc3 | apply xc4 | apply xg3 | apply xg4) <;> intro _
  rfl
theorem sortNilB {O : Over} (o91 : O 91 = fun _ => none) (o78 : O 78 = fun _ => none) (h : PT ABlk) (N : Nat) : EvB Try.prog O 45 [.slice none 0 0, .func (.func 46) ⟨[]⟩ ⟨[]⟩] h N fun v h' n' => v = .tuple ⟨[]⟩ ∧ h' = h ∧ n' = N := by
  refine EvB_run (N := 9) Try.func45 rfl rfl fun z hP hO hro hN hQ => ?_
  repeat' first | simp (maxSteps := 2000000) (disch := omega) only [go_sem, *, Try.results45, cast_zero_int] | (first | apply xg1 | apply xc1 | apply xg2 | apply xc2 | apply xc3 | apply xc4 | apply xg3 | apply xg4) <;> intro _
  refine EvQ_call ?_ ?_ (by rw [hP, hO]; exact stableNil o91 _ _) ?_
  · simp (maxSteps := 2000000) (disch := omega) only [go_sem, *]
  · simp (maxSteps := 2000000) (disch := omega) only [go_sem, *]
  rintro v h2 n2 ⟨rfl, hh, hn⟩
  subst hh hn
  repeat' first | simp (maxSteps := 2000000) (disch := omega) only [go_sem, *, Try.results45] | (first | apply xg1 | apply xc1 | apply xg2 | apply xc2 | apply xc3 | apply xc4 | apply xg3 | apply xg4) <;> intro _
  rfl
theorem sortB {O : Over} (o46 : O 46 = cmpS) (o92 : O 92 = fun _ => none) (o91 : O 91 = fun _ => none) (o78 : O 78 = fun _ => none) (g cap : Nat) (ps : List (Int × Int)) (ro : Bool) (h : PT ABlk) (N : Nat) (hb : h.get g = some (.cells (PT.ofList .leaf 0 (prL ps)) ro)) (hasc : AscP ps) (h3 : ps.length ≤ 100000) :
    EvB Try.prog O 45 [.slice (some ⟨g, 0, none⟩) ps.length cap, .func (.func 46) ⟨[]⟩ ⟨[]⟩] h N fun v h' n' => v = .tuple ⟨[]⟩ ∧ h' = h ∧ n' = N := by
  have hs := stableB o46 o92 o91 g cap ps ro h N hb hasc h3
  refine EvB_run (N := 9) Try.func45 rfl rfl fun z hP hO hro hN hQ => ?_
  repeat' first | simp (maxSteps := 2000000) (disch := omega) only [go_sem, *, Try.results45] | (first | apply xg1 | apply xc1 | apply xg2 | apply xc2 | apply xc3 | apply xc4 | apply xg3 | apply xg4) <;> intro _
  refine EvQ_call ?_ ?_ (by rw [hP, hO]; exact hs) ?_
  · simp (maxSteps := 2000000) (disch := omega) only [go_sem, *]
  · simp (maxSteps := 2000000) (disch := omega) only [go_sem, *]
  rintro v h2 n2 ⟨rfl, hh, hn⟩
  subst hh hn
  repeat' first | simp (maxSteps := 2000000) (disch := omega) only [go_sem, *, Try.results45] | (first | apply xg1 | apply xc1 | apply xg2 | apply xc2 | apply xc3 | apply xc4 | apply xg3 | apply xg4) <;> intro _
  rfl
def IncP (ps : List (Int × Int)) : Prop := ∀ i j, i < j → j < ps.length → key ps i < key ps j
theorem IncP.asc {ps : List (Int × Int)} (h : IncP ps) : AscP ps := fun i j hij hj => by
  rcases Nat.lt_or_ge i j with q | q
  · have := h i j q hj; omega
  · obtain rfl : i = j := by omega
    exact Int.le_refl _
theorem compactNil {O : Over} (h : PT ABlk) (N : Nat) : EvB Try.prog O 48 [.slice none 0 0, .func (.func 49) ⟨[]⟩ ⟨[]⟩] h N fun v h' n' => v = .slice none 0 0 ∧ h' = h ∧ n' = N := by
  refine EvB_run (N := 66) Try.func48 rfl rfl fun z hP hO hro hN hQ => ?_
  repeat' first | simp (maxSteps := 2000000) (disch := omega) only [go_sem, *, Try.results48] | (first | apply xg1 | apply xc1 | apply xg2 | apply xc2 | apply xc3 | apply xc4 | apply xg3 | apply xg4) <;> intro _ | (first | apply xh1 | apply xh2 | apply xh3 | apply xh4) <;> intro _ | refine EvK_draw (id := 6) (L := w48_6) (by kernel_rfl) (by kernel_rfl) ?_ | refine EvK_draw (id := 11) (L := w48_11) (by kernel_rfl) (by kernel_rfl) ?_
set_option maxRecDepth 100000 in
set_option maxHeartbeats 4000000 in
theorem compactB {O : Over} (o49 : O 49 = samS) (g cap : Nat) (ps : List (Int × Int)) (ro : Bool) (h : PT ABlk) (N : Nat) (hb : h.get g = some (.cells (PT.ofList .leaf 0 (prL ps)) ro)) (hinc : IncP ps) (h3 : ps.length ≤ 100000) :
    EvB Try.prog O 48 [.slice (some ⟨g, 0, none⟩) ps.length cap, .func (.func 49) ⟨[]⟩ ⟨[]⟩] h N fun v h' n' => v = .slice (some ⟨g, 0, none⟩) ps.length cap ∧ h' = h ∧ n' = N := by
  have hll := prL_length ps
  refine EvB_run (N := 66) Try.func48 rfl rfl fun z hP hO hro hN hQ => ?_
  by_cases c0 : (ps.length : Int) < 2
  · repeat' first | simp (maxSteps := 2000000) (disch := omega) only [go_sem, *, Try.results48] | (first | apply xg1 | apply xc1 | apply xg2 | apply xc2 | apply xc3 | apply xc4 | apply xg3 | apply xg4) <;> intro _ | (first | apply xh1 | apply xh2 | apply xh3 | apply xh4) <;> intro _ | refine EvK_draw (id := 6) (L := w48_6) (by kernel_rfl) (by kernel_rfl) ?_ | refine EvK_draw (id := 11) (L := w48_11) (by kernel_rfl) (by kernel_rfl) ?_
  · repeat' first | simp (maxSteps := 2000000) (disch := omega) only [go_sem, *, Try.results48] | (first | apply xg1 | apply xc1 | apply xg2 | apply xc2 | apply xc3 | apply xc4 | apply xg3 | apply xg4) <;> intro _ | (first | apply xh1 | apply xh2 | apply xh3 | apply xh4) <;> intro _ | refine EvK_draw (id := 6) (L := w48_6) (by kernel_rfl) (by kernel_rfl) ?_ | refine EvK_draw (id := 11) (L := w48_11) (by kernel_rfl) (by kernel_rfl) ?_
    refine ind_loop (fun t m hx nx => hx = h ∧ nx = N ∧ ∃ j : Nat, j + 1 ≤ ps.length ∧ t = ps.length - (j + 1) ∧ m.n = 66 ∧ m.dfs = [] ∧ m.get 0 = .slice (some ⟨g, 0, none⟩) ps.length cap ∧ m.get 1 = .func (.func 49) ⟨[]⟩ ⟨[]⟩ ∧ m.get 5 = .int .i64 ((j + 1 : Nat) : Int)) (ps.length - 1) ?_ ?_
    · refine ⟨rfl, rfl, 0, by omega, rfl, ?_⟩
      have c1 : ((0 + 1 : Nat) : Int) = 1 := rfl
      rw [c1]
      simp (maxSteps := 2000000) (disch := omega) only [go_sem, *]
    · rintro t m h' n' ih ⟨rfl, rfl, j, hj, rfl, m1, m2, m3, m4, m5⟩
      by_cases hlt : ((j + 1 : Nat) : Int) < ps.length
      · have ej : ((j + 1 : Nat) : Int) - 1 = (j : Int) := by omega
        have e1 := prL_at ps (j + 1) (by omega)
        have e2 := prL_at ps j (by omega)
        have hb1 : Nat.ble ((j + 1) * 2 + 2) (ps.length * 2) = true := Nat.ble_eq_true_of_le (by omega)
        have hb2 : Nat.ble (j * 2 + 2) (ps.length * 2) = true := Nat.ble_eq_true_of_le (by omega)
        have hne : ¬ (ps.getD (j + 1) (0, 0)).1 = (ps.getD j (0, 0)).1 := fun e => by
          have := hinc j (j + 1) (by omega) (by omega)
          unfold key at this
          omega
        generalize (ps.getD (j + 1) (0, 0)).1 = k1 at *
        generalize (ps.getD (j + 1) (0, 0)).2 = x1 at *
        generalize (ps.getD j (0, 0)).1 = k2 at *
        generalize (ps.getD j (0, 0)).2 = x2 at *
        repeat' first | simp (maxSteps := 2000000) (disch := omega) only [go_sem, *, Try.results48, samS] | (first | apply xg1 | apply xc1 | apply xg2 | apply xc2 | apply xc3 | apply xc4 | apply xg3 | apply xg4) <;> intro _ | (first | apply xh1 | apply xh2 | apply xh3 | apply xh4) <;> intro _ | refine EvK_draw (id := 6) (L := w48_6) (by kernel_rfl) (by kernel_rfl) ?_ | refine EvK_draw (id := 11) (L := w48_11) (by kernel_rfl) (by kernel_rfl) ?_
        refine ih (ps.length - (j + 1 + 1)) _ _ _ (by omega) ⟨rfl, rfl, j + 1, by omega, rfl, ?_⟩
        have ci : ((j + 1 + 1 : Nat) : Int) = ((j + 1 : Nat) : Int) + 1 := by omega
        rw [ci]
        clear ih
        simp (maxSteps := 2000000) (disch := omega) only [go_sem, *]
      · clear ih hinc
        repeat' first | simp (maxSteps := 2000000) (disch := omega) only [go_sem, *, Try.results48] | (first | apply xg1 | apply xc1 | apply xg2 | apply xc2 | apply xc3 | apply xc4 | apply xg3 | apply xg4) <;> intro _ | (first | apply xh1 | apply xh2 | apply xh3 | apply xh4) <;> intro _ | refine EvK_draw (id := 6) (L := w48_6) (by kernel_rfl) (by kernel_rfl) ?_ | refine EvK_draw (id := 11) (L := w48_11) (by kernel_rfl) (by kernel_rfl) ?_
end Go.Proofs.Ytapcgfakefmemaa
set_option linter.unusedVariables false
set_option linter.unusedSimpArgs false
namespace Go.Proofs.Ytapcgfakefmemaa
open Go.Am
def prOf (l : LayV) (W : List Int) (lo n : Int) : Option (Int × Int) := if pIs l W lo (wd l W n 4) = true then some (wd l W n 0, pVal l W (wd l W n 4) (wd l W n 1) (wd l W n 2)) else none
def prsOf (l : LayV) (W : List Int) (lo : Int) (v : Nat) : List (Int × Int) := (lst l W v 0).filterMap (prOf l W lo)
def pairsTo (l : LayV) (W : List Int) (lo : Int) : Nat → List (Int × Int)
  | 0 => []
  | v + 1 => pairsTo l W lo v ++ prsOf l W lo v
theorem prL_append (a b : List (Int × Int)) : prL (a ++ b) = prL a ++ prL b := by simp [prL]
theorem pairsTo_length (l : LayV) (W : List Int) (lo : Int) (hl : l.H.length ≤ 1024) : ∀ v, (pairsTo l W lo v).length ≤ v * 1025
  | 0 => by simp [pairsTo]
  | v + 1 => by
    have := pairsTo_length l W lo hl v
    have h2 := List.length_filterMap_le (prOf l W lo) (lst l W v 0)
    have h3 := chain_length' l W v
    rw [pairsTo, List.length_append]
    unfold prsOf
    omega
theorem killD_all : ∀ (D : List Nat) (h : PT ABlk), D.Nodup → (∀ d ∈ D, h.get d = some .deferred) → ∃ h2, killD D h = some h2 ∧ ∀ i, ¬ i ∈ D → h2.get i = h.get i
  | [], h, _, _ => ⟨h, rfl, fun _ _ => rfl⟩
  | d :: D, h, hn, hd => by
    rw [List.nodup_cons] at hn
    obtain ⟨h2, e, q⟩ := killD_all D (h.set d none) hn.2 fun x hx => by
      have : x ≠ d := fun e => hn.1 (e ▸ hx)
      rw [PT.get_set_ne _ _ (Ne.symm this)]
      exact hd x (by simp [hx])
    refine ⟨h2, ?_, fun i hi => ?_⟩
    · rw [killD, hd d (by simp)]; exact e
    · simp only [List.mem_cons, not_or] at hi
      rw [q i hi.2, PT.get_set_ne _ _ (Ne.symm hi.1)]
structure PrI (h0 : PT ABlk) (N tb S0 : Nat) (D : List Nat) (ps : List (Int × Int)) (h : PT ABlk) : Prop where
  box : h.get N = some (.cells (PT.ofList .leaf 0 [.pointer (some ⟨tb, 0, none⟩)]) false)
  out : ∃ s, h.get (N + 1) = some (.cells (PT.ofList .leaf 0 [s]) false) ∧ ((s = .slice none 0 0 ∧ ps = []) ∨ ∃ g, s = .slice (some ⟨g, 0, none⟩) ps.length (capInf + 2) ∧ N + 2 ≤ g ∧ g ≠ S0 ∧ h.get g = some (.cells (PT.ofList .leaf 0 (prL ps)) false))
  dfr : ∀ d ∈ D, h.get d = some .deferred
  kept : Kept h0 h
theorem PrI.keep {h0 h h' : PT ABlk} {N tb S0 : Nat} {D : List Nat} {ps : List (Int × Int)} (H : PrI h0 N tb S0 D ps h) (k : Kept h h') : PrI h0 N tb S0 D ps h' := by
  obtain ⟨h1, ⟨s, h2, h3⟩, h4, h5⟩ := H
  refine ⟨k _ _ h1, ⟨s, k _ _ h2, ?_⟩, fun d hd => k _ _ (h4 d hd), h5.trans k⟩
  rcases h3 with q | ⟨g, q1, q2, q3, q4⟩
  · exact .inl q
  · exact .inr ⟨g, q1, q2, q3, k _ _ q4⟩
theorem PrI.setS {h0 h : PT ABlk} {N tb S0 : Nat} {D : List Nat} {ps : List (Int × Int)} {x : Option ABlk} (H : PrI h0 N tb S0 D ps h) (hW : WfH h0 N) (hS : N + 1 < S0) (hD : ∀ d ∈ D, d ≠ S0) : PrI h0 N tb S0 D ps (h.set S0 x) := by
  obtain ⟨h1, ⟨s, h2, h3⟩, h4, h5⟩ := H
  refine ⟨by rw [heap_ne (by omega)]; exact h1, ⟨s, by rw [heap_ne (by omega)]; exact h2, ?_⟩, fun d hd => by rw [heap_ne (by have := hD d hd; omega)]; exact h4 d hd, Kept.set' hW (by omega) h5⟩
  rcases h3 with q | ⟨g, q1, q2, q3, q4⟩
  · exact .inl q
  · exact .inr ⟨g, q1, q2, q3, by rw [heap_ne (by omega)]; exact q4⟩
theorem PrI.setL {h0 h : PT ABlk} {N tb S0 l : Nat} {D : List Nat} {ps : List (Int × Int)} {x : Option ABlk} {a1 : LoopState} {a2 : Option Code} {a3 : Tm} {a4 : List Tmp} {a5 a6 : Code} (H : PrI h0 N tb S0 D ps h) (hW : WfH h0 N) (hl : h.get l = some (.loop a1 a2 a3 a4 a5 a6)) (hN : N ≤ l) : PrI h0 N tb S0 D ps (h.set l x) := by
  obtain ⟨h1, ⟨s, h2, h3⟩, h4, h5⟩ := H
  have key : ∀ i B, h.get i = some B → (∀ b1 b2 b3 b4 b5 b6, B ≠ .loop b1 b2 b3 b4 b5 b6) → i ≠ l := fun i B e hB q => by
    subst q
    rw [hl] at e
    exact hB _ _ _ _ _ _ (Option.some.inj e).symm
  refine ⟨by rw [PT.get_set_ne _ _ (Ne.symm (key _ _ h1 (by simp)))]; exact h1, ⟨s, by rw [PT.get_set_ne _ _ (Ne.symm (key _ _ h2 (by simp)))]; exact h2, ?_⟩, fun d hd => by rw [PT.get_set_ne _ _ (Ne.symm (key _ _ (h4 d hd) (by simp)))]; exact h4 d hd, Kept.set' hW hN h5⟩
  rcases h3 with q | ⟨g, q1, q2, q3, q4⟩
  · exact .inl q
  · exact .inr ⟨g, q1, q2, q3, by rw [PT.get_set_ne _ _ (Ne.symm (key _ _ q4 (by simp)))]; exact q4⟩
theorem PrI.reS {h0 h : PT ABlk} {N tb S0 S1 n : Nat} {D : List Nat} {ps : List (Int × Int)} (H : PrI h0 N tb S0 D ps h) (hW : WfH h n) (hS : n ≤ S1) : PrI h0 N tb S1 D ps h := by
  obtain ⟨h1, ⟨s, h2, h3⟩, h4, h5⟩ := H
  refine ⟨h1, ⟨s, h2, ?_⟩, h4, h5⟩
  rcases h3 with q | ⟨g, q1, q2, q3, q4⟩
  · exact .inl q
  · have := hW.lt q4
    exact .inr ⟨g, q1, q2, by omega, q4⟩
theorem PrI.re0 {h0 h : PT ABlk} {N tb S0 : Nat} {D : List Nat} {ps : List (Int × Int)} (H : PrI h0 N tb S0 D ps h) : PrI h0 N tb 0 D ps h := by
  obtain ⟨h1, ⟨s, h2, h3⟩, h4, h5⟩ := H
  refine ⟨h1, ⟨s, h2, ?_⟩, h4, h5⟩
  rcases h3 with q | ⟨g, q1, q2, q3, q4⟩
  · exact .inl q
  · exact .inr ⟨g, q1, q2, by omega, q4⟩
theorem PrI.push0 {h0 h : PT ABlk} {N tb S0 n : Nat} {D : List Nat} {p : Int × Int} {R1 : Option ABlk} (H : PrI h0 N tb S0 D [] h) (hW0 : WfH h0 N) (hW : WfH h n) (hN : N + 2 ≤ n) (hS : S0 < n) (hD : ∀ d ∈ D, N + 2 ≤ d) :
    PrI h0 N tb S0 D [p] (((h.set n R1).set (n + 1) (some (.cells (PT.ofList .leaf 0 (prC p)) false))).set (N + 1) (some (.cells (PT.ofList .leaf 0 [.slice (some ⟨n + 1, 0, none⟩) 1 (capInf + 2)]) false))) := by
  obtain ⟨h1, _, h4, h5⟩ := H
  refine ⟨by rw [heap_ne (by omega), heap_ne (by omega), heap_ne (by omega)]; exact h1, ⟨_, heap_same, .inr ⟨n + 1, rfl, by omega, by omega, by rw [heap_ne (by omega), heap_same]; simp [prL]⟩⟩, fun d hd => ?_, Kept.set' hW0 (by omega) (Kept.set' hW0 (by omega) (Kept.set' hW0 (by omega) h5))⟩
  have a := hD d hd
  have b := hW.lt (h4 d hd)
  rw [heap_ne (by omega), heap_ne (by omega), heap_ne (by omega)]
  exact h4 d hd
theorem PrI.push1 {h0 h : PT ABlk} {N tb S0 n g : Nat} {D : List Nat} {ps : List (Int × Int)} {p : Int × Int} {R1 : Option ABlk} (H : PrI h0 N tb S0 D ps h) (hW0 : WfH h0 N) (hW : WfH h n) (hN : N + 2 ≤ n) (hS : S0 < n) (hD : ∀ d ∈ D, N + 2 ≤ d) (hg : h.get g = some (.cells (PT.ofList .leaf 0 (prL ps)) false)) (hgN : N + 2 ≤ g) (hgS : g ≠ S0) :
    PrI h0 N tb S0 D (ps ++ [p]) ((((h.set n R1).set g none).set (n + 1) (some (.cells (PT.ofList .leaf 0 (prL ps ++ prC p)) false))).set (N + 1) (some (.cells (PT.ofList .leaf 0 [.slice (some ⟨n + 1, 0, none⟩) (ps.length + 1) (capInf + 2)]) false))) := by
  obtain ⟨h1, _, h4, h5⟩ := H
  have hgn := hW.lt hg
  refine ⟨by rw [heap_ne (by omega), heap_ne (by omega), heap_ne (by omega), heap_ne (by omega)]; exact h1, ⟨_, heap_same, .inr ⟨n + 1, by rw [List.length_append]; rfl, by omega, by omega, by rw [heap_ne (by omega), heap_same, prL_append]; simp [prL]⟩⟩, fun d hd => ?_, Kept.set' hW0 (by omega) (Kept.set' hW0 (by omega) (Kept.set' hW0 (by omega) (Kept.set' hW0 (by omega) h5)))⟩
  have a := hD d hd
  have b := hW.lt (h4 d hd)
  have c : g ≠ d := fun e => by
    subst e
    rw [h4 g hd] at hg
    simp at hg
  rw [heap_ne (by omega), heap_ne (by omega), heap_ne c, heap_ne (by omega)]
  exact h4 d hd
theorem keptInto {h hx : PT ABlk} {j : Nat} {B : ABlk} (k : Kept h hx) (e : hx.get j = some B) : Kept (h.set j (some B)) hx := fun i C q => by
  rw [PT.get_set] at q
  split at q
  · rename_i hi
    subst hi
    obtain rfl := Option.some.inj q
    exact e
  · exact k i C q
theorem prL_ne {h : PT ABlk} {g j : Nat} {ps : List (Int × Int)} {x : Value} (hg : h.get g = some (.cells (PT.ofList .leaf 0 (prL ps)) false)) (hj : h.get j = some (.cells (PT.ofList .leaf 0 [x]) false)) : g ≠ j := fun e => by
  subst e
  rw [hg] at hj
  have := ofList_inj (ABlk.cells.inj (Option.some.inj hj)).1
  have h2 := congrArg List.length this
  rw [prL_length] at h2
  simp only [List.length_cons, List.length_nil] at h2
  omega
theorem head_end {l : LayV} {v : Nat} (hv : (v : Int) < 1000000) (h : l.V ≤ v) : ¬ nxtE l (-1 - (v : Int)) 0 = 0 := by
  have hw : IntKind.i64.wrap (-1 - (-1 - (v : Int))) = v := by rw [wrap_i64 (by omega) (by omega)]; omega
  have h1 : ¬ (isHead l (-1 - (v : Int)) ∧ (0 ≤ (0 : Int) ∧ (0 : Int) ≤ 5)) := fun q => by
    have := q.1.2
    rw [hw] at this
    omega
  have h2 : ¬ nxtH l (-1 - (v : Int)) 0 := fun q => by have := q.1.1; omega
  unfold nxtE
  rw [if_neg h1, if_neg h2]
  omega
theorem head_next' {l : LayV} {v : Nat} (hv : (v : Int) < 1000000) (h : (v : Int) < l.V) : nxtE l (-1 - (v : Int)) 0 = 0 := by
  have hw : IntKind.i64.wrap (-1 - (-1 - (v : Int))) = v := by rw [wrap_i64 (by omega) (by omega)]; omega
  unfold nxtE
  rw [if_pos]
  refine ⟨⟨by omega, ?_⟩, by omega, by omega⟩
  rw [hw]; exact h
end Go.Proofs.Ytapcgfakefmemaa
set_option linter.unusedVariables false
set_option linter.unusedSimpArgs false
namespace Go.Proofs.Ytapcgfakefmemaa
open Go.Am
structure PairsO (O : Over) : Prop where
  oN : O 18 = nextS
  oT : O 40 = towersS
  oH : O 12 = heightS
  oW : O 24 = wordS
  oPl : O 27 = placesS
  oPk : O 72 = peekS
  oP : O 39 = towPeekS
  o46 : O 46 = cmpS
  o49 : O 49 = samS
  no : ∀ f ∈ [11, 38, 43, 44, 45, 48, 55, 58, 71, 73, 74, 75, 76, 77, 78, 82, 83, 89, 90, 91, 92, 93], O f = fun _ => none
set_option maxRecDepth 100000 in
set_option maxHeartbeats 8000000 in
theorem pairsB {O : Over} (P : PairsO O) (tb mb lb wb : Nat) (l : LayV) (W : List Int) (lg : Value) (lo : Int) (V : Nat) (hV : l.V = V) (hV2 : V ≤ 64) (h : PT ABlk) (N : Nat) (hW : WfH h N) (hT : Tow h tb mb lb wb l W lg lo) (hinc : IncP (pairsTo l W lo V)) :
    EvB Try.prog O 15 [.pointer (some ⟨tb, 0, none⟩)] h N fun r h' n' => ∃ s, r = .tuple ⟨[s, .int .i64 0]⟩ ∧ ((s = .slice none 0 0 ∧ pairsTo l W lo V = []) ∨ ∃ g, s = .slice (some ⟨g, 0, none⟩) (pairsTo l W lo V).length (capInf + 2) ∧ N ≤ g ∧ h'.get g = some (.cells (PT.ofList .leaf 0 (prL (pairsTo l W lo V))) false)) ∧ Kept h h' := by
  have oN := P.oN
  have o38 : O 38 = fun _ => none := P.no 38 (by simp)
  have o71 : O 71 = fun _ => none := P.no 71 (by simp)
  have o43 : O 43 = fun _ => none := P.no 43 (by simp)
  have o44 : O 44 = fun _ => none := P.no 44 (by simp)
  have o45 : O 45 = fun _ => none := P.no 45 (by simp)
  have o48 : O 48 = fun _ => none := P.no 48 (by simp)
  have hlen := hT.len
  have hlB := fun a b c => @listIt O P.oN P.oT P.oH (P.no 11 (by simp)) P.oP a b c
  have htB := fun n hn h N hW hT => @towerB O P.oW P.oP P.oH P.oN (P.no 73 (by simp)) tb mb lb wb l W lg lo n hn h N hW hT
  have hpB := fun key val al lt st nx nl nc hst h N hW hT => @pairB O P.oPl P.oPk (P.no 58 (by simp)) (P.no 93 (by simp)) (P.no 74 (by simp)) (P.no 75 (by simp)) (P.no 83 (by simp)) (P.no 82 (by simp)) (P.no 55 (by simp)) (P.no 89 (by simp)) (P.no 90 (by simp)) (P.no 76 (by simp)) (P.no 77 (by simp)) tb mb lb wb l W lg lo key val al lt st nx nl nc hst h N hW hT
  have hsB := fun g cap ps ro h N => @sortB O P.o46 (P.no 92 (by simp)) (P.no 91 (by simp)) (P.no 78 (by simp)) g cap ps ro h N
  have hsN := fun h N => @sortNilB O (P.no 91 (by simp)) (P.no 78 (by simp)) h N
  have hcB := fun g cap ps ro h N => @compactB O P.o49 g cap ps ro h N
  clear P
  refine EvB_runD (N := 54) Try.func15 rfl rfl fun z hP hO hro hN hQ => ?_
  repeat' first | simp (maxSteps := 2000000) (disch := first | omega | assumption | exact Kept.refl _) only [go_sem, *, Try.results15] | (first | apply xg1 | apply xc1 | apply xg2 | apply xc2 | apply xc3 | apply xc4 | apply xg3 | apply xg4) <;> intro _
  refine ind_loop (fun t m h' n' => ∃ (v : Nat) (D : List Nat), v ≤ V ∧ t = V - v ∧ m.n = 54 ∧ m.dfs = D ∧ m.get 1 = .pointer (some ⟨N, 0, none⟩) ∧ m.get 4 = .pointer (some ⟨N + 1, 0, none⟩) ∧ m.get 5 = .int .i64 v ∧ D.Nodup ∧ (∀ d ∈ D, N + 2 ≤ d) ∧ PrI h N tb 0 D (pairsTo l W lo v) h' ∧ WfH h' n' ∧ N + 2 ≤ n') V ?_ ?_
  · refine ⟨0, [], by omega, by omega, ?_⟩
    clear hlB htB hpB hsB hsN hcB hinc
    simp (maxSteps := 2000000) (disch := first | omega | assumption | exact Kept.refl _) only [go_sem, *]
    refine ⟨List.nodup_nil, by simp, ⟨by rw [heap_ne (by omega)]; exact heap_same, ⟨_, heap_same, .inl ⟨rfl, rfl⟩⟩, by simp, Kept.set' hW (by omega) (hW.kept (Nat.le_refl _))⟩, WfH.set' (by omega) (WfH.set hW (by omega) (by omega)), Nat.le_refl _⟩
  · rintro t m h' n' ih ⟨v, D, hv, rfl, m1, m2, m3, m4, m5, d1, d2, q1, q2, q3⟩
    have hT1 := hT.keep q1.kept
    have hT1t := hT1.tow
    have hlk := hT1.look
    have hrl := fun h' hk z f d ops r K m n => @EvV_look _ _ _ _ h' hlk z f d ops r K m n hk
    have q1b := q1.box
    by_cases hlt : v < V
    · have hnx := head_next' (l := l) (v := v) (by omega) (by omega)
      clear hinc hsB hsN hcB
      repeat' first | simp (maxSteps := 2000000) (disch := first | omega | assumption | exact Kept.refl _) only [go_sem, *, Try.results15, nextS, nextV] | (first | apply xg1 | apply xc1 | apply xg2 | apply xc2 | apply xc3 | apply xc4 | apply xg3 | apply xg4) <;> intro _
      refine EvQ_call ?_ ?_ (by rw [hP, hO]; exact listB0 tb v 0 h' n') ?_
      · simp (maxSteps := 2000000) (disch := first | omega | assumption | exact Kept.refl _) only [go_sem, *]
      · simp (maxSteps := 2000000) (disch := first | omega | assumption | exact Kept.refl _) only [go_sem, *]
      rintro r h1 n1 ⟨rfl, rfl, hh⟩
      have k1 : Kept h' h1 := by rw [hh]; exact Kept.set' q2 (by omega) (Kept.set' q2 (by omega) (q2.kept (Nat.le_refl _)))
      have b1 : h1.get n' = some (.cells (PT.ofList .leaf 0 [.pointer (some ⟨tb, 0, none⟩)]) false) := by rw [hh]; simp (disch := omega) only [heap_ne, heap_same]
      have b2 : h1.get (n' + 1) = some (.cells (PT.ofList .leaf 0 [.int .i64 v]) false) := by rw [hh]; simp (disch := omega) only [heap_ne, heap_same]
      have b3 : h1.get (n' + 2) = some (.cells (PT.ofList .leaf 0 [.int .i64 0]) false) := by rw [hh]; exact heap_same
      have w1 : WfH h1 (n' + 3) := by rw [hh]; exact WfH.set' (by omega) (WfH.set' (by omega) (q2.set (by omega) (by omega)))
      have I1 := (q1.keep k1).reS w1 (show n' + 3 ≤ n' + 5 by omega)
      have hDlt : ∀ d ∈ D, d < n' := fun d hd => q2.lt (q1.dfr d hd)
      clear hh k1 hT1t hlk hrl hT1 q1b hnx
      repeat' first | simp (maxSteps := 2000000) (disch := first | omega | assumption | exact Kept.refl _) only [go_sem, *, Try.results15] | (first | apply xg1 | apply xc1 | apply xg2 | apply xc2 | apply xc3 | apply xc4 | apply xg3 | apply xg4) <;> intro _
      refine EvK_gen (fun m' => m'.n = 54 ∧ m'.dfs = D ∧ m'.get 1 = .pointer (some ⟨N, 0, none⟩) ∧ m'.get 4 = .pointer (some ⟨N + 1, 0, none⟩) ∧ m'.get 5 = .int .i64 v ∧ m'.get 31 = .func (.func 71) ⟨[]⟩ ⟨[.pointer (some ⟨n', 0, none⟩), .pointer (some ⟨n' + 1, 0, none⟩), .pointer (some ⟨n' + 2, 0, none⟩)]⟩) ?_ ?_
      · clear ih hlB htB hpB
        simp (maxSteps := 2000000) (disch := first | omega | assumption | exact Kept.refl _) only [go_sem, *]
      clear m1 m2 m3 m4 m5 m
      rintro m ⟨m1, m2, m3, m4, m5, m6⟩
      have hD2 : ∀ d ∈ (n' + 3) :: D, N + 2 ≤ d := fun d hd => by
        rcases List.mem_cons.1 hd with rfl | hd
        · omega
        · exact d2 d hd
      have hDS : ∀ d ∈ (n' + 3) :: D, d ≠ n' + 5 := fun d hd => by
        rcases List.mem_cons.1 hd with rfl | hd
        · omega
        · have := hDlt d hd; omega
      refine EvK_range' (f := 71) (args := [.func (.yield (n' + 4)) ⟨[]⟩ ⟨[]⟩, .pointer (some ⟨n', 0, none⟩), .pointer (some ⟨n' + 1, 0, none⟩), .pointer (some ⟨n' + 2, 0, none⟩)]) (R := fun hx nx => PrI h N tb (n' + 5) ((n' + 3) :: D) (pairsTo l W lo v ++ (lst l W v 0).filterMap (prOf l W lo)) hx ∧ WfH hx nx ∧ n' + 6 ≤ nx ∧ ∃ a1 a2 a3 a4 a5 a6, hx.get (n' + 4) = some (.loop a1 a2 a3 a4 a5 a6)) (by rw [m1, hN]) hro rfl m6 (by rw [hP]; rfl) (by rw [hO, o71]) ?_ ?_
      · rw [hP, hO]
        have hk0 : Kept h (((h.set n' (some (.cells (PT.ofList .leaf 0 [.pointer (some ⟨tb, 0, none⟩)]) false))).set (n' + 1) (some (.cells (PT.ofList .leaf 0 [.int .i64 v]) false))).set (n' + 2) (some (.cells (PT.ofList .leaf 0 [.int .i64 0]) false))) := Kept.set' hW (by omega) (Kept.set' hW (by omega) (hW.kept (by omega)))
        refine (hlB (n' + 4) n' (n' + 1) (n' + 2) tb mb lb wb l W lg v 0 m 32 (by omega) _ _ (fun ws hx nx => PrI h N tb (n' + 5) ((n' + 3) :: D) (pairsTo l W lo v ++ ws.filterMap (prOf l W lo)) hx ∧ hx.get n' = some (.cells (PT.ofList .leaf 0 [.pointer (some ⟨tb, 0, none⟩)]) false) ∧ hx.get (n' + 1) = some (.cells (PT.ofList .leaf 0 [.int .i64 v]) false) ∧ hx.get (n' + 2) = some (.cells (PT.ofList .leaf 0 [.int .i64 0]) false) ∧ ∃ B, hx.get (n' + 5) = some B) (((h.set n' (some (.cells (PT.ofList .leaf 0 [.pointer (some ⟨tb, 0, none⟩)]) false))).set (n' + 1) (some (.cells (PT.ofList .leaf 0 [.int .i64 v]) false))).set (n' + 2) (some (.cells (PT.ofList .leaf 0 [.int .i64 0]) false))) _ (n' + 5) (WfH.set' (by omega) (w1.set (by omega) (by omega))) ?_ ?_ ?_ ?_ (hk0 _ _ hT.tow) (hT.mem.keep hk0) (look_keep hk0 hT.look) hT.u64 (by omega) (by omega) heap_same ?_ ?_ ?_ ?_).mono fun r hx nx q => ⟨⟨q.1.1, q.2.2.1, by have := q.2.2.2; omega, _, _, _, _, _, _, q.2.1⟩, q.2.1⟩
        · refine keptInto (keptInto (keptInto (Kept.set' hW (by omega) (Kept.set' hW (by omega) I1.kept)) ?_) ?_) ?_
          · rw [heap_ne (by omega), heap_ne (by omega)]; exact b1
          · rw [heap_ne (by omega), heap_ne (by omega)]; exact b2
          · rw [heap_ne (by omega), heap_ne (by omega)]; exact b3
        · rw [heap_ne (by omega), heap_ne (by omega)]; exact heap_same
        · rw [heap_ne (by omega)]; exact heap_same
        · exact heap_same
        · intro x
          obtain ⟨c1, ⟨s, c2, c3⟩, c4, c5⟩ := I1
          refine ⟨⟨by simp (disch := omega) only [heap_ne]; exact c1, ⟨s, by simp (disch := omega) only [heap_ne]; exact c2, ?_⟩, fun d hd => ?_, Kept.set' hW (by omega) (Kept.set' hW (by omega) (Kept.set' hW (by omega) c5))⟩, by simp (disch := omega) only [heap_ne]; exact b1, by simp (disch := omega) only [heap_ne]; exact b2, by simp (disch := omega) only [heap_ne]; exact b3, _, heap_same⟩
          · rw [List.filterMap_nil, List.append_nil]
            rcases c3 with q | ⟨g, g1, g2, g3, g4⟩
            · exact .inl q
            · have := w1.lt g4
              exact .inr ⟨g, g1, g2, g3, by simp (disch := omega) only [heap_ne]; exact g4⟩
          · rcases List.mem_cons.1 hd with rfl | hd
            · rw [heap_ne (by omega), heap_ne (by omega)]; exact heap_same
            · have := hDlt d hd
              simp (disch := omega) only [heap_ne]
              exact c4 d hd
        · rintro ws hx nx ⟨J1, J2, J3, J4, _⟩
          exact keptInto (keptInto (keptInto J1.kept J2) J3) J4
        · rintro ws hx nx x ⟨J1, J2, J3, J4, _⟩
          exact ⟨J1.setS hW (by omega) hDS, by rw [heap_ne (by omega)]; exact J2, by rw [heap_ne (by omega)]; exact J3, by rw [heap_ne (by omega)]; exact J4, _, heap_same⟩
        · rintro ws r hx nx hWx hNx ⟨J1, J2, J3, J4, Bs, hBs⟩ hwl hr hlp
          have hnp : ws.length ≤ 1024 := by omega
          have hpl := pairsTo_length l W lo hlen v
          have hwf := List.length_filterMap_le (prOf l W lo) ws
          clear hlB ih I1 b1 b2 b3
          refine RoundB_at (N := 54) (tm := m) (ps := [32]) fun z0 h0P h0O h0ro h0N h0Q => ?_
          repeat' first | simp (maxSteps := 2000000) (disch := first | omega | assumption | exact Kept.refl _) only [go_sem, *, Try.results15] | (first | apply xg1 | apply xc1 | apply xg2 | apply xc2 | apply xc3 | apply xc4 | apply xg3 | apply xg4) <;> intro _
          intro z1 h1P h1O h1ro h1N h1Q
          clear h0P h0O h0ro h0N h0Q hQ hP hO hro hN
          have hlpN := hWx.lt hlp
          have Ja := fun x => J1.setL (x := x) hW hlp (by omega)
          have La := fun x (j : Nat) B (e : hx.get j = some B) (q : n' + 4 ≠ j) => (heap_ne (b := x) q).trans e
          generalize hha : hx.set (n' + 4) _ = ha
          have ea := get_of_set hha
          have Ia : PrI h N tb (n' + 5) ((n' + 3) :: D) (pairsTo l W lo v ++ ws.filterMap (prOf l W lo)) ha := by rw [← hha]; exact Ja _
          have a1 : ha.get n' = some (.cells (PT.ofList .leaf 0 [.pointer (some ⟨tb, 0, none⟩)]) false) := by rw [← hha, heap_ne (by omega)]; exact J2
          have a2 : ha.get (n' + 1) = some (.cells (PT.ofList .leaf 0 [.int .i64 v]) false) := by rw [← hha, heap_ne (by omega)]; exact J3
          have a3 : ha.get (n' + 2) = some (.cells (PT.ofList .leaf 0 [.int .i64 0]) false) := by rw [← hha, heap_ne (by omega)]; exact J4
          have a5 : ha.get (n' + 5) = hx.get (n' + 5) := by rw [← hha, heap_ne (by omega)]
          have Wa : WfH ha nx := by rw [← hha]; exact WfH.set' (by omega) hWx
          rw [hBs] at a5
          clear hha Ja La
          have Iab := Ia.box
          repeat' first | simp (maxSteps := 2000000) (disch := first | omega | assumption | exact Kept.refl _) only [go_sem, *, Try.results15] | (first | apply xg1 | apply xc1 | apply xg2 | apply xc2 | apply xc3 | apply xc4 | apply xg3 | apply xg4) <;> intro _
          refine EvQ_call ?_ ?_ (by rw [h1P, h1O]; exact (htB r ⟨by omega, hr.2⟩ ha nx Wa (hT.keep Ia.kept)).wf Wa) ?_
          · simp (maxSteps := 2000000) (disch := first | omega | assumption | exact Kept.refl _) only [go_sem, *]
          · simp (maxSteps := 2000000) (disch := first | omega | assumption | exact Kept.refl _) only [go_sem, *]
          rintro v2 hb nb ⟨⟨⟨x, k, c, rfl⟩, kb⟩, hnb, Wb⟩
          have Ib := Ia.keep kb
          have eb := kb _ _ ea
          have b1 := kb _ _ a1
          have b2 := kb _ _ a2
          have b3 := kb _ _ a3
          have b5 := kb _ _ a5
          clear Ia ea a1 a2 a3 a5 kb Iab htB
          have Ibb := Ib.box
          repeat' first | simp (maxSteps := 2000000) (disch := first | omega | assumption | exact Kept.refl _) only [go_sem, *, Try.results15] | (first | apply xg1 | apply xc1 | apply xg2 | apply xc2 | apply xc3 | apply xc4 | apply xg3 | apply xg4) <;> intro _
          generalize hhc : PT.set (PT.set hb nb _) nb _ = hc
          have kc : Kept hb hc := by rw [← hhc]; exact Kept.set' Wb (Nat.le_refl _) (Wb.kept (Nat.le_refl _))
          have Wc : WfH hc (nb + 1) := by rw [← hhc]; exact WfH.set' (by omega) (Wb.set (by omega) (by omega))
          have Ic := Ib.keep kc
          have ec := kc _ _ eb
          have c1 := kc _ _ b1
          have c2 := kc _ _ b2
          have c3 := kc _ _ b3
          have c5 := kc _ _ b5
          clear hhc Ib eb b1 b2 b3 b5 kc Ibb
          have hU4 : U64 (wd l W r 4) := wat_U64 hT.u64 _
          refine EvQ_call ?_ ?_ (by rw [h1P, h1O]; exact (hpB _ _ _ _ _ x k c hU4 hc _ Wc (hT.keep Ic.kept)).wf Wc) ?_
          · simp (maxSteps := 2000000) (disch := first | omega | assumption | exact Kept.refl _) only [go_sem, *]
          · simp (maxSteps := 2000000) (disch := first | omega | assumption | exact Kept.refl _) only [go_sem, *]
          rintro v3 hd nd ⟨⟨⟨k', v', rfl, hkv⟩, kd⟩, hnd, Wd⟩
          have Id := Ic.keep kd
          have ed := kd _ _ ec
          have d1 := kd _ _ c1
          have d2 := kd _ _ c2
          have d3 := kd _ _ c3
          have d5 := kd _ _ c5
          clear Ic ec c1 c2 c3 c5 kd hpB
          have hpo : prOf l W lo r = if pIs l W lo (wd l W r 4) = true then some (k', v') else none := by
            unfold prOf
            by_cases q : pIs l W lo (wd l W r 4) = true
            · obtain ⟨e1, e2⟩ := hkv q
              rw [if_pos q, if_pos q, e1, e2]
            · rw [if_neg q, if_neg q]
          clear hkv
          have hfm := List.filterMap_append (f := prOf l W lo) (l := ws) (l' := [r])
          have hdl : n' + 5 < nd := Wd.lt d5
          cases hpi : pIs l W lo (wd l W r 4) with
          | false =>
            rw [hpi, if_neg (by simp)] at hpo
            have hfm2 : (ws ++ [r]).filterMap (prOf l W lo) = ws.filterMap (prOf l W lo) := by rw [hfm]; simp [hpo]
            clear hfm hpo
            rw [hfm2] at h1Q
            repeat' first | simp (maxSteps := 2000000) (disch := first | omega | assumption | exact Kept.refl _) only [go_sem, *, Try.results15] | (first | apply xg1 | apply xc1 | apply xg2 | apply xc2 | apply xc3 | apply xc4 | apply xg3 | apply xg4) <;> intro _
            refine ⟨⟨?_, _, rfl⟩, WfH.set' (by omega) (WfH.set' (by omega) (Wd.set (by omega) (by omega))), by omega⟩
            have ke : Kept hd ((hd.set nd (some (.cells (PT.ofList .leaf 0 [.int .u64 0, .int .u64 0]) false))).set nd (some (.cells (PT.ofList .leaf 0 [.int .u64 k', .int .u64 v']) false))) := Kept.set' Wd (Nat.le_refl _) (Wd.kept (Nat.le_refl _))
            exact PrI.setL (Id.keep ke) hW (ke _ _ ed) (by omega)
          | true =>
            rw [hpi, if_pos rfl] at hpo
            have hfm2 : pairsTo l W lo v ++ (ws ++ [r]).filterMap (prOf l W lo) = (pairsTo l W lo v ++ ws.filterMap (prOf l W lo)) ++ [(k', v')] := by rw [hfm]; simp [hpo]
            clear hfm hpo
            rw [hfm2] at h1Q
            clear hfm2
            generalize hps : pairsTo l W lo v ++ ws.filterMap (prOf l W lo) = ps at *
            have hpsl : ps.length ≤ 64 * 1025 + 1024 := by
              rw [← hps, List.length_append]
              have : v * 1025 ≤ 64 * 1025 := Nat.mul_le_mul_right _ (by omega)
              omega
            have ke : Kept hd ((hd.set nd (some (.cells (PT.ofList .leaf 0 [.int .u64 0, .int .u64 0]) false))).set nd (some (.cells (PT.ofList .leaf 0 [.int .u64 k', .int .u64 v']) false))) := Kept.set' Wd (Nat.le_refl _) (Wd.kept (Nat.le_refl _))
            have He : ((hd.set nd (some (.cells (PT.ofList .leaf 0 [.int .u64 0, .int .u64 0]) false))).set nd (some (.cells (PT.ofList .leaf 0 [.int .u64 k', .int .u64 v']) false))).get nd = some (.cells (PT.ofList .leaf 0 [.int .u64 k', .int .u64 v']) false) := heap_same
            have We : WfH ((hd.set nd (some (.cells (PT.ofList .leaf 0 [.int .u64 0, .int .u64 0]) false))).set nd (some (.cells (PT.ofList .leaf 0 [.int .u64 k', .int .u64 v']) false))) (nd + 1) := WfH.set' (by omega) (Wd.set (by omega) (by omega))
            have Ie := Id.keep ke
            have f4 := ke _ _ ed
            have Ibx := Id.box
            obtain ⟨s, o1, o2⟩ := Id.out
            rcases o2 with ⟨rfl, rfl⟩ | ⟨g, rfl, g2, g3, g4⟩
            · repeat' first | simp (maxSteps := 2000000) (disch := first | omega | assumption | exact Kept.refl _) only [go_sem, *, Try.results15] | (first | apply xg1 | apply xc1 | apply xg2 | apply xc2 | apply xc3 | apply xc4 | apply xg3 | apply xg4) <;> intro _
              have hI := Ie.push0 (p := (k', v')) (R1 := some (.cells (PT.ofList .leaf 0 [.int .u64 k', .int .u64 v']) false)) hW We (by omega) (by omega) hD2
              refine ⟨⟨PrI.setL hI hW (by simp (disch := omega) only [heap_ne]; exact ed) (by omega), _, rfl⟩, ?_, by omega⟩
              exact WfH.set' (by omega) (WfH.set' (by omega) (WfH.set' (by omega) (WfH.set' (by omega) (We.mono (by omega)))))
            · have hll := prL_length ps
              have htk : List.take (ps.length * 2) (prL ps) = prL ps := List.take_of_length_le (by omega)
              have hble : Nat.ble (ps.length + 1) 1048576 = true := Nat.ble_eq_true_of_le (by omega)
              have hbq : (ps.length * 2).beq (ps.length * 2) = true := Nat.beq_refl _
              have gn1 := prL_ne g4 d1
              have gn2 := prL_ne g4 d2
              have gn3 := prL_ne g4 d3
              have gn0 := prL_ne g4 Ibx
              have gno := prL_ne g4 o1
              have gn4 : g ≠ n' + 4 := fun e => by rw [e, ed] at g4; simp at g4
              have ggn := Wd.lt g4
              have g4e := ke _ _ g4
              repeat' first | simp (maxSteps := 2000000) (disch := first | omega | assumption | exact Kept.refl _) only [go_sem, *, Try.results15] | (first | apply xg1 | apply xc1 | apply xg2 | apply xc2 | apply xc3 | apply xc4 | apply xg3 | apply xg4) <;> intro _
              have hI := Ie.push1 (p := (k', v')) (R1 := some (.cells (PT.ofList .leaf 0 [.int .u64 k', .int .u64 v']) false)) hW We (by omega) (by omega) hD2 g4e g2 g3
              refine ⟨⟨PrI.setL hI hW (by simp (disch := omega) only [heap_ne]; exact ed) (by omega), _, rfl⟩, ?_, by omega⟩
              exact WfH.set' (by omega) (WfH.set' (by omega) (WfH.set' (by omega) (WfH.set' (by omega) (WfH.set' (by omega) (We.mono (by omega))))))
      · rintro hx nx ⟨J1, J2, J3, _, _, _, _, _, _, J5⟩
        have J4 := fun x => J1.setL (x := x) hW J5 (by omega)
        have hDn : ((n' + 3) :: D).Nodup := List.nodup_cons.2 ⟨fun q => by have := hDlt _ q; omega, d1⟩
        have hci : ((v + 1 : Nat) : Int) = (v : Int) + 1 := by omega
        clear hlB htB hpB
        repeat' first | simp (maxSteps := 2000000) (disch := first | omega | assumption | exact Kept.refl _) only [go_sem, *, Try.results15] | (first | apply xg1 | apply xc1 | apply xg2 | apply xc2 | apply xc3 | apply xc4 | apply xg3 | apply xg4) <;> intro _
        refine ih (V - (v + 1)) _ _ _ (by omega) ⟨v + 1, (n' + 3) :: D, by omega, rfl, ?_⟩
        rw [hci]
        clear ih
        simp (maxSteps := 2000000) (disch := first | omega | assumption | exact Kept.refl _) only [go_sem, *]
        refine ⟨hD2, ?_, WfH.set' (by omega) J2, by omega⟩
        exact (J4 _).re0
    · obtain rfl : v = V := by omega
      have hnx := head_end (l := l) (v := v) (by omega) (by omega)
      obtain ⟨hD, hkD, hkD2⟩ := killD_all D h' d1 q1.dfr
      have kD : Kept h hD := fun i B e => by
        have a := hW.lt e
        rw [hkD2 i (fun q => by have := d2 i q; omega)]
        exact q1.kept i B e
      obtain ⟨s, o1, o2⟩ := q1.out
      clear ih hlB htB hpB
      rcases o2 with ⟨rfl, o2⟩ | ⟨g, rfl, g2, g3, g4⟩
      · repeat' first | simp (maxSteps := 2000000) (disch := first | omega | assumption | exact Kept.refl _) only [go_sem, *, Try.results15, nextS, nextV] | (first | apply xg1 | apply xc1 | apply xg2 | apply xc2 | apply xc3 | apply xc4 | apply xg3 | apply xg4) <;> intro _
        refine EvQ_call ?_ ?_ (by rw [hP, hO]; exact hsN _ _) ?_
        · simp (maxSteps := 2000000) (disch := first | omega | assumption | exact Kept.refl _) only [go_sem, *]
        · simp (maxSteps := 2000000) (disch := first | omega | assumption | exact Kept.refl _) only [go_sem, *]
        rintro r h2 n2 ⟨rfl, hh, hn⟩
        subst hh hn
        repeat' first | simp (maxSteps := 2000000) (disch := first | omega | assumption | exact Kept.refl _) only [go_sem, *, Try.results15] | (first | apply xg1 | apply xc1 | apply xg2 | apply xc2 | apply xc3 | apply xc4 | apply xg3 | apply xg4) <;> intro _
        refine EvQ_call ?_ ?_ (by rw [hP, hO]; exact compactNil _ _) ?_
        · simp (maxSteps := 2000000) (disch := first | omega | assumption | exact Kept.refl _) only [go_sem, *]
        · simp (maxSteps := 2000000) (disch := first | omega | assumption | exact Kept.refl _) only [go_sem, *]
        rintro r h2 n2 ⟨rfl, hh, hn⟩
        subst hh hn
        clear hrl hlk hT1
        repeat' first | simp (maxSteps := 2000000) (disch := first | omega | assumption | exact Kept.refl _) only [go_sem, *, Try.results15] | (first | apply xg1 | apply xc1 | apply xg2 | apply xc2 | apply xc3 | apply xc4 | apply xg3 | apply xg4) <;> intro _
        exact ⟨_, rfl, .inl rfl⟩
      · have hpl := pairsTo_length l W lo hlen v
        have hv64 : v * 1025 ≤ 64 * 1025 := Nat.mul_le_mul_right _ (by omega)
        have hgD : ¬ g ∈ D := fun q => by
          have := q1.dfr g q
          rw [g4] at this
          simp at this
        have g5 := hkD2 g hgD
        rw [g4] at g5
        have hs1 := hsB g (capInf + 2) _ false h' n' g4 hinc.asc (by omega)
        have hc1 := hcB g (capInf + 2) _ false h' n' g4 hinc (by omega)
        generalize pairsTo l W lo v = ps at *
        repeat' first | simp (maxSteps := 2000000) (disch := first | omega | assumption | exact Kept.refl _) only [go_sem, *, Try.results15, nextS, nextV] | (first | apply xg1 | apply xc1 | apply xg2 | apply xc2 | apply xc3 | apply xc4 | apply xg3 | apply xg4) <;> intro _
        refine EvQ_call ?_ ?_ (by rw [hP, hO]; exact hs1) ?_
        · simp (maxSteps := 2000000) (disch := first | omega | assumption | exact Kept.refl _) only [go_sem, *]
        · simp (maxSteps := 2000000) (disch := first | omega | assumption | exact Kept.refl _) only [go_sem, *]
        rintro r h2 n2 ⟨rfl, hh, hn⟩
        subst hh hn
        repeat' first | simp (maxSteps := 2000000) (disch := first | omega | assumption | exact Kept.refl _) only [go_sem, *, Try.results15] | (first | apply xg1 | apply xc1 | apply xg2 | apply xc2 | apply xc3 | apply xc4 | apply xg3 | apply xg4) <;> intro _
        refine EvQ_call ?_ ?_ (by rw [hP, hO]; exact hc1) ?_
        · simp (maxSteps := 2000000) (disch := first | omega | assumption | exact Kept.refl _) only [go_sem, *]
        · simp (maxSteps := 2000000) (disch := first | omega | assumption | exact Kept.refl _) only [go_sem, *]
        rintro r h2 n2 ⟨rfl, hh, hn⟩
        subst hh hn
        clear hrl hlk hT1 hsB hsN hcB
        repeat' first | simp (maxSteps := 2000000) (disch := first | omega | assumption | exact Kept.refl _) only [go_sem, *, Try.results15] | (first | apply xg1 | apply xc1 | apply xg2 | apply xc2 | apply xc3 | apply xc4 | apply xg3 | apply xg4) <;> intro _
        exact ⟨_, rfl, .inr ⟨g, rfl, by omega, g5⟩⟩
end Go.Proofs.Ytapcgfakefmemaa
