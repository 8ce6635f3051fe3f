/-
  A part of the proof: contracts of inner functions.
-/
import Derived.Test.YthhohpbghfbkbaaE2T
import Derived.Test.YthhohpbghfbkbaaAmU3
set_option linter.unusedVariables false
set_option linter.unusedSimpArgs false
namespace Go.Proofs.Ythhohpbghfbkbaa
open Go.Am

theorem orders : Try.prog.follows .mixedOrders = true := by kernel_rfl

set_option maxRecDepth 100000 in
set_option maxHeartbeats 2000000 in
/-- The members of a set, one round for each. -/
theorem membersIt {O : Over} (l cb s0 : Nat) (hs0 : s0 < 2 ^ 64) (tm : Tm) (p : Nat) (hp : p < tm.n) (ac bd : Code) (I : List Nat → PT ABlk → Nat → Prop) (h : PT ABlk) (N : Nat) (hW : WfH h N) (hcb : h.get cb = some (.cells (PT.ofList .leaf 0 [.int .u64 s0]) false)) (hl : h.get l = some (.loop .ready none tm [p] ac bd)) (hne : l ≠ cb) (hI : I [] h N)
    (hset : ∀ ws h' n' (x : Nat), I ws h' n' → I ws (h'.set cb (some (.cells (PT.ofList .leaf 0 [.int .u64 x]) false))) n')
    (hstep : ∀ ws (v : Nat) h' n', WfH h' n' → N ≤ n' → I ws h' n' → h'.get l = some (.loop .ready none tm [p] ac bd) → v < 64 → ws.length ≤ v → RoundB Try.prog O l (setD (up tm p (.int .i64 v)) []) ac bd h' n' (fun b h2 n2 => b = true ∧ I (ws ++ [v]) h2 n2 ∧ h2.get l = some (.loop .ready none tm [p] ac bd) ∧ h2.get cb = h'.get cb ∧ WfH h2 n2 ∧ n' ≤ n2)) :
    EvB Try.prog O 55 [.func (.yield l) ⟨[]⟩ ⟨[]⟩, .pointer (some ⟨cb, 0, none⟩)] h N fun v h' n' => I (bitsFrom 64 0 s0) h' n' ∧ h'.get l = some (.loop .ready none tm [p] ac bd) ∧ WfH h' n' ∧ N ≤ n' := by
  refine EvB_run (N := 19) Try.func55 rfl rfl fun z hP hO hro hN hQ => ?_
  have hlN := hW.lt hl
  have hcN := hW.lt hcb
  obtain ⟨B, hB⟩ : ∃ B, bitsFrom 64 0 s0 = B := ⟨_, rfl⟩
  rw [hB] at hQ
  repeat' first | simp (config := { maxSteps := 2000000 }) (disch := omega) only [go_sem, *, Try.results55] | (first | apply EvG_ndec | apply EvC_ndec | apply EvG_dec | apply EvC_dec | apply EvC_nbool | apply EvC_bool | apply EvG_nbool | apply EvG_bool) <;> intro _ | (first | apply EvH_ndec | apply EvH_dec | apply EvH_nbool | apply EvH_bool) <;> intro _ | refine EvK_draw (id := 2) (L := [(0, 2), (1, 2), (0, 3), (1, 3), (2, 4), (3, 4)]) (by kernel_rfl) (by kernel_rfl) ?_
  refine ind_loop (fun t m h' n' => ∃ (v s : Nat) (ws : List Nat), v + t = 64 ∧ ws.length ≤ v ∧ s < 2 ^ t ∧ B = ws ++ bitsFrom t v s ∧ m.n = 19 ∧ m.dfs = [] ∧ m.get 0 = .func (.yield l) ⟨[]⟩ ⟨[]⟩ ∧ m.get 1 = .pointer (some ⟨cb, 0, none⟩) ∧ m.get 3 = .int .i64 v ∧ WfH h' n' ∧ N ≤ n' ∧ h'.get cb = some (.cells (PT.ofList .leaf 0 [.int .u64 s]) false) ∧ h'.get l = some (.loop .ready none tm [p] ac bd) ∧ I ws h' n') 64 ?_ ?_
  · refine ⟨0, s0, [], rfl, Nat.le_refl _, hs0, hB.symm, ?_⟩
    simp (config := { maxSteps := 2000000 }) (disch := omega) only [go_sem, *]
    exact Nat.le_refl _
  · clear hB
    rintro t m h' n' ih ⟨v, s, ws, hvt, hwv, hst, hbf, m1, m2, m3, m4, m5, q1, q2, q3, q4, q5⟩
    by_cases h0 : s = 0
    · subst h0
      have hb0 : bitsFrom t v 0 = [] := by cases t <;> simp [bitsFrom]
      rw [hb0, List.append_nil] at hbf
      subst hbf
      clear hstep hset ih
      repeat' first | simp (config := { maxSteps := 2000000 }) (disch := omega) only [go_sem, *, Try.results55] | (first | apply EvG_ndec | apply EvC_ndec | apply EvG_dec | apply EvC_dec | apply EvC_nbool | apply EvC_bool | apply EvG_nbool | apply EvG_bool) <;> intro _ | (first | apply EvH_ndec | apply EvH_dec | apply EvH_nbool | apply EvH_bool) <;> intro _ | refine EvK_draw (id := 2) (L := [(0, 2), (1, 2), (0, 3), (1, 3), (2, 4), (3, 4)]) (by kernel_rfl) (by kernel_rfl) ?_
      exact ⟨_, rfl⟩
    · have h0' : ¬ (s : Int) = 0 := by omega
      obtain ⟨t', rfl⟩ : ∃ t', t = t' + 1 := by
        cases t with
        | zero => simp at hst; omega
        | succ t => exact ⟨t, rfl⟩
      have hlt : s / 2 < 2 ^ t' := by rw [Nat.pow_succ] at hst; omega
      have hs64 : s < 2 ^ 64 := Nat.lt_of_lt_of_le hst (Nat.pow_le_pow_right (by omega) (by omega))
      have hqq : (s : Int).tdiv 2 = ((s / 2 : Nat) : Int) := rfl
      have hrr : (s : Int).tmod 2 = ((s % 2 : Nat) : Int) := rfl
      have hs2 : s / 2 < 18446744073709551616 := by omega
      rw [bitsFrom, if_neg h0] at hbf
      by_cases h1 : s % 2 = 1
      · rw [if_pos h1] at hbf
        have hst2 := hstep ws v h' n' q1 q2 q5 q4 (by omega) hwv
        have hr1 : (s : Int).tmod 2 = 1 := by omega
        clear hstep hrr
        repeat' first | simp (config := { maxSteps := 2000000 }) (disch := omega) only [go_sem, *, Try.results55, putArgs_one] | (first | apply EvG_ndec | apply EvC_ndec | apply EvG_dec | apply EvC_dec | apply EvC_nbool | apply EvC_bool | apply EvG_nbool | apply EvG_bool) <;> intro _ | (first | apply EvH_ndec | apply EvH_dec | apply EvH_nbool | apply EvH_bool) <;> intro _ | refine EvK_draw (id := 2) (L := [(0, 2), (1, 2), (0, 3), (1, 3), (2, 4), (3, 4)]) (by kernel_rfl) (by kernel_rfl) ?_
        refine EvR_round ?_ (by rw [hP, hO]; exact hst2) ?_
        · simp (config := { maxSteps := 2000000 }) (disch := omega) only [go_sem, *]
        rintro b h2 n2 ⟨rfl, i1, i2, i3, i4, i5⟩
        rw [q3] at i3
        clear q1 q3 q4 q5 hst2
        repeat' first | simp (config := { maxSteps := 2000000 }) (disch := omega) only [go_sem, *, Try.results55] | (first | apply EvG_ndec | apply EvC_ndec | apply EvG_dec | apply EvC_dec | apply EvC_nbool | apply EvC_bool | apply EvG_nbool | apply EvG_bool) <;> intro _ | (first | apply EvH_ndec | apply EvH_dec | apply EvH_nbool | apply EvH_bool) <;> intro _ | refine EvK_draw (id := 2) (L := [(0, 2), (1, 2), (0, 3), (1, 3), (2, 4), (3, 4)]) (by kernel_rfl) (by kernel_rfl) ?_
        refine ih t' _ _ _ (by omega) ⟨v + 1, s / 2, ws ++ [v], by omega, by rw [List.length_append]; simp only [List.length_cons, List.length_nil]; omega, hlt, by rw [hbf, List.append_assoc]; rfl, ?_⟩
        have hci : ((v + 1 : Nat) : Int) = (v : Int) + 1 := by omega
        rw [hci]
        have hset2 := hset _ _ _ (s / 2) i1
        have hW2 := i4.set (i := cb) (b := some (.cells (PT.ofList .leaf 0 [.int .u64 ((s / 2 : Nat) : Int)]) false)) (Nat.le_refl _) (by omega)
        simp (config := { maxSteps := 2000000 }) (disch := omega) only [go_sem, *]
        omega
      · have h1' : s % 2 = 0 := by omega
        rw [if_neg h1] at hbf
        have hr1 : (s : Int).tmod 2 = 0 := by omega
        clear hstep hrr
        have hset2 := hset _ _ _ (s / 2) q5
        have hW2 := q1.set (i := cb) (b := some (.cells (PT.ofList .leaf 0 [.int .u64 ((s / 2 : Nat) : Int)]) false)) (Nat.le_refl _) (by omega)
        repeat' first | simp (config := { maxSteps := 2000000 }) (disch := omega) only [go_sem, *, Try.results55] | (first | apply EvG_ndec | apply EvC_ndec | apply EvG_dec | apply EvC_dec | apply EvC_nbool | apply EvC_bool | apply EvG_nbool | apply EvG_bool) <;> intro _ | (first | apply EvH_ndec | apply EvH_dec | apply EvH_nbool | apply EvH_bool) <;> intro _ | refine EvK_draw (id := 2) (L := [(0, 2), (1, 2), (0, 3), (1, 3), (2, 4), (3, 4)]) (by kernel_rfl) (by kernel_rfl) ?_
        refine ih t' _ _ _ (by omega) ⟨v + 1, s / 2, ws, by omega, by omega, hlt, hbf, ?_⟩
        have hci : ((v + 1 : Nat) : Int) = (v : Int) + 1 := by omega
        rw [hci]
        simp (config := { maxSteps := 2000000 }) (disch := omega) only [go_sem, *]
end Go.Proofs.Ythhohpbghfbkbaa

set_option linter.unusedVariables false
set_option linter.unusedSimpArgs false
namespace Go.Proofs.Ythhohpbghfbkbaa
open Go.Am

theorem cmpL_drop {xs : List Int} {j : Nat} (hj : j + 1 < xs.length) : cmpL (xs.drop j) = if xs.getD j 0 = xs.getD (j + 1) 0 then cmpL (xs.drop (j + 1)) else xs.getD j 0 :: cmpL (xs.drop (j + 1)) := by
  have e1 : xs.getD j 0 = xs[j] := by simp [List.getD, show j < xs.length by omega]
  have e2 : xs.getD (j + 1) 0 = xs[j + 1] := by simp [List.getD, hj]
  rw [List.drop_eq_getElem_cons (show j < xs.length by omega), List.drop_eq_getElem_cons hj, cmpL, e1, e2]
theorem cmpL_last {xs : List Int} {j : Nat} (hj : j + 1 = xs.length) : cmpL (xs.drop j) = [xs.getD j 0] := by
  have e1 : xs.getD j 0 = xs[j] := by simp [List.getD, show j < xs.length by omega]
  rw [List.drop_eq_getElem_cons (show j < xs.length by omega), List.drop_eq_nil_of_le (by omega), cmpL, e1]
theorem map_at (ys : List Int) {k : Nat} (hk : k < ys.length) : (ys.map (Value.int .i64))[k]? = some (.int .i64 (ys.getD k 0)) := by
  rw [List.getElem?_map, List.getElem?_eq_getElem hk]; simp [List.getD, hk]
theorem getD_of_drop {ys xs : List Int} {j i : Nat} (h : ys.drop j = xs.drop j) (hi : j ≤ i) : ys.getD i 0 = xs.getD i 0 := by
  have : ys[i]? = xs[i]? := by
    have h1 := congrArg (fun l => l[i - j]?) h
    simp only [List.getElem?_drop] at h1
    rwa [show j + (i - j) = i by omega] at h1
  simp only [List.getD, this]

theorem take_pred {xs : List Int} {k : Nat} (h1 : 1 ≤ k) (h2 : k ≤ xs.length) : xs.take k = xs.take (k - 1) ++ [xs.getD (k - 1) 0] := by
  obtain ⟨j, rfl⟩ : ∃ j, k = j + 1 := ⟨k - 1, by omega⟩
  rw [Nat.add_sub_cancel]
  have e : xs.getD j 0 = xs[j] := by simp [List.getD, show j < xs.length by omega]
  rw [e, List.take_succ_eq_append_getElem (by omega)]
theorem set_map (ys : List Int) (k : Nat) (x : Int) : (ys.map (Value.int .i64)).set k (.int .i64 x) = (ys.set k x).map (.int .i64) := by rw [List.map_set]
theorem clr80 {b off k c : Nat} {ts : List TypeId} {sp : Option Nat} : bltQ Try.prog .clear (75 :: ts) [.slice (some ⟨b, off, sp⟩) k c] = cond (Nat.beq k 0) (.pure (.value (.tuple ⟨[]⟩))) (.get b (clB b off (List.replicate k (.int .i64 0)))) := by
  have : (Try.prog.info? 3).isSome = true := by kernel_rfl
  obtain ⟨i, hi⟩ := Option.isSome_iff_exists.1 this
  exact bltQ_clear_ints (by kernel_rfl) hi (by kernel_rfl)

set_option maxRecDepth 100000 in
set_option maxHeartbeats 2000000 in
/-- slices.Compact of a row of numbers. -/
theorem compact {O : Over} (b : Nat) (xs : List Int) (h : PT ABlk) (N : Nat) (hW : WfH h N) (hb : h.get b = some (.cells (PT.ofList .leaf 0 (xs.map (.int .i64))) false)) (hn : 1 ≤ xs.length) (hn2 : xs.length ≤ 100) :
    EvB Try.prog O 46 [.slice (some ⟨b, 0, none⟩) xs.length (capInf + 1)] h N fun v h' n' => ∃ L', v = .slice (some ⟨b, 0, none⟩) (cmpL xs).length (capInf + 1) ∧ h'.get b = some (.cells (PT.ofList .leaf 0 L') false) ∧ L'.length = xs.length ∧ L'.take (cmpL xs).length = (cmpL xs).map (.int .i64) ∧ n' = N ∧ ∀ i, i ≠ b → h'.get i = h.get i := by
  have hbN := hW.lt hb
  obtain ⟨C, hC⟩ : ∃ C, cmpL xs = C := ⟨_, rfl⟩
  rw [hC]
  by_cases h2 : xs.length < 2
  · have h2' : (xs.length : Int) < 2 := by omega
    have hC1 : C = xs := by
      match xs, hn, h2 with
      | [x], _, _ => rw [← hC]; rfl
    subst hC1
    clear hC
    refine EvB_run (N := 61) Try.func46 rfl rfl fun z hP hO hro hN hQ => ?_
    repeat' first | simp (config := { maxSteps := 2000000 }) (disch := omega) only [go_sem, *, Try.results46] | (first | apply EvG_ndec | apply EvC_ndec | apply EvG_dec | apply EvC_dec | apply EvC_nbool | apply EvC_bool | apply EvG_nbool | apply EvG_bool) <;> intro _ | (first | apply EvH_ndec | apply EvH_dec | apply EvH_nbool | apply EvH_bool) <;> intro _ | refine EvK_draw (id := 6) (L := [(0, 1), (0, 4), (1, 4), (2, 4), (3, 4), (0, 5), (1, 5), (2, 5), (3, 5), (4, 5), (0, 6), (1, 6), (2, 6), (3, 6), (4, 6), (0, 7), (1, 7), (2, 7), (3, 7), (0, 8), (1, 8), (2, 8), (3, 8)]) (by kernel_rfl) (by kernel_rfl) ?_ | refine EvK_draw (id := 11) (L := [(0, 1), (0, 4), (1, 4), (2, 4), (3, 4), (0, 5), (1, 5), (2, 5), (3, 5), (4, 5), (0, 6), (1, 6), (2, 6), (3, 6), (4, 6), (0, 7), (1, 7), (2, 7), (3, 7), (0, 8), (1, 8), (2, 8), (3, 8)]) (by kernel_rfl) (by kernel_rfl) ?_
    exact ⟨C.map (.int .i64), rfl, by simp, take_map_self, fun _ _ => trivial⟩
  · have h2' : ¬ (xs.length : Int) < 2 := by omega
    refine EvB_run (N := 61) Try.func46 rfl rfl fun z hP hO hro hN hQ => ?_
    repeat' first | simp (config := { maxSteps := 2000000 }) (disch := omega) only [go_sem, *, Try.results46] | (first | apply EvG_ndec | apply EvC_ndec | apply EvG_dec | apply EvC_dec | apply EvC_nbool | apply EvC_bool | apply EvG_nbool | apply EvG_bool) <;> intro _ | (first | apply EvH_ndec | apply EvH_dec | apply EvH_nbool | apply EvH_bool) <;> intro _ | refine EvK_draw (id := 6) (L := [(0, 1), (0, 4), (1, 4), (2, 4), (3, 4), (0, 5), (1, 5), (2, 5), (3, 5), (4, 5), (0, 6), (1, 6), (2, 6), (3, 6), (4, 6), (0, 7), (1, 7), (2, 7), (3, 7), (0, 8), (1, 8), (2, 8), (3, 8)]) (by kernel_rfl) (by kernel_rfl) ?_ | refine EvK_draw (id := 11) (L := [(0, 1), (0, 4), (1, 4), (2, 4), (3, 4), (0, 5), (1, 5), (2, 5), (3, 5), (4, 5), (0, 6), (1, 6), (2, 6), (3, 6), (4, 6), (0, 7), (1, 7), (2, 7), (3, 7), (0, 8), (1, 8), (2, 8), (3, 8)]) (by kernel_rfl) (by kernel_rfl) ?_
    refine ind_loop (fun t m h' n' => ∃ k : Nat, 1 ≤ k ∧ k ≤ xs.length ∧ t = xs.length - k ∧ m.n = 61 ∧ m.dfs = [] ∧ m.get 0 = .slice (some ⟨b, 0, none⟩) xs.length (capInf + 1) ∧ m.get 3 = .int .i64 k ∧ h' = h ∧ n' = N ∧ C = xs.take (k - 1) ++ cmpL (xs.drop (k - 1))) (xs.length - 1) ?_ ?_
    · refine ⟨1, by omega, by omega, by omega, ?_⟩
      simp (config := { maxSteps := 2000000 }) (disch := omega) only [go_sem, *]
      rfl
    · rintro t m h' n' ih ⟨k, hk1, hk2, rfl, m1, m2, m3, m4, rfl, rfl, hCk⟩
      rcases Nat.lt_or_ge k xs.length with hlt | hge
      · have e7 : (k : Int) < xs.length := by omega
        have hrow1 := map_at xs hlt
        have hrow2 := map_at xs (show k - 1 < xs.length by omega)
        have hkm : ((k : Int) - 1).toNat = k - 1 := by omega
        have hml : (xs.map (Value.int .i64)).length = xs.length := by simp
        rw [cmpL_drop (by omega), show k - 1 + 1 = k by omega] at hCk
        by_cases heq : xs.getD k 0 = xs.getD (k - 1) 0
        · rw [if_pos heq.symm] at hCk
          repeat' first | simp (config := { maxSteps := 2000000 }) (disch := omega) only [go_sem, *, Try.results46] | (first | apply EvG_ndec | apply EvC_ndec | apply EvG_dec | apply EvC_dec | apply EvC_nbool | apply EvC_bool | apply EvG_nbool | apply EvG_bool) <;> intro _ | (first | apply EvH_ndec | apply EvH_dec | apply EvH_nbool | apply EvH_bool) <;> intro _ | refine EvK_draw (id := 6) (L := [(0, 1), (0, 4), (1, 4), (2, 4), (3, 4), (0, 5), (1, 5), (2, 5), (3, 5), (4, 5), (0, 6), (1, 6), (2, 6), (3, 6), (4, 6), (0, 7), (1, 7), (2, 7), (3, 7), (0, 8), (1, 8), (2, 8), (3, 8)]) (by kernel_rfl) (by kernel_rfl) ?_ | refine EvK_draw (id := 11) (L := [(0, 1), (0, 4), (1, 4), (2, 4), (3, 4), (0, 5), (1, 5), (2, 5), (3, 5), (4, 5), (0, 6), (1, 6), (2, 6), (3, 6), (4, 6), (0, 7), (1, 7), (2, 7), (3, 7), (0, 8), (1, 8), (2, 8), (3, 8)]) (by kernel_rfl) (by kernel_rfl) ?_
          refine ind_loop (fun t m h2 n2 => ∃ (w k2 : Nat) (ys : List Int), w + 1 ≤ k2 ∧ k + k2 ≤ xs.length ∧ t = xs.length - k - k2 ∧ ys.length = xs.length ∧ m.n = 61 ∧ m.dfs = [] ∧ m.get 0 = .slice (some ⟨b, 0, none⟩) xs.length (capInf + 1) ∧ m.get 3 = .int .i64 ((k + w : Nat) : Int) ∧ m.get 4 = .slice (some ⟨b, k, none⟩) (xs.length - k) (capInf + 1) ∧ m.get 5 = .int .i64 k2 ∧ n2 = n' ∧
            h2.get b = some (.cells (PT.ofList .leaf 0 (ys.map (.int .i64))) false) ∧ (∀ i, i ≠ b → h2.get i = h'.get i) ∧ ys.drop (k + k2 - 1) = xs.drop (k + k2 - 1) ∧ ys.getD (k + w - 1) 0 = xs.getD (k + k2 - 1) 0 ∧ C = ys.take (k + w - 1) ++ cmpL (xs.drop (k + k2 - 1))) (xs.length - k - 1) ?_ ?_
          · refine ⟨0, 1, xs, by omega, by omega, by omega, rfl, ?_⟩
            simp (config := { maxSteps := 2000000 }) (disch := omega) only [go_sem, *]
            exact ⟨rfl, fun _ _ => trivial, by rw [Nat.add_sub_cancel]; exact heq.symm, by rw [Nat.add_sub_cancel]⟩
          · clear ih m1 m2 m3 m4 hCk hrow1 hrow2 hkm hC
            rintro t m h2 n2 ih ⟨w, k2, ys, hw, hk2', rfl, hyl, m1, m2, m3, m4, m5, m6, rfl, r1, r2, r3, r4, r5⟩
            have hym : (ys.map (Value.int .i64)).length = xs.length := by simp [hyl]
            rcases Nat.lt_or_ge (k + k2) xs.length with hl2 | hg2
            · have f7 : (k2 : Int) < ((xs.length - k : Nat) : Int) := by omega
              have f8 : k2 < xs.length - k := by omega
              have f9 : k2 - 1 < xs.length - k := by omega
              have hr1 := map_at ys (show k + k2 < ys.length by omega)
              have hr2 := map_at ys (show k + (k2 - 1) < ys.length by omega)
              have hkm2 : ((k2 : Int) - 1).toNat = k2 - 1 := by omega
              have d1 : ys.getD (k + k2) 0 = xs.getD (k + k2) 0 := getD_of_drop r3 (by omega)
              have d2 : ys.getD (k + (k2 - 1)) 0 = xs.getD (k + k2 - 1) 0 := by rw [show k + (k2 - 1) = k + k2 - 1 by omega]; exact getD_of_drop r3 (Nat.le_refl _)
              have r3' : ys.drop (k + k2) = xs.drop (k + k2) := by
                have := congrArg (List.drop 1) r3
                rwa [List.drop_drop, List.drop_drop, show k + k2 - 1 + 1 = k + k2 by omega] at this
              rw [cmpL_drop (by omega), show k + k2 - 1 + 1 = k + k2 by omega] at r5
              rw [d1] at hr1
              rw [d2] at hr2
              by_cases hq : xs.getD (k + k2) 0 = xs.getD (k + k2 - 1) 0
              · rw [if_pos hq.symm] at r5
                clear d1 d2
                repeat' first | simp (config := { maxSteps := 2000000 }) (disch := omega) only [go_sem, *, Try.results46] | (first | apply EvG_ndec | apply EvC_ndec | apply EvG_dec | apply EvC_dec | apply EvC_nbool | apply EvC_bool | apply EvG_nbool | apply EvG_bool) <;> intro _ | (first | apply EvH_ndec | apply EvH_dec | apply EvH_nbool | apply EvH_bool) <;> intro _ | refine EvK_draw (id := 6) (L := [(0, 1), (0, 4), (1, 4), (2, 4), (3, 4), (0, 5), (1, 5), (2, 5), (3, 5), (4, 5), (0, 6), (1, 6), (2, 6), (3, 6), (4, 6), (0, 7), (1, 7), (2, 7), (3, 7), (0, 8), (1, 8), (2, 8), (3, 8)]) (by kernel_rfl) (by kernel_rfl) ?_ | refine EvK_draw (id := 11) (L := [(0, 1), (0, 4), (1, 4), (2, 4), (3, 4), (0, 5), (1, 5), (2, 5), (3, 5), (4, 5), (0, 6), (1, 6), (2, 6), (3, 6), (4, 6), (0, 7), (1, 7), (2, 7), (3, 7), (0, 8), (1, 8), (2, 8), (3, 8)]) (by kernel_rfl) (by kernel_rfl) ?_
                refine ih (xs.length - k - (k2 + 1)) _ _ _ (by omega) ⟨w, k2 + 1, ys, by omega, by omega, rfl, hyl, ?_⟩
                have hci : ((k2 + 1 : Nat) : Int) = (k2 : Int) + 1 := by omega
                have hsb : k + (k2 + 1) - 1 = k + k2 := by omega
                rw [hci, hsb]
                rw [← hq] at r4
                simp (config := { maxSteps := 2000000 }) (disch := omega) only [go_sem, *]
                exact fun i hi => r2 i hi
              · rw [if_neg (fun q => hq q.symm)] at r5
                clear d1 d2
                repeat' first | simp (config := { maxSteps := 2000000 }) (disch := omega) only [go_sem, *, Try.results46, set_map] | (first | apply EvG_ndec | apply EvC_ndec | apply EvG_dec | apply EvC_dec | apply EvC_nbool | apply EvC_bool | apply EvG_nbool | apply EvG_bool) <;> intro _ | (first | apply EvH_ndec | apply EvH_dec | apply EvH_nbool | apply EvH_bool) <;> intro _ | refine EvK_draw (id := 6) (L := [(0, 1), (0, 4), (1, 4), (2, 4), (3, 4), (0, 5), (1, 5), (2, 5), (3, 5), (4, 5), (0, 6), (1, 6), (2, 6), (3, 6), (4, 6), (0, 7), (1, 7), (2, 7), (3, 7), (0, 8), (1, 8), (2, 8), (3, 8)]) (by kernel_rfl) (by kernel_rfl) ?_ | refine EvK_draw (id := 11) (L := [(0, 1), (0, 4), (1, 4), (2, 4), (3, 4), (0, 5), (1, 5), (2, 5), (3, 5), (4, 5), (0, 6), (1, 6), (2, 6), (3, 6), (4, 6), (0, 7), (1, 7), (2, 7), (3, 7), (0, 8), (1, 8), (2, 8), (3, 8)]) (by kernel_rfl) (by kernel_rfl) ?_
                refine ih (xs.length - k - (k2 + 1)) _ _ _ (by omega) ⟨w + 1, k2 + 1, ys.set (k + w) (xs.getD (k + k2) 0), by omega, by omega, rfl, by rw [List.length_set]; exact hyl, ?_⟩
                have hci : ((k2 + 1 : Nat) : Int) = (k2 : Int) + 1 := by omega
                have hci2 : ((k + (w + 1) : Nat) : Int) = ((k + w : Nat) : Int) + 1 := by omega
                have hsb : k + (k2 + 1) - 1 = k + k2 := by omega
                have hsb2 : k + (w + 1) - 1 = k + w := by omega
                have s1 : (ys.set (k + w) (xs.getD (k + k2) 0)).drop (k + k2) = xs.drop (k + k2) := by rw [List.drop_set_of_lt (by omega)]; exact r3'
                have s2 : (ys.set (k + w) (xs.getD (k + k2) 0)).getD (k + w) 0 = xs.getD (k + k2) 0 := by simp [List.getD, show k + w < ys.length by omega]
                have s3 : (ys.set (k + w) (xs.getD (k + k2) 0)).take (k + w) = ys.take (k + w - 1) ++ [xs.getD (k + k2 - 1) 0] := by
                  rw [List.take_set_of_le (Nat.le_refl _), take_pred (by omega) (by omega), r4]
                have s4 : C = (ys.set (k + w) (xs.getD (k + k2) 0)).take (k + w) ++ cmpL (xs.drop (k + k2)) := by rw [s3, List.append_assoc]; exact r5
                have s5 : ∀ i, i ≠ b → (h2.set b (some (.cells (PT.ofList .leaf 0 ((ys.set (k + w) (xs.getD (k + k2) 0)).map (.int .i64))) false))).get i = h'.get i := fun i hi => by rw [heap_ne (by omega)]; exact r2 i hi
                rw [hci, hci2, hsb, hsb2]
                clear r2 r3 r3' r4 r5 hq s3
                simp (config := { maxSteps := 2000000 }) (disch := omega) only [go_sem, *]
                exact s5
            · have f7 : ¬ (k2 : Int) < ((xs.length - k : Nat) : Int) := by omega
              have hcl : ((Nat.ble (k + w + (List.replicate (xs.length - (k + w)) (Value.int .i64 0)).length) xs.length || (List.replicate (xs.length - (k + w)) (Value.int .i64 0)).isEmpty) && (List.replicate (xs.length - (k + w)) (Value.int .i64 0)).all oneCell) = true := by
                rw [List.length_replicate, all_one_ints, Nat.ble_eq_true_of_le (by omega)]; rfl
              have hC2 : C = ys.take (k + w) := by
                rw [r5, show k + k2 - 1 = xs.length - 1 by omega, cmpL_last (by omega), take_pred (k := k + w) (by omega) (by omega), r4, show k + k2 - 1 = xs.length - 1 by omega]
              have hCl : C.length = k + w := by rw [hC2, List.length_take]; omega
              clear ih r3 r4 r5
              repeat' first | simp (config := { maxSteps := 2000000 }) (disch := omega) only [go_sem, *, Try.results46, clr80] | (first | apply EvG_ndec | apply EvC_ndec | apply EvG_dec | apply EvC_dec | apply EvC_nbool | apply EvC_bool | apply EvG_nbool | apply EvG_bool) <;> intro _ | (first | apply EvH_ndec | apply EvH_dec | apply EvH_nbool | apply EvH_bool) <;> intro _ | refine EvK_draw (id := 6) (L := [(0, 1), (0, 4), (1, 4), (2, 4), (3, 4), (0, 5), (1, 5), (2, 5), (3, 5), (4, 5), (0, 6), (1, 6), (2, 6), (3, 6), (4, 6), (0, 7), (1, 7), (2, 7), (3, 7), (0, 8), (1, 8), (2, 8), (3, 8)]) (by kernel_rfl) (by kernel_rfl) ?_ | refine EvK_draw (id := 11) (L := [(0, 1), (0, 4), (1, 4), (2, 4), (3, 4), (0, 5), (1, 5), (2, 5), (3, 5), (4, 5), (0, 6), (1, 6), (2, 6), (3, 6), (4, 6), (0, 7), (1, 7), (2, 7), (3, 7), (0, 8), (1, 8), (2, 8), (3, 8)]) (by kernel_rfl) (by kernel_rfl) ?_
              have hTl : (ys.take (k + w)).length = k + w := by rw [List.length_take]; omega
              refine ⟨_, by rw [hTl, Nat.sub_zero], rfl, by rw [putL_length, List.length_map]; exact hyl, ?_, fun i hi => by rw [heap_ne (fun q => hi q.symm)]; exact r2 i hi⟩
              rw [hTl, putL_take _ _ _ _ (Nat.le_refl _), List.map_take]
        · rw [if_neg (fun q => heq q.symm)] at hCk
          clear hC
          repeat' first | simp (config := { maxSteps := 2000000 }) (disch := omega) only [go_sem, *, Try.results46] | (first | apply EvG_ndec | apply EvC_ndec | apply EvG_dec | apply EvC_dec | apply EvC_nbool | apply EvC_bool | apply EvG_nbool | apply EvG_bool) <;> intro _ | (first | apply EvH_ndec | apply EvH_dec | apply EvH_nbool | apply EvH_bool) <;> intro _ | refine EvK_draw (id := 6) (L := [(0, 1), (0, 4), (1, 4), (2, 4), (3, 4), (0, 5), (1, 5), (2, 5), (3, 5), (4, 5), (0, 6), (1, 6), (2, 6), (3, 6), (4, 6), (0, 7), (1, 7), (2, 7), (3, 7), (0, 8), (1, 8), (2, 8), (3, 8)]) (by kernel_rfl) (by kernel_rfl) ?_ | refine EvK_draw (id := 11) (L := [(0, 1), (0, 4), (1, 4), (2, 4), (3, 4), (0, 5), (1, 5), (2, 5), (3, 5), (4, 5), (0, 6), (1, 6), (2, 6), (3, 6), (4, 6), (0, 7), (1, 7), (2, 7), (3, 7), (0, 8), (1, 8), (2, 8), (3, 8)]) (by kernel_rfl) (by kernel_rfl) ?_
          refine ih (xs.length - (k + 1)) _ _ _ (by omega) ⟨k + 1, by omega, by omega, rfl, ?_⟩
          have hci : ((k + 1 : Nat) : Int) = (k : Int) + 1 := by omega
          rw [hci]
          simp (config := { maxSteps := 2000000 }) (disch := omega) only [go_sem, *]
          rw [Nat.add_sub_cancel, take_pred hk1 hk2, List.append_assoc]
          rfl
      · have e7 : ¬ (k : Int) < xs.length := by omega
        have hCx : C = xs := by
          rw [hCk, show k - 1 = xs.length - 1 by omega, cmpL_last (by omega)]
          have := take_pred (xs := xs) (k := xs.length) (by omega) (Nat.le_refl _)
          rw [← this, List.take_length]
        subst hCx
        clear ih hC hCk
        repeat' first | simp (config := { maxSteps := 2000000 }) (disch := omega) only [go_sem, *, Try.results46] | (first | apply EvG_ndec | apply EvC_ndec | apply EvG_dec | apply EvC_dec | apply EvC_nbool | apply EvC_bool | apply EvG_nbool | apply EvG_bool) <;> intro _ | (first | apply EvH_ndec | apply EvH_dec | apply EvH_nbool | apply EvH_bool) <;> intro _ | refine EvK_draw (id := 6) (L := [(0, 1), (0, 4), (1, 4), (2, 4), (3, 4), (0, 5), (1, 5), (2, 5), (3, 5), (4, 5), (0, 6), (1, 6), (2, 6), (3, 6), (4, 6), (0, 7), (1, 7), (2, 7), (3, 7), (0, 8), (1, 8), (2, 8), (3, 8)]) (by kernel_rfl) (by kernel_rfl) ?_ | refine EvK_draw (id := 11) (L := [(0, 1), (0, 4), (1, 4), (2, 4), (3, 4), (0, 5), (1, 5), (2, 5), (3, 5), (4, 5), (0, 6), (1, 6), (2, 6), (3, 6), (4, 6), (0, 7), (1, 7), (2, 7), (3, 7), (0, 8), (1, 8), (2, 8), (3, 8)]) (by kernel_rfl) (by kernel_rfl) ?_
        exact ⟨C.map (.int .i64), rfl, by simp, take_map_self, fun _ _ => trivial⟩
end Go.Proofs.Ythhohpbghfbkbaa

set_option linter.unusedVariables false
set_option linter.unusedSimpArgs false
namespace Go.Proofs.Ythhohpbghfbkbaa
open Go.Am

theorem EvK_gen {z : Zx} {c : Code} {K : List KF} {m : Tm} {h : PT ABlk} {n : Nat} (Q : Tm → Prop) (hp : Q m) (H : ∀ m', Q m' → EvK z c K m' h n) : EvK z c K m h n := H m hp

theorem EvK_range' {z : Zx} {K : List KF} {m : Tm} {h : PT ABlk} {n : Nat} {g : Operand} {ps : Array Tmp} {ac bd : Code} {f : FuncId} {args : List Value} {fn : Fn} {first captured : Array Value} {R : PT ABlk → Nat → Prop} (hn : m.n = z.N) (hro : z.ro = none) (hg : opFlat g = true) (he : m.eval g = .func fn first captured)
    (hc : aInvoke z.P fn captured.toList (first.toList ++ [.func (.yield (n + 1)) ⟨[]⟩ ⟨[]⟩]) = .pure (.enter f args)) (hO : z.O f args = none)
    (hB : EvB z.P z.O f args ((h.set n (some .deferred)).set (n + 1) (some (.loop .ready none m ps.toList ac bd))) (n + 2) fun _ h' n' => R h' n' ∧ h'.get (n + 1) = some (.loop .ready none m ps.toList ac bd))
    (hk : ∀ h' n', R h' n' → Rs z K .normal (setD m (n :: m.dfs)) (h'.set (n + 1) (some (.loop .exhausted none m ps.toList ac bd))) n') : EvK z (.rangeFunc g ps ac bd) K m h n :=
  EvK_range hn hro hg he hc hO hB fun v h' n' r => ⟨r.2, hk h' n' r.1⟩

theorem RoundB_at {P : Program} {O : Over} {h : PT ABlk} {n : Nat} {l N : Nat} {m0 : Tm} {ac bd : Code} {R : Bool → PT ABlk → Nat → Prop} {tm : Tm} {ps : List Tmp}
    (H : ∀ z0 : Zx, z0.P = P → z0.O = O → z0.ro = some l → z0.N = N → z0.Q = (fun e m1 h1 n1 => e = .normal ∧ h1.get l = some (.loop .ready none tm ps ac bd) ∧
      ∀ z1 : Zx, z1.P = P → z1.O = O → z1.ro = some l → z1.N = N → z1.Q = (fun e2 m2 h2 n2 => h2.get l = some (.loop .busy none tm ps ac bd) ∧ R (exitCode e2).isNone (h2.set l (some (.loop (cond (exitCode e2).isNone .ready .done) (exitCode e2) tm ps ac bd))) n2) →
        EvK z1 bd [] m1 (h1.set l (some (.loop .busy none tm ps ac bd))) n1) → EvK z0 ac [] m0 h n) : RoundB P O l m0 ac bd h n R := RoundB_of H
@[go_sem] theorem exitCode_normal : exitCode .normal = none := rfl

theorem someB {O : Over} (k : Int) (h : PT ABlk) (n : Nat) : EvB Try.prog O 43 [.int .i64 k] h n fun v h' n' => v = .int .i64 (if 1 ≤ k ∧ k ≤ 16 then 0 else 2) ∧ h' = h ∧ n' = n := by
  by_cases h1 : k < 1
  · rw [if_neg (by omega)]
    refine EvB_run (N := 9) Try.func43 rfl rfl fun z hP hO hro hN hQ => ?_
    repeat' first | simp (config := { maxSteps := 2000000 }) (disch := omega) only [go_sem, *, Try.results43] | (first | apply EvG_ndec | apply EvC_ndec | apply EvG_dec | apply EvC_dec | apply EvC_nbool | apply EvC_bool | apply EvG_nbool | apply EvG_bool) <;> intro _
  · by_cases h2 : 16 < k
    · rw [if_neg (by omega)]
      refine EvB_run (N := 9) Try.func43 rfl rfl fun z hP hO hro hN hQ => ?_
      repeat' first | simp (config := { maxSteps := 2000000 }) (disch := omega) only [go_sem, *, Try.results43] | (first | apply EvG_ndec | apply EvC_ndec | apply EvG_dec | apply EvC_dec | apply EvC_nbool | apply EvC_bool | apply EvG_nbool | apply EvG_bool) <;> intro _
    · rw [if_pos (by omega)]
      refine EvB_run (N := 9) Try.func43 rfl rfl fun z hP hO hro hN hQ => ?_
      repeat' first | simp (config := { maxSteps := 2000000 }) (disch := omega) only [go_sem, *, Try.results43] | (first | apply EvG_ndec | apply EvC_ndec | apply EvG_dec | apply EvC_dec | apply EvC_nbool | apply EvC_bool | apply EvG_nbool | apply EvG_bool) <;> intro _
theorem membersB {O : Over} (s : Int) (h : PT ABlk) (n : Nat) : EvB Try.prog O 44 [.int .u64 s] h n fun v h' n' => v = .func (.func 55) ⟨[]⟩ ⟨[.pointer (some ⟨n, 0, none⟩)]⟩ ∧ h' = h.set n (some (.cells (PT.ofList .leaf 0 [.int .u64 s]) false)) ∧ n' = n + 1 := by
  refine EvB_run (N := 4) Try.func44 rfl rfl fun z hP hO hro hN hQ => ?_
  repeat' first | simp (config := { maxSteps := 2000000 }) (disch := omega) only [go_sem, *, Try.results44] | (first | apply EvG_ndec | apply EvC_ndec | apply EvG_dec | apply EvC_dec | apply EvC_nbool | apply EvC_bool | apply EvG_nbool | apply EvG_bool) <;> intro _

theorem compactNil {O : Over} (h : PT ABlk) (n : Nat) : EvB Try.prog O 46 [.slice none 0 0] h n fun v h' n' => v = .slice none 0 0 ∧ h' = h ∧ n' = n := by
  refine EvB_run (N := 61) Try.func46 rfl rfl fun z hP hO hro hN hQ => ?_
  repeat' first | simp (config := { maxSteps := 2000000 }) (disch := omega) only [go_sem, *, Try.results46] | (first | apply EvG_ndec | apply EvC_ndec | apply EvG_dec | apply EvC_dec | apply EvC_nbool | apply EvC_bool | apply EvG_nbool | apply EvG_bool) <;> intro _ | (first | apply EvH_ndec | apply EvH_dec | apply EvH_nbool | apply EvH_bool) <;> intro _ | refine EvK_draw (id := 6) (L := [(0, 1), (0, 4), (1, 4), (2, 4), (3, 4), (0, 5), (1, 5), (2, 5), (3, 5), (4, 5), (0, 6), (1, 6), (2, 6), (3, 6), (4, 6), (0, 7), (1, 7), (2, 7), (3, 7), (0, 8), (1, 8), (2, 8), (3, 8)]) (by kernel_rfl) (by kernel_rfl) ?_ | refine EvK_draw (id := 11) (L := [(0, 1), (0, 4), (1, 4), (2, 4), (3, 4), (0, 5), (1, 5), (2, 5), (3, 5), (4, 5), (0, 6), (1, 6), (2, 6), (3, 6), (4, 6), (0, 7), (1, 7), (2, 7), (3, 7), (0, 8), (1, 8), (2, 8), (3, 8)]) (by kernel_rfl) (by kernel_rfl) ?_
theorem bitsFrom_length : ∀ (f v s : Nat), (bitsFrom f v s).length ≤ f
  | 0, v, s => by simp [bitsFrom]
  | f + 1, v, s => by
    have := bitsFrom_length f (v + 1) (s / 2)
    rw [bitsFrom]
    split
    · simp
    · split
      · simp only [List.length_cons]; omega
      · omega

/-- The buckets of a set. -/
def bks (k : Nat) (ws : List Nat) : List Int := ws.map fun v => ((v % k : Nat) : Int)
def bkts (s k : Nat) : List Int := cmpL (sorted (bks k (bitsFrom 64 0 s)))

/-- What holds between the rounds: the row of the numbers so far. -/
structure BkI (h0 : PT ABlk) (N k : Nat) (ws : List Nat) (h : PT ABlk) (n : Nat) : Prop where
  out : ∃ sl, h.get (N + 1) = some (.cells (PT.ofList .leaf 0 [sl]) false) ∧ ((ws = [] ∧ sl = .slice none 0 0) ∨ ∃ g, N + 5 ≤ g ∧ sl = .slice (some ⟨g, 0, none⟩) ws.length (capInf + 1) ∧ h.get g = some (.cells (PT.ofList .leaf 0 ((bks k ws).map (.int .i64))) false) ∧ ws ≠ [])
  box : h.get N = some (.cells (PT.ofList .leaf 0 [.int .i64 k]) false)
  dfr : h.get (N + 3) = some .deferred
  kept : Kept h0 h

set_option maxRecDepth 100000 in
set_option maxHeartbeats 2000000 in
theorem buckets {O : Over} (o50 : O 45 = sortS) (o48 : O 43 = fun _ => none) (o49 : O 44 = fun _ => none) (o51 : O 46 = fun _ => none) (o58 : O 55 = fun _ => none) (s k : Nat) (hs : s < 2 ^ 64) (hk1 : 1 ≤ k) (hk2 : k ≤ 16) (h : PT ABlk) (N : Nat) (hW : WfH h N) :
    EvB Try.prog O 36 [.int .u64 s, .int .i64 k] h N fun v h' n' => ∃ sl, v = .tuple ⟨[sl, .int .i64 0]⟩ ∧ IsInts .i64 h' sl (bkts s k) ∧ Kept h h' := by
  refine EvB_runD (N := 27) Try.func36 rfl rfl fun z hP hO hro hN hQ => ?_
  repeat' first | simp (config := { maxSteps := 2000000 }) (disch := omega) only [go_sem, *, Try.results36] | (first | apply EvG_ndec | apply EvC_ndec | apply EvG_dec | apply EvC_dec | apply EvC_nbool | apply EvC_bool | apply EvG_nbool | apply EvG_bool) <;> intro _ | (first | apply EvH_ndec | apply EvH_dec | apply EvH_nbool | apply EvH_bool) <;> intro _ | refine EvK_draw (id := 7) (L := [(0, 1), (0, 2), (1, 2), (0, 3), (0, 4)]) (by kernel_rfl) (by kernel_rfl) ?_
  refine EvQ_call ?_ ?_ (by rw [hP, hO]; exact someB k _ _) ?_
  · simp (config := { maxSteps := 2000000 }) (disch := omega) only [go_sem, *]
  · simp (config := { maxSteps := 2000000 }) (disch := omega) only [go_sem, *]
  rintro v h2 n2 ⟨rfl, rfl, rfl⟩
  rw [if_pos (by omega)]
  repeat' first | simp (config := { maxSteps := 2000000 }) (disch := omega) only [go_sem, *, Try.results36] | (first | apply EvG_ndec | apply EvC_ndec | apply EvG_dec | apply EvC_dec | apply EvC_nbool | apply EvC_bool | apply EvG_nbool | apply EvG_bool) <;> intro _ | (first | apply EvH_ndec | apply EvH_dec | apply EvH_nbool | apply EvH_bool) <;> intro _ | refine EvK_draw (id := 7) (L := [(0, 1), (0, 2), (1, 2), (0, 3), (0, 4)]) (by kernel_rfl) (by kernel_rfl) ?_
  refine EvQ_call ?_ ?_ (by rw [hP, hO]; exact membersB s _ _) ?_
  · simp (config := { maxSteps := 2000000 }) (disch := omega) only [go_sem, *]
  · simp (config := { maxSteps := 2000000 }) (disch := omega) only [go_sem, *]
  rintro v h2 n2 ⟨rfl, rfl, rfl⟩
  repeat' first | simp (config := { maxSteps := 2000000 }) (disch := omega) only [go_sem, *, Try.results36] | (first | apply EvG_ndec | apply EvC_ndec | apply EvG_dec | apply EvC_dec | apply EvC_nbool | apply EvC_bool | apply EvG_nbool | apply EvG_bool) <;> intro _ | (first | apply EvH_ndec | apply EvH_dec | apply EvH_nbool | apply EvH_bool) <;> intro _ | refine EvK_draw (id := 7) (L := [(0, 1), (0, 2), (1, 2), (0, 3), (0, 4)]) (by kernel_rfl) (by kernel_rfl) ?_
  refine EvK_gen (fun m' => m'.n = 27 ∧ m'.dfs = [] ∧ m'.get 3 = .pointer (some ⟨N, 0, none⟩) ∧ m'.get 7 = .pointer (some ⟨N + 1, 0, none⟩) ∧ m'.get 15 = .func (.func 55) ⟨[]⟩ ⟨[.pointer (some ⟨N + 2, 0, none⟩)]⟩) ?_ ?_
  · simp (config := { maxSteps := 2000000 }) (disch := omega) only [go_sem, *]
  rintro m ⟨m1, m2, m3, m4, m5⟩
  generalize hhr : PT.set (PT.set (PT.set h N _) (N + 1) _) (N + 1 + 1) _ = hr
  have e1 : hr.get N = some (.cells (PT.ofList .leaf 0 [.int .i64 k]) false) := by rw [← hhr]; simp (disch := omega) only [heap_ne, heap_same]
  have e2 : hr.get (N + 1) = some (.cells (PT.ofList .leaf 0 [.slice none 0 0]) false) := by rw [← hhr]; simp (disch := omega) only [heap_ne, heap_same]
  have e3 : hr.get (N + 2) = some (.cells (PT.ofList .leaf 0 [.int .u64 s]) false) := by rw [← hhr]; exact heap_same
  have hWr : WfH hr (N + 3) := by rw [← hhr]; exact WfH.set' (by omega) (WfH.set' (by omega) (hW.set (by omega) (by omega)))
  have hkr : Kept h hr := by rw [← hhr]; exact Kept.set' hW (by omega) (Kept.set' hW (by omega) (hW.kept (Nat.le_refl _)))
  clear hhr
  refine EvK_range' (f := 55) (args := [.func (.yield (N + 4)) ⟨[]⟩ ⟨[]⟩, .pointer (some ⟨N + 2, 0, none⟩)]) (R := fun h' n' => BkI h N k (bitsFrom 64 0 s) h' n' ∧ WfH h' n' ∧ N + 5 ≤ n') (by rw [m1, hN]) hro rfl m5 (by rw [hP]; rfl) (by rw [hO, o58]) ?_ ?_
  · rw [hP, hO]
    refine (membersIt (N + 4) (N + 2) s hs m 16 (by omega) _ _ (fun ws h' n' => BkI h N k ws h' n') _ (N + 5) (WfH.set' (by omega) (hWr.set (by omega) (by omega))) ?_ heap_same (by omega) ?_ ?_ ?_).mono fun v h' n' q => ⟨⟨q.1, q.2.2.1, q.2.2.2⟩, q.2.1⟩
    · simp (disch := omega) only [heap_ne]; exact e3
    · refine ⟨⟨.slice none 0 0, ?_, .inl ⟨rfl, rfl⟩⟩, ?_, ?_, Kept.set' hW (by omega) (Kept.set' hW (by omega) hkr)⟩
      · simp (disch := omega) only [heap_ne]; exact e2
      · simp (disch := omega) only [heap_ne]; exact e1
      · rw [heap_ne (by omega)]; exact heap_same
    · rintro ws h' n' x ⟨⟨sl, o1, o2⟩, o3, o4, o5⟩
      refine ⟨⟨sl, by rw [heap_ne (by omega)]; exact o1, ?_⟩, by rw [heap_ne (by omega)]; exact o3, by rw [heap_ne (by omega)]; exact o4, Kept.set' hW (by omega) o5⟩
      rcases o2 with q | ⟨g, g1, g2, g3, g4⟩
      · exact .inl q
      · exact .inr ⟨g, g1, g2, by rw [heap_ne (by omega)]; exact g3, g4⟩
    · rintro ws v h' n' hW' hN' ⟨⟨sl, o1, o2⟩, o3, o4, o5⟩ hl hv hwv
      have hk0 : ¬ (k : Int) = 0 := by omega
      have hvr : (v : Int).tmod k = ((v % k : Nat) : Int) := rfl
      refine RoundB_at (N := 27) (tm := m) (ps := [16]) fun z0 h0P h0O h0ro h0N h0Q => ?_
      repeat' first | simp (config := { maxSteps := 2000000 }) (disch := omega) only [go_sem, *, Try.results36] | (first | apply EvG_ndec | apply EvC_ndec | apply EvG_dec | apply EvC_dec | apply EvC_nbool | apply EvC_bool | apply EvG_nbool | apply EvG_bool) <;> intro _ | (first | apply EvH_ndec | apply EvH_dec | apply EvH_nbool | apply EvH_bool) <;> intro _ | refine EvK_draw (id := 7) (L := [(0, 1), (0, 2), (1, 2), (0, 3), (0, 4)]) (by kernel_rfl) (by kernel_rfl) ?_
      intro z1 h1P h1O h1ro h1N h1Q
      clear h0P h0O h0ro h0N h0Q hQ hP hO hro hN o50 o48 o49 o51 o58 e1 e2 e3
      rcases o2 with ⟨rfl, rfl⟩ | ⟨g, g1, rfl, g3, g4⟩
      · repeat' first | simp (config := { maxSteps := 2000000 }) (disch := omega) only [go_sem, *, Try.results36] | (first | apply EvG_ndec | apply EvC_ndec | apply EvG_dec | apply EvC_dec | apply EvC_nbool | apply EvC_bool | apply EvG_nbool | apply EvG_bool) <;> intro _ | (first | apply EvH_ndec | apply EvH_dec | apply EvH_nbool | apply EvH_bool) <;> intro _ | refine EvK_draw (id := 7) (L := [(0, 1), (0, 2), (1, 2), (0, 3), (0, 4)]) (by kernel_rfl) (by kernel_rfl) ?_
        refine ⟨⟨⟨.slice (some ⟨n' + 1, 0, none⟩) 1 (capInf + 1), by simp (disch := omega) only [heap_ne, heap_same], .inr ⟨n' + 1, by omega, rfl, by simp (disch := omega) only [heap_ne, heap_same]; rfl, by simp⟩⟩, by simp (disch := omega) only [heap_ne]; exact o3, by simp (disch := omega) only [heap_ne]; exact o4, ?_⟩, ?_, by omega⟩
        · exact Kept.set' hW (by omega) (Kept.set' hW (by omega) (Kept.set' hW (by omega) (Kept.set' hW (by omega) (Kept.set' hW (by omega) o5))))
        · exact WfH.set' (by omega) (WfH.set' (by omega) (WfH.set' (by omega) (WfH.set' (by omega) (hW'.mono (by omega) |>.set (Nat.le_refl _) (by omega)))))
      · have hgn := hW'.lt g3
        have hbl : (bks k ws).length = ws.length := by simp [bks]
        have htk : List.take ws.length ((bks k ws).map (Value.int .i64)) = (bks k ws).map (.int .i64) := by rw [← hbl]; exact take_map_self
        have hml : ((bks k ws).map (Value.int .i64)).length = ws.length := by rw [List.length_map]; exact hbl
        have hble : Nat.ble (ws.length + 1) 1048576 = true := Nat.ble_eq_true_of_le (by omega)
        have hgN3 : g ≠ N + 3 ∧ g ≠ N ∧ g ≠ N + 1 := by omega
        have hsn : (bks k ws).map (Value.int .i64) ++ [.int .i64 ((v % k : Nat) : Int)] = (bks k (ws ++ [v])).map (.int .i64) := by simp [bks]
        repeat' first | simp (config := { maxSteps := 2000000 }) (disch := omega) only [go_sem, *, Try.results36] | (first | apply EvG_ndec | apply EvC_ndec | apply EvG_dec | apply EvC_dec | apply EvC_nbool | apply EvC_bool | apply EvG_nbool | apply EvG_bool) <;> intro _ | (first | apply EvH_ndec | apply EvH_dec | apply EvH_nbool | apply EvH_bool) <;> intro _ | refine EvK_draw (id := 7) (L := [(0, 1), (0, 2), (1, 2), (0, 3), (0, 4)]) (by kernel_rfl) (by kernel_rfl) ?_
        refine ⟨⟨⟨.slice (some ⟨n' + 1, 0, none⟩) (ws.length + 1) (capInf + 1), by simp (disch := omega) only [heap_ne, heap_same], .inr ⟨n' + 1, by omega, by rw [List.length_append]; rfl, by simp (disch := omega) only [heap_ne, heap_same], by simp⟩⟩, by simp (disch := omega) only [heap_ne]; exact o3, by simp (disch := omega) only [heap_ne]; exact o4, ?_⟩, ?_, by omega⟩
        · exact Kept.set' hW (by omega) (Kept.set' hW (by omega) (Kept.set' hW (by omega) (Kept.set' hW (by omega) (Kept.set' hW (by omega) (Kept.set' hW (by omega) o5)))))
        · exact WfH.set' (by omega) (WfH.set' (by omega) (WfH.set' (by omega) (WfH.set' (by omega) (WfH.set' (by omega) (hW'.mono (by omega) |>.set (Nat.le_refl _) (by omega))))))
  · rintro h' n' ⟨⟨⟨sl, o1, o2⟩, o3, o4, o5⟩, hW', hN'⟩
    have hl64 := bitsFrom_length 64 0 s
    have hbs : bkts s k = cmpL (sorted (bks k (bitsFrom 64 0 s))) := rfl
    generalize bitsFrom 64 0 s = ws at *
    generalize bkts s k = C at *
    subst hbs
    clear e1 e2 e3
    have hkd : ∀ g, Kept h (PT.set (PT.set h' (N + 4) g) (N + 3) none) := fun g => Kept.set' hW (by omega) (Kept.set' hW (by omega) o5)
    rcases o2 with ⟨rfl, rfl⟩ | ⟨g, g1, rfl, g3, g4⟩
    · repeat' first | simp (config := { maxSteps := 2000000 }) (disch := omega) only [go_sem, *, Try.results36, sortS] | (first | apply EvG_ndec | apply EvC_ndec | apply EvG_dec | apply EvC_dec | apply EvC_nbool | apply EvC_bool | apply EvG_nbool | apply EvG_bool) <;> intro _ | (first | apply EvH_ndec | apply EvH_dec | apply EvH_nbool | apply EvH_bool) <;> intro _ | refine EvK_draw (id := 7) (L := [(0, 1), (0, 2), (1, 2), (0, 3), (0, 4)]) (by kernel_rfl) (by kernel_rfl) ?_
      refine EvQ_call ?_ ?_ (by rw [hP, hO]; exact compactNil _ _) ?_
      · simp (config := { maxSteps := 2000000 }) (disch := omega) only [go_sem, *]
      · simp (config := { maxSteps := 2000000 }) (disch := omega) only [go_sem, *]
      rintro v h2 n2 ⟨rfl, rfl, rfl⟩
      repeat' first | simp (config := { maxSteps := 2000000 }) (disch := omega) only [go_sem, *, Try.results36] | (first | apply EvG_ndec | apply EvC_ndec | apply EvG_dec | apply EvC_dec | apply EvC_nbool | apply EvC_bool | apply EvG_nbool | apply EvG_bool) <;> intro _ | (first | apply EvH_ndec | apply EvH_dec | apply EvH_nbool | apply EvH_bool) <;> intro _ | refine EvK_draw (id := 7) (L := [(0, 1), (0, 2), (1, 2), (0, 3), (0, 4)]) (by kernel_rfl) (by kernel_rfl) ?_
      exact ⟨_, rfl, .inl ⟨rfl, by simp [bks, sorted, cmpL]⟩⟩
    · have hgn := hW'.lt g3
      have hbl : (bks k ws).length = ws.length := by simp [bks]
      have hws : 0 < ws.length := by
        cases ws with
        | nil => exact absurd rfl g4
        | cons _ _ => simp
      have hb1 : Nat.ble ws.length 100000 = true := Nat.ble_eq_true_of_le (by omega)
      have hb2 : Nat.blt 0 ws.length = true := Nat.ble_eq_true_of_le hws
      have hsl : (sorted (bks k ws)).length = ws.length := by rw [sorted_length]; exact hbl
      repeat' first | simp (config := { maxSteps := 2000000 }) (disch := omega) only [go_sem, *, Try.results36, sortS] | (first | apply EvG_ndec | apply EvC_ndec | apply EvG_dec | apply EvC_dec | apply EvC_nbool | apply EvC_bool | apply EvG_nbool | apply EvG_bool) <;> intro _ | (first | apply EvH_ndec | apply EvH_dec | apply EvH_nbool | apply EvH_bool) <;> intro _ | refine EvK_draw (id := 7) (L := [(0, 1), (0, 2), (1, 2), (0, 3), (0, 4)]) (by kernel_rfl) (by kernel_rfl) ?_
      generalize hh2 : PT.set (PT.set h' (N + 1 + 1 + 1 + 1) _) g _ = h2
      have f1 : h2.get g = some (.cells (PT.ofList .leaf 0 ((sorted (bks k ws)).map (.int .i64))) false) := get_of_set hh2
      have f2 : h2.get (N + 1) = some (.cells (PT.ofList .leaf 0 [.slice (some ⟨g, 0, none⟩) ws.length (capInf + 1)]) false) := by rw [← hh2]; simp (disch := omega) only [heap_ne]; exact o1
      have f3 : h2.get (N + 3) = some .deferred := by rw [← hh2]; simp (disch := omega) only [heap_ne]; exact o4
      have f4 : Kept h h2 := by rw [← hh2]; exact Kept.set' hW (by omega) (Kept.set' hW (by omega) o5)
      have f5 : WfH h2 n' := by rw [← hh2]; exact WfH.set' (by omega) (hW'.set (Nat.le_refl _) (by omega))
      have hcc := compact (O := O) g (sorted (bks k ws)) h2 n' f5 f1 (by omega) (by omega)
      rw [hsl] at hcc
      clear hh2 o1 o3 o4 o5 g3 hkd
      repeat' first | simp (config := { maxSteps := 2000000 }) (disch := omega) only [go_sem, *, Try.results36] | (first | apply EvG_ndec | apply EvC_ndec | apply EvG_dec | apply EvC_dec | apply EvC_nbool | apply EvC_bool | apply EvG_nbool | apply EvG_bool) <;> intro _ | (first | apply EvH_ndec | apply EvH_dec | apply EvH_nbool | apply EvH_bool) <;> intro _ | refine EvK_draw (id := 7) (L := [(0, 1), (0, 2), (1, 2), (0, 3), (0, 4)]) (by kernel_rfl) (by kernel_rfl) ?_
      refine EvQ_call ?_ ?_ (by rw [hP, hO]; exact hcc) ?_
      · simp (config := { maxSteps := 2000000 }) (disch := omega) only [go_sem, *]
      · simp (config := { maxSteps := 2000000 }) (disch := omega) only [go_sem, *]
      rintro v h3 n3 ⟨L', rfl, p1, p2, p3, rfl, p4⟩
      have f6 := (p4 (N + 3) (by omega)).trans f3
      have f7 : Kept h (h3.set (N + 3) none) := Kept.set' hW (by omega) fun i B e => by
        have := hW.lt e
        rw [p4 i (by omega)]; exact f4 i B e
      have f8 : (h3.set (N + 3) none).get g = some (.cells (PT.ofList .leaf 0 L') false) := by rw [heap_ne (by omega)]; exact p1
      have hIn : IsInts .i64 (h3.set (N + 3) none) (.slice (some ⟨g, 0, none⟩) (cmpL (sorted (bks k ws))).length (capInf + 1)) (cmpL (sorted (bks k ws))) := by
        refine .inr ⟨g, 0, none, _, L', false, rfl, f8, ?_, by rw [List.drop_zero]; exact p3⟩
        have := congrArg List.length p3
        rw [List.length_take, List.length_map] at this
        rw [Nat.zero_add, Nat.ble_eq_true_of_le (by omega)]; rfl
      clear hcc p1 p2 p3 p4 f8
      repeat' first | simp (config := { maxSteps := 2000000 }) (disch := omega) only [go_sem, *, Try.results36] | (first | apply EvG_ndec | apply EvC_ndec | apply EvG_dec | apply EvC_dec | apply EvC_nbool | apply EvC_bool | apply EvG_nbool | apply EvG_bool) <;> intro _ | (first | apply EvH_ndec | apply EvH_dec | apply EvH_nbool | apply EvH_bool) <;> intro _ | refine EvK_draw (id := 7) (L := [(0, 1), (0, 2), (1, 2), (0, 3), (0, 4)]) (by kernel_rfl) (by kernel_rfl) ?_
      exact ⟨_, rfl, hIn⟩
end Go.Proofs.Ythhohpbghfbkbaa
