/-
  A part of the proof: contracts of inner functions.
-/
import Derived.Test.YtlnglgpipkmiaaaGreatPM
import Derived.Test.YtlnglgpipkmiaaaGreatPX2
import Derived.Test.YtlnglgpipkmiaaaGreatPX9
set_option linter.unusedVariables false
set_option linter.unusedSimpArgs false
namespace Go.Proofs.YtlnglgpipkmiaaaGreat
open Go.Am
theorem rep_one (x : Value) : ∀ k, rep [x] k = List.replicate k x
  | 0 => rfl
  | k + 1 => by rw [rep, rep_one x k]; rfl
def mixW (W : List Int) (i : Nat) : List Value := (W.take i).map (.int .u64) ++ List.replicate (W.length - i) (.int .u64 0)
theorem mixW_length (W : List Int) (i : Nat) (hi : i ≤ W.length) : (mixW W i).length = W.length := by
  unfold mixW
  rw [List.length_append, List.length_map, List.length_take, List.length_replicate]
  omega
theorem mixW_zero (W : List Int) : mixW W 0 = rep [.int .u64 0] W.length := by
  rw [rep_one]; rfl
theorem mixW_end (W : List Int) : mixW W W.length = W.map (.int .u64) := by
  unfold mixW
  rw [List.take_length, Nat.sub_self, List.replicate_zero, List.append_nil]
theorem mixW_get {W : List Int} {i : Nat} (hi : i < W.length) : (mixW W i)[i]? = some (.int .u64 0) := by
  unfold mixW
  rw [List.getElem?_append_right (by rw [List.length_map, List.length_take]; omega), List.length_map, List.length_take, Nat.min_eq_left (by omega), Nat.sub_self]
  rw [List.getElem?_replicate, if_pos (by omega)]
theorem mixW_set {W : List Int} {i : Nat} (hi : i < W.length) : (mixW W i).set i (.int .u64 W[i]) = mixW W (i + 1) := by
  unfold mixW
  have e : ((W.take i).map (Value.int .u64)).length = i := by rw [List.length_map, List.length_take]; omega
  rw [List.set_append_right _ _ (by rw [e]; exact Nat.le_refl _), e, Nat.sub_self, List.take_succ_eq_append_getElem hi, List.map_append, List.append_assoc]
  have e2 : W.length - i = (W.length - (i + 1)) + 1 := by omega
  rw [e2, List.replicate_succ]
  rfl
set_option maxRecDepth 100000 in
set_option maxHeartbeats 8000000 in
theorem memNewB {O : Over} (o1 : O 35 = fun _ => none) (o2 : O 36 = fun _ => none) (b cap : Nat) (W : List Int) (ro : Bool) (h : PT ABlk) (N : Nat) (hW : WfH h N) (hb : h.get b = some (.cells (PT.ofList .leaf 0 (W.map (.int .u64))) ro)) (h1 : 0 < W.length) (h2 : W.length ≤ 65536) :
    EvB Tryz.prog O 15 [.slice (some ⟨b, 0, none⟩) W.length cap] h N fun v h' n' => v = tup [pt (N + 1), I6 0] ∧ n' = N + 2 ∧ h'.get (N + 1) = row [.slice (some ⟨N, 0, none⟩) W.length W.length, .slice none 0 0] ∧ h'.get N = row (W.map (.int .u64)) ∧ Kept h h' ∧ WfH h' n' := by
  have hbN := hW.lt hb
  have hm0 := mixW_zero W
  have hble : W.length.ble 1048576 = true := Nat.ble_eq_true_of_le (by omega)
  have h3 : ¬ (W.length : Int) = 0 := by omega
  have h4 : ¬ (65536 : Int) < W.length := by omega
  refine EvB_run (N := 36) Tryz.func15 rfl rfl fun z hP hO hro hN hQ => ?_
  repeat' first | simp (maxSteps := 2000000) (disch := first | omega | assumption) only [go_sem, *] | (apply xs <;> intro _) <;> try omega | refine fun (_ _ : List Nat) => ?_ | (first | refine inQ Tryz.func35 rfl ?_ ?_ ?_ ?_ | refine inQ Tryz.func36 rfl ?_ ?_ ?_ ?_ | fail) <;> intros
  refine ind_loop (fun t m h' n' => ∃ i : Nat, i ≤ W.length ∧ t = W.length - i ∧ m.n = 36 ∧ m.dfs = [] ∧ m.get 5 = pt (N + 1) ∧ m.get 19 = .slice (some ⟨b, 0, none⟩) W.length cap ∧ m.get 20 = I6 W.length ∧ m.get 21 = I6 i ∧ n' = N + 2 ∧
    h'.get (N + 1) = row [.slice (some ⟨N, 0, none⟩) W.length W.length, .slice none 0 0] ∧ h'.get N = row (mixW W i) ∧ Kept h h' ∧ WfH h' n') W.length ?_ ?_
  · refine ⟨0, by omega, by omega, ?_⟩
    rw [hm0]
    simp (maxSteps := 2000000) (disch := first | omega | assumption) only [go_sem, *]
    exact ⟨Kept.set' hW (by omega) (Kept.set' hW (Nat.le_refl _) (Kept.refl _)), (hW.set (Nat.le_succ _) (by omega)).set (Nat.le_succ _) (by omega)⟩
  · clear hm0
    rintro t m h' n' ih ⟨i, hi, rfl, m1, m2, m3, m4, m5, m6, rfl, q1, q2, q3, q4⟩
    rcases Nat.lt_or_ge i W.length with hlt | hge
    · have e7 : (i : Int) < W.length := by omega
      have hb' := q3 _ _ hb
      have hg := mapW_get hlt
      have hmg := mixW_get hlt
      have hms := mixW_set hlt
      have hml := mixW_length W i (by omega)
      have hci : ((i + 1 : Nat) : Int) = (i : Int) + 1 := by omega
      generalize W[i] = x at *
      clear hb
      repeat' first | simp (maxSteps := 2000000) (disch := first | omega | assumption) only [go_sem, *] | (apply xs <;> intro _) <;> try omega | refine fun (_ _ : List Nat) => ?_ | (first | refine inQ Tryz.func35 rfl ?_ ?_ ?_ ?_ | refine inQ Tryz.func36 rfl ?_ ?_ ?_ ?_ | fail) <;> intros
      refine ih (W.length - (i + 1)) _ _ _ (by omega) ⟨i + 1, by omega, rfl, ?_⟩
      rw [hci]
      clear ih
      simp (maxSteps := 2000000) (disch := first | omega | assumption) only [go_sem, *]
      exact ⟨Kept.set' hW (by omega) q3, q4.set (Nat.le_refl _) (by omega)⟩
    · have e7 : ¬ (i : Int) < W.length := by omega
      obtain rfl : i = W.length := by omega
      rw [mixW_end] at q2
      clear ih
      repeat' first | simp (maxSteps := 2000000) (disch := first | omega | assumption) only [go_sem, *] | (apply xs <;> intro _) <;> try omega | refine fun (_ _ : List Nat) => ?_ | (first | refine inQ Tryz.func35 rfl ?_ ?_ ?_ ?_ | refine inQ Tryz.func36 rfl ?_ ?_ ?_ ?_ | fail) <;> intros
end Go.Proofs.YtlnglgpipkmiaaaGreat
set_option linter.unusedVariables false
set_option linter.unusedSimpArgs false
namespace Go.Proofs.YtlnglgpipkmiaaaGreat
open Go.Am
theorem OPs : OP 35 = fun _ => none := rfl
set_option maxRecDepth 100000 in
set_option maxHeartbeats 8000000 in
theorem newFB {h : PT ABlk} {nn : Nat} {d : Rl → Nat} {C : Rl → Option ABlk} {W : List Int} {L : List Value} {k : Nat} (S : St h nn d C) (M : IsM d C W L k) (hW : W.length = 6) :
    EvB Tryz.prog OP 17 [pt (d rM), U8 1, I6 0, I6 6, I6 0] h nn fun r h' n' => ∃ d' C', r = tup [pt (d' (4, 0)), I6 0] ∧ St h' n' d' C' ∧ EngF d' C' 0 6 (nl 6 fun _ => 0) (bl 6 fun _ => false) ∧ (∀ a b, a ≠ 4 → a ≠ 5 → a ≠ 6 → a ≠ 7 → d' (a, b) = d (a, b) ∧ C' (a, b) = C (a, b)) := by
  obtain ⟨m1, m2, m3, m4⟩ := M
  have g0 := S.at m1
  have gw := S.at m2
  have n0 := S.lt m1
  have nw := S.lt m2
  have hg := mapW_get (W := W) (i := 5) (by omega)
  rw [hW] at g0
  generalize W[5] = y at *
  clear m1 m2 m3 m4
  refine EvB_run (N := 86) Tryz.func17 rfl rfl fun z hP hO hro hN hQ => ?_
  repeat' first | simp (maxSteps := 2000000) (disch := first | omega | assumption) only [go_sem, *] | (apply xs <;> intro _) <;> try omega | ((with_reducible refine isD 11 ?_); refine dw 47 11 w37_11 (by first | (simp only [go_sem, *]; done) | rfl) (by kernel_rfl) (by kernel_rfl) ?_) | refine fun (_ _ : List Nat) => ?_ | (first | refine inQ Tryz.func32 rfl ?_ ?_ ?_ ?_ | refine inQ Tryz.func65 rfl ?_ ?_ ?_ ?_ | refine inQ Tryz.func66 rfl ?_ ?_ ?_ ?_ | refine inQ Tryz.func67 rfl ?_ ?_ ?_ ?_ | refine inQ Tryz.func37 rfl ?_ ?_ ?_ ?_ | refine inQ Tryz.func38 rfl ?_ ?_ ?_ ?_ | refine inQ Tryz.func39 rfl ?_ ?_ ?_ ?_ | refine inQ Tryz.func69 rfl ?_ ?_ ?_ ?_ | refine inQ Tryz.func94 rfl ?_ ?_ ?_ ?_ | refine inQ Tryz.func93 rfl ?_ ?_ ?_ ?_ | fail) <;> intros
  refine ⟨_, _, by simp (disch := first | decide | assumption | omega) only [rM, rW, rL, upd_same, upd_tag, upd_num, memC_ne], ((((S.new (4, 0) _ (Nat.le_refl _) (Nat.lt_succ_self _)).new (6, 0) _ (Nat.le_refl _) (Nat.lt_succ_self _)).new (7, 0) _ (Nat.le_refl _) (Nat.lt_succ_self _)).new (5, 0) _ (Nat.le_refl _) (Nat.lt_succ_self _)).set (4, 0) _ (by (simp (disch := first | decide | assumption | omega) only [rM, rW, rL, upd_same, upd_tag, upd_num, memC_ne]) <;> rfl) (by (simp (disch := first | decide | assumption | omega) only [rM, rW, rL, upd_same, upd_tag, upd_num, memC_ne]) <;> rfl), ⟨by (simp (disch := first | decide | assumption | omega) only [rM, rW, rL, upd_same, upd_tag, upd_num, memC_ne]) <;> rfl, by (simp (disch := first | decide | assumption | omega) only [rM, rW, rL, upd_same, upd_tag, upd_num, memC_ne]) <;> rfl, by (simp (disch := first | decide | assumption | omega) only [rM, rW, rL, upd_same, upd_tag, upd_num, memC_ne]) <;> rfl, by (simp (disch := first | decide | assumption | omega) only [rM, rW, rL, upd_same, upd_tag, upd_num, memC_ne]) <;> rfl, nl_length, bl_length⟩, fun a b c1 c2 c3 c4 => ⟨by simp (disch := first | decide | assumption | omega) only [rM, rW, rL, upd_same, upd_tag, upd_num, memC_ne], by simp (disch := first | decide | assumption | omega) only [rM, rW, rL, upd_same, upd_tag, upd_num, memC_ne]⟩⟩
set_option maxRecDepth 100000 in
set_option maxHeartbeats 8000000 in
theorem newEB {h : PT ABlk} {nn : Nat} {d : Rl → Nat} {C : Rl → Option ABlk} {W : List Int} {L : List Value} {k : Nat} (S : St h nn d C) (M : IsM d C W L k) (hW : W.length = 12) :
    EvB Tryz.prog OP 17 [pt (d rM), U8 2, I6 0, I6 6, I6 0] h nn fun r h' n' => ∃ d' C', r = tup [pt (d' (4, 0)), I6 0] ∧ St h' n' d' C' ∧ EngE d' C' 0 6 (List.replicate 6 (0, false)) ∧ (∀ a b, a ≠ 4 → a ≠ 5 → a ≠ 6 → a ≠ 7 → d' (a, b) = d (a, b) ∧ C' (a, b) = C (a, b)) := by
  obtain ⟨m1, m2, m3, m4⟩ := M
  have g0 := S.at m1
  have gw := S.at m2
  have n0 := S.lt m1
  have nw := S.lt m2
  have hg := mapW_get (W := W) (i := 11) (by omega)
  rw [hW] at g0
  generalize W[11] = y at *
  clear m1 m2 m3 m4
  refine EvB_run (N := 86) Tryz.func17 rfl rfl fun z hP hO hro hN hQ => ?_
  repeat' first | simp (maxSteps := 2000000) (disch := first | omega | assumption) only [go_sem, *] | (apply xs <;> intro _) <;> try omega | ((with_reducible refine isD 11 ?_); refine dw 47 11 w37_11 (by first | (simp only [go_sem, *]; done) | rfl) (by kernel_rfl) (by kernel_rfl) ?_) | refine fun (_ _ : List Nat) => ?_ | (first | refine inQ Tryz.func32 rfl ?_ ?_ ?_ ?_ | refine inQ Tryz.func65 rfl ?_ ?_ ?_ ?_ | refine inQ Tryz.func66 rfl ?_ ?_ ?_ ?_ | refine inQ Tryz.func67 rfl ?_ ?_ ?_ ?_ | refine inQ Tryz.func37 rfl ?_ ?_ ?_ ?_ | refine inQ Tryz.func38 rfl ?_ ?_ ?_ ?_ | refine inQ Tryz.func39 rfl ?_ ?_ ?_ ?_ | refine inQ Tryz.func69 rfl ?_ ?_ ?_ ?_ | refine inQ Tryz.func94 rfl ?_ ?_ ?_ ?_ | refine inQ Tryz.func93 rfl ?_ ?_ ?_ ?_ | fail) <;> intros
  refine ⟨_, _, by simp (disch := first | decide | assumption | omega) only [rM, rW, rL, upd_same, upd_tag, upd_num, memC_ne], ((((S.new (4, 0) _ (Nat.le_refl _) (Nat.lt_succ_self _)).new (7, 0) _ (Nat.le_refl _) (Nat.lt_succ_self _)).new (6, 0) _ (Nat.le_refl _) (Nat.lt_succ_self _)).new (5, 0) _ (Nat.le_refl _) (Nat.lt_succ_self _)).set (4, 0) _ (by (simp (disch := first | decide | assumption | omega) only [rM, rW, rL, upd_same, upd_tag, upd_num, memC_ne]) <;> rfl) (by (simp (disch := first | decide | assumption | omega) only [rM, rW, rL, upd_same, upd_tag, upd_num, memC_ne]) <;> rfl), ⟨by (simp (disch := first | decide | assumption | omega) only [rM, rW, rL, upd_same, upd_tag, upd_num, memC_ne]) <;> rfl, by (simp (disch := first | decide | assumption | omega) only [rM, rW, rL, upd_same, upd_tag, upd_num, memC_ne]) <;> rfl, by (simp (disch := first | decide | assumption | omega) only [rM, rW, rL, upd_same, upd_tag, upd_num, memC_ne]) <;> rfl, by (simp (disch := first | decide | assumption | omega) only [rM, rW, rL, upd_same, upd_tag, upd_num, memC_ne]) <;> rfl, rfl⟩, fun a b c1 c2 c3 c4 => ⟨by simp (disch := first | decide | assumption | omega) only [rM, rW, rL, upd_same, upd_tag, upd_num, memC_ne], by simp (disch := first | decide | assumption | omega) only [rM, rW, rL, upd_same, upd_tag, upd_num, memC_ne]⟩⟩
set_option maxRecDepth 100000 in
set_option maxHeartbeats 8000000 in
theorem newGB {h : PT ABlk} {nb nn : Nat} {d : Rl → Nat} {C : Rl → Option ABlk} {W : List Int} {L : List Value} {k : Nat} (S : St h nn d C) (M : IsM d C W L k) (hn : 0 < nb ∧ nb ≤ 16) (hW : W.length = 4 * nb) :
    EvB Tryz.prog OP 17 [pt (d rM), U8 3, I6 0, I6 6, I6 nb] h nn fun r h' n' => ∃ d' C', r = tup [pt (d' (4, 0)), I6 0] ∧ St h' n' d' C' ∧ EngG d' C' 0 nb 6 [] 0 ∧ (∀ a b, a ≠ 4 → a ≠ 5 → a ≠ 6 → a ≠ 7 → d' (a, b) = d (a, b) ∧ C' (a, b) = C (a, b)) := by
  obtain ⟨m1, m2, m3, m4⟩ := M
  have g0 := S.at m1
  have gw := S.at m2
  have n0 := S.lt m1
  have nw := S.lt m2
  have hg := mapW_get (W := W) (i := 4 * nb - 1) (by omega)
  rw [hW] at g0
  obtain ⟨hn1, hn2⟩ := hn
  have hc1 : (4 : Int) * nb - 1 = ((4 * nb - 1 : Nat) : Int) := by omega
  have hc2 : ((4 * nb - 1 : Nat) : Int) < ((4 * nb : Nat) : Int) := by omega
  have hc3 : (0 : Int) ≤ ((4 * nb - 1 : Nat) : Int) := by omega
  have hc4 : 4 * nb - 1 < 4 * nb := by omega
  have hc5 : (0 + 4 * (nb : Int) - 1).toNat = 4 * nb - 1 := by omega
  have hc6 : (0 : Int) + 4 * nb - 1 < ((4 * nb : Nat) : Int) := by omega
  generalize W[4 * nb - 1] = y at *
  clear m1 m2 m3 m4
  refine EvB_run (N := 86) Tryz.func17 rfl rfl fun z hP hO hro hN hQ => ?_
  repeat' first | simp (maxSteps := 2000000) (disch := first | omega | assumption) only [go_sem, *] | (apply xs <;> intro _) <;> try omega | ((with_reducible refine isD 11 ?_); refine dw 47 11 w37_11 (by first | (simp only [go_sem, *]; done) | rfl) (by kernel_rfl) (by kernel_rfl) ?_) | refine fun (_ _ : List Nat) => ?_ | (first | refine inQ Tryz.func32 rfl ?_ ?_ ?_ ?_ | refine inQ Tryz.func65 rfl ?_ ?_ ?_ ?_ | refine inQ Tryz.func66 rfl ?_ ?_ ?_ ?_ | refine inQ Tryz.func67 rfl ?_ ?_ ?_ ?_ | refine inQ Tryz.func37 rfl ?_ ?_ ?_ ?_ | refine inQ Tryz.func38 rfl ?_ ?_ ?_ ?_ | refine inQ Tryz.func39 rfl ?_ ?_ ?_ ?_ | refine inQ Tryz.func69 rfl ?_ ?_ ?_ ?_ | refine inQ Tryz.func94 rfl ?_ ?_ ?_ ?_ | refine inQ Tryz.func93 rfl ?_ ?_ ?_ ?_ | fail) <;> intros
  refine ⟨_, _, by simp (disch := first | decide | assumption | omega) only [rM, rW, rL, upd_same, upd_tag, upd_num, memC_ne], (((S.new (4, 0) _ (Nat.le_refl _) (Nat.lt_succ_self _)).new (6, 0) _ (Nat.le_refl _) (Nat.lt_succ_self _)).new (5, 0) _ (Nat.le_refl _) (Nat.lt_succ_self _)).set (4, 0) _ (by (simp (disch := first | decide | assumption | omega) only [rM, rW, rL, upd_same, upd_tag, upd_num, memC_ne]) <;> rfl) (by (simp (disch := first | decide | assumption | omega) only [rM, rW, rL, upd_same, upd_tag, upd_num, memC_ne]) <;> rfl), ⟨by (simp (disch := first | decide | assumption | omega) only [rM, rW, rL, upd_same, upd_tag, upd_num, memC_ne]) <;> rfl, by (simp (disch := first | decide | assumption | omega) only [rM, rW, rL, upd_same, upd_tag, upd_num, memC_ne]) <;> rfl, by (simp (disch := first | decide | assumption | omega) only [rM, rW, rL, upd_same, upd_tag, upd_num, memC_ne]) <;> rfl⟩, fun a b c1 c2 c3 c4 => ⟨by simp (disch := first | decide | assumption | omega) only [rM, rW, rL, upd_same, upd_tag, upd_num, memC_ne], by simp (disch := first | decide | assumption | omega) only [rM, rW, rL, upd_same, upd_tag, upd_num, memC_ne]⟩⟩
end Go.Proofs.YtlnglgpipkmiaaaGreat
set_option linter.unusedVariables false
set_option linter.unusedSimpArgs false
namespace Go.Proofs.YtlnglgpipkmiaaaGreat
open Go.Am
theorem memNewS {h : PT ABlk} {n b cap : Nat} {d : Rl → Nat} {C : Rl → Option ABlk} {W : List Int} {ro : Bool} (S : St h n d C) (hb : h.get b = rowr (W.map (.int .u64)) ro) (h1 : 0 < W.length) (h2 : W.length ≤ 65536) :
    EvB Tryz.prog OP 15 [.slice (some ⟨b, 0, none⟩) W.length cap] h n fun v h' n' => ∃ d' C', v = tup [pt (d' rM), I6 0] ∧ St h' n' d' C' ∧ IsM d' C' W [] 0 ∧ ∀ a b, 2 < a → d' (a, b) = d (a, b) ∧ C' (a, b) = C (a, b) := by
  obtain ⟨kk, v, h', n', e, rfl, rfl, q1, q2, q3, q4⟩ := memNewB (O := OP) rfl rfl b cap W ro h n S.wf hb h1 h2
  refine ⟨kk, _, h', _, e, _, _, by simp (disch := first | decide | assumption | omega) only [rM, rW, rL, upd_same, upd_tag, upd_num, memC_ne], ((S.kept q3 q4).give rW q2 fun s D c => ?_).give rM q1 fun s D c => ?_, ⟨by simp (disch := first | decide | assumption | omega) only [rM, rW, rL, upd_same, upd_tag, upd_num, memC_ne]; rfl, by simp (disch := first | decide | assumption | omega) only [rM, rW, rL, upd_same, upd_tag, upd_num, memC_ne], .inl ⟨rfl, rfl⟩, rfl⟩, fun a b c => ⟨by simp (disch := first | decide | assumption | omega) only [rM, rW, rL, upd_same, upd_tag, upd_num, memC_ne], by simp (disch := first | decide | assumption | omega) only [rM, rW, rL, upd_same, upd_tag, upd_num, memC_ne]⟩⟩
  · have := S.lt c; omega
  · by_cases c2 : s = rW
    · subst c2; rw [upd_same]; omega
    · rw [upd_ne c2] at c ⊢
      have := S.lt c; omega
theorem IsM.of {d d' : Rl → Nat} {C C' : Rl → Option ABlk} {W : List Int} {L : List Value} {k : Nat} (M : IsM d C W L k) (hd : ∀ a, a < 3 → d' (a, 0) = d (a, 0) ∧ C' (a, 0) = C (a, 0)) : IsM d' C' W L k := by
  obtain ⟨m1, m2, m3, m4⟩ := M
  refine ⟨?_, ?_, ?_, m4⟩
  · rw [(hd 0 (by omega)).2, (hd 1 (by omega)).1, (hd 2 (by omega)).1]; exact m1
  · rw [(hd 1 (by omega)).2]; exact m2
  · rw [(hd 2 (by omega)).2]; exact m3
def CS.new {e : Eng} (s : e.σ) : CS e := ⟨s, fun _ => 0, fun _ => 0, fun _ => 0, fun _ => none⟩
def FS.new : FS := ⟨fun _ => 0, fun _ => false, fun _ => none⟩
theorem repF_new {d : Rl → Nat} {C : Rl → Option ABlk} (M : IsM d C (nl 6 fun _ => 0) [] 0) (E : EngF d C 0 6 (nl 6 fun _ => 0) (bl 6 fun _ => false)) : RepF FS.new 0 d C :=
  ⟨⟨[], M⟩, E, fun _ _ => Nat.le_refl _, fun _ _ h => by simp [FS.new] at h, fun _ _ h => by simp [FS.new] at h, fun _ _ _ h => by simp [FS.new] at h⟩
set_option maxRecDepth 100000 in
set_option maxHeartbeats 2000000 in
theorem beginF {h : PT ABlk} {n : Nat} {nb : Int} {d : Rl → Nat} {C : Rl → Option ABlk} (S : St h n d C) :
    EvB Tryz.prog OP 7 [U8 1, I6 nb] h n fun r h' n' => ∃ d' C', r = pt (d' (3, 0)) ∧ St h' n' d' C' ∧ RepC RepF (CS.new (e := engF) FS.new) 0 d' C' ∧ ∀ b, d' (30, b) = d (30, b) ∧ C' (30, b) = C (30, b) := by
  refine EvB_run (N := 52) Tryz.func7 rfl rfl fun z hP hO hro hN hQ => ?_
  repeat' first | simp (maxSteps := 2000000) (disch := first | omega | assumption) only [go_sem, *] | (apply xs <;> intro _) <;> try omega | refine fun (_ _ : List Nat) => ?_ | (first | refine inQ Tryz.func32 rfl ?_ ?_ ?_ ?_ | refine inQ Tryz.func65 rfl ?_ ?_ ?_ ?_ | refine inQ Tryz.func66 rfl ?_ ?_ ?_ ?_ | refine inQ Tryz.func67 rfl ?_ ?_ ?_ ?_ | fail) <;> intros
  refine cal (memNewS (W := nl 6 fun _ => 0) (S.junk (Nat.le_refl _) (Nat.lt_succ_self _)) (by rw [heap_same]; rfl) (by decide) (by decide)) (by simp only [*]) (by simp only [*]) (by simp only [go_sem, *]) (by simp only [go_sem, *]) ?_
  rintro r h2 n2 ⟨d1, C1, rfl, S1, M1, k1⟩
  repeat' first | simp (maxSteps := 2000000) (disch := first | omega | assumption) only [go_sem, *] | (apply xs <;> intro _) <;> try omega | refine fun (_ _ : List Nat) => ?_ | (first | refine inQ Tryz.func32 rfl ?_ ?_ ?_ ?_ | refine inQ Tryz.func65 rfl ?_ ?_ ?_ ?_ | refine inQ Tryz.func66 rfl ?_ ?_ ?_ ?_ | refine inQ Tryz.func67 rfl ?_ ?_ ?_ ?_ | fail) <;> intros
  refine cal (newFB S1 M1 rfl) (by simp only [*]) (by simp only [*]) (by simp only [go_sem, *]) (by simp only [go_sem, *]) ?_
  rintro r h3 n3 ⟨d2, C2, rfl, S2, E2, k2⟩
  repeat' first | simp (maxSteps := 2000000) (disch := first | omega | assumption) only [go_sem, *] | (apply xs <;> intro _) <;> try omega | refine fun (_ _ : List Nat) => ?_ | (first | refine inQ Tryz.func32 rfl ?_ ?_ ?_ ?_ | refine inQ Tryz.func65 rfl ?_ ?_ ?_ ?_ | refine inQ Tryz.func66 rfl ?_ ?_ ?_ ?_ | refine inQ Tryz.func67 rfl ?_ ?_ ?_ ?_ | fail) <;> intros
  have dM : Go.Am.upd d2 (3, 0) n3 rM = d1 rM := (upd_tag (by decide)).trans (k2 0 0 (by decide) (by decide) (by decide) (by decide)).1
  have dP : Go.Am.upd d2 (3, 0) n3 (4, 0) = d2 (4, 0) := upd_tag (by decide)
  have M2 : IsM d2 C2 (nl 6 fun _ => 0) [] 0 := M1.of fun a ha => k2 a 0 (by omega) (by omega) (by omega) (by omega)
  refine ⟨_, _, by simp (disch := first | decide | assumption | omega) only [rM, rW, rL, upd_same, upd_tag, upd_num, memC_ne], S2.new (3, 0) _ (Nat.le_refl _) (Nat.lt_succ_self _), ⟨repF_cliC (repF_cliD (repF_new M2 E2) (.inl rfl)) (.inl rfl), upd_same.trans ?_, fun t m _ h => by simp [CS.new] at h, fun _ _ => Nat.le_refl _, fun t _ h => by simp [CS.new, FS.new] at h⟩, fun b => ⟨by simp (disch := first | decide | assumption | omega) only [rM, rW, rL, upd_same, upd_tag, upd_num, memC_ne]; exact ((k2 30 b (by decide) (by decide) (by decide) (by decide)).1.trans (k1 30 b (by decide)).1), by simp (disch := first | decide | assumption | omega) only [rM, rW, rL, upd_same, upd_tag, upd_num, memC_ne]; exact ((k2 30 b (by decide) (by decide) (by decide) (by decide)).2.trans (k1 30 b (by decide)).2)⟩⟩
  rw [← dM, ← dP]
  rfl
end Go.Proofs.YtlnglgpipkmiaaaGreat
