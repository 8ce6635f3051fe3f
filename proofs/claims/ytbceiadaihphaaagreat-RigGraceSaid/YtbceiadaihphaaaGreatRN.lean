/-
  A part of the proof: contracts of inner functions.
-/
import Derived.Test.YtbceiadaihphaaaGreatPM
import Derived.Test.YtbceiadaihphaaaGreatRX2E
import Derived.Test.YtbceiadaihphaaaGreatRX6G
set_option linter.unusedVariables false
set_option linter.unusedSimpArgs false
namespace Go.Proofs.YtbceiadaihphaaaGreat
open Go.Am
theorem rep_one (x : Value) : ∀ k, rep [x] k = List.replicate k x
 | 0 => rfl
 | k + 1 => by rw [rep, rep_one x k]; rfl
def mixW (W : List Int) (i : Nat) : List Value := (W.take i).map (.int .u64) ++ List.replicate (W.length - i) (.int .u64 0)
theorem mixW_length (W : List Int) (i : Nat) (hi : i ≤ W.length) : (mixW W i).length = W.length := by
 unfold mixW
 rw [List.length_append, List.length_map, List.length_take, List.length_replicate]
 omega
theorem mixW_zero (W : List Int) : mixW W 0 = rep [.int .u64 0] W.length := by
 rw [rep_one]; rfl
theorem mixW_end (W : List Int) : mixW W W.length = W.map (.int .u64) := by
 unfold mixW
 rw [List.take_length, Nat.sub_self, List.replicate_zero, List.append_nil]
theorem mixW_get {W : List Int} {i : Nat} (hi : i < W.length) : (mixW W i)[i]? = some (.int .u64 0) := by
 unfold mixW
 rw [List.getElem?_append_right (by rw [List.length_map, List.length_take]; omega), List.length_map, List.length_take, Nat.min_eq_left (by omega), Nat.sub_self]
 rw [List.getElem?_replicate, if_pos (by omega)]
theorem mixW_set {W : List Int} {i : Nat} (hi : i < W.length) : (mixW W i).set i (.int .u64 W[i]) = mixW W (i + 1) := by
 unfold mixW
 have e : ((W.take i).map (Value.int .u64)).length = i := by rw [List.length_map, List.length_take]; omega
 rw [List.set_append_right _ _ (by rw [e]; exact Nat.le_refl _), e, Nat.sub_self, List.take_succ_eq_append_getElem hi, List.map_append, List.append_assoc]
 have e2 : W.length - i = (W.length - (i + 1)) + 1 := by omega
 rw [e2, List.replicate_succ]
 rfl
set_option maxRecDepth 100000 in
set_option maxHeartbeats 8000000 in
theorem memNewB {O : Over} (o1 : O 64 = fun _ => none) (o2 : O 65 = fun _ => none) (b cap : Nat) (W : List Int) (ro : Bool) (h : PT ABlk) (N : Nat) (hW : WfH h N) (hb : h.get b = some (.cells (PT.ofList .leaf 0 (W.map (.int .u64))) ro)) (h1 : 0 < W.length) (h2 : W.length ≤ 65536) :
  EvB Tryz.prog O 31 [.slice (some ⟨b, 0, none⟩) W.length cap] h N fun v h' n' => v = tup [pt (N + 1), I6 0] ∧ n' = N + 2 ∧ h'.get (N + 1) = row [.slice (some ⟨N, 0, none⟩) W.length W.length, .slice none 0 0] ∧ h'.get N = row (W.map (.int .u64)) ∧ Kept h h' ∧ WfH h' n' := by
 have hbN := hW.lt hb
 have hm0 := mixW_zero W
 have hble : W.length.ble 1048576 = true := Nat.ble_eq_true_of_le (by omega)
 have h3 : ¬ (W.length : Int) = 0 := by omega
 have h4 : ¬ (65536 : Int) < W.length := by omega
 refine EvB_run (N := 36) Tryz.func31 rfl rfl fun z hP hO hro hN hQ => ?_
 repeat' first | simp (maxSteps := 2000000) (disch := first | omega | assumption) only [go_sem, *] | (apply xs <;> intro _) <;> try omega | refine fun (_ _ : List Nat) => ?_ | (first | refine inQ Tryz.func64 rfl ?_ ?_ ?_ ?_ | fail) <;> intros
 refine ind_loop (fun t m h' n' => ∃ i : Nat, i ≤ W.length ∧ t = W.length - i ∧ m.n = 36 ∧ m.dfs = [] ∧ m.get 5 = pt (N + 1) ∧ m.get 19 = .slice (some ⟨b, 0, none⟩) W.length cap ∧ m.get 20 = I6 W.length ∧ m.get 21 = I6 i ∧ n' = N + 2 ∧
  h'.get (N + 1) = row [.slice (some ⟨N, 0, none⟩) W.length W.length, .slice none 0 0] ∧ h'.get N = row (mixW W i) ∧ Kept h h' ∧ WfH h' n') W.length ?_ ?_
 ·refine ⟨0, by omega, by omega, ?_⟩
  rw [hm0]
  simp (maxSteps := 2000000) (disch := first | omega | assumption) only [go_sem, *]
  exact ⟨Kept.set' hW (by omega) (Kept.set' hW (Nat.le_refl _) (Kept.refl _)), (hW.set (Nat.le_succ _) (by omega)).set (Nat.le_succ _) (by omega)⟩
 ·clear hm0
  rintro t m h' n' ih ⟨i, hi, rfl, m1, m2, m3, m4, m5, m6, rfl, q1, q2, q3, q4⟩
  rcases Nat.lt_or_ge i W.length with hlt | hge
  ·have e7 : (i : Int) < W.length := by omega
   have hb' := q3 _ _ hb
   have hg := mapW_get hlt
   have hmg := mixW_get hlt
   have hms := mixW_set hlt
   have hml := mixW_length W i (by omega)
   have hci : ((i + 1 : Nat) : Int) = (i : Int) + 1 := by omega
   generalize W[i] = x at *
   clear hb
   repeat' first | simp (maxSteps := 2000000) (disch := first | omega | assumption) only [go_sem, *] | (apply xs <;> intro _) <;> try omega | refine fun (_ _ : List Nat) => ?_ | (first | refine inQ Tryz.func65 rfl ?_ ?_ ?_ ?_ | fail) <;> intros
   refine ih (W.length - (i + 1)) _ _ _ (by omega) ⟨i + 1, by omega, rfl, ?_⟩
   rw [hci]
   clear ih
   simp (maxSteps := 2000000) (disch := first | omega | assumption) only [go_sem, *]
   exact ⟨Kept.set' hW (by omega) q3, q4.set (Nat.le_refl _) (by omega)⟩
  ·have e7 : ¬ (i : Int) < W.length := by omega
   obtain rfl : i = W.length := by omega
   rw [mixW_end] at q2
   clear ih
   repeat' first | simp (maxSteps := 2000000) (disch := first | omega | assumption) only [go_sem, *] | (apply xs <;> intro _) <;> try omega | refine fun (_ _ : List Nat) => ?_
end Go.Proofs.YtbceiadaihphaaaGreat
set_option linter.unusedVariables false
set_option linter.unusedSimpArgs false
namespace Go.Proofs.YtbceiadaihphaaaGreat
open Go.Am
theorem nl_zero (m : Nat) : rep [Value.int .u64 0] m = (nl m fun _ => 0).map (.int .u64) := by
 rw [rep_one]
 unfold nl
 rw [List.map_map]
 apply List.ext_getElem?
 intro j
 rw [List.getElem?_replicate, List.getElem?_map]
 by_cases c : j < m
 ·rw [if_pos c, List.getElem?_range c]; rfl
 ·rw [if_neg c, List.getElem?_eq_none (by rw [List.length_range]; omega)]; rfl
theorem bl_zero (m : Nat) : rep [Value.bool false] m = (bl m fun _ => false).map .bool := by
 rw [rep_one]
 unfold bl
 rw [List.map_map]
 apply List.ext_getElem?
 intro j
 rw [List.getElem?_replicate, List.getElem?_map]
 by_cases c : j < m
 ·rw [if_pos c, List.getElem?_range c]; rfl
 ·rw [if_neg c, List.getElem?_eq_none (by rw [List.length_range]; omega)]; rfl
theorem sl_zero : ∀ m, rep [Value.int .u64 0, .bool false] m = slL (List.replicate m (0, false))
 | 0 => rfl
 | m + 1 => by rw [rep, sl_zero m, List.replicate_succ, slL_cons]; rfl
set_option maxRecDepth 100000 in
set_option maxHeartbeats 8000000 in
theorem newFB {h : PT ABlk} {ns nn : Nat} {d : Rl → Nat} {C : Rl → Option ABlk} {W : List Int} {L : List Value} {k : Nat} (S : St h nn d C) (M : IsM d C W L k) (hns : 0 < ns ∧ ns ≤ 64) (hW : W.length = ns) :
  EvB Tryz.prog OP 32 [pt (d rM), U8 1, I6 0, I6 ns, I6 0] h nn fun r h' n' => ∃ d' C', r = tup [pt (d' (4, 0)), I6 0] ∧ St h' n' d' C' ∧ EngF d' C' 0 ns (nl ns fun _ => 0) (bl ns fun _ => false) ∧ (∀ a b, a ≠ 4 → a ≠ 5 → a ≠ 6 → a ≠ 7 → d' (a, b) = d (a, b) ∧ C' (a, b) = C (a, b)) := by
 obtain ⟨m1, m2, m3, m4⟩ := M
 have g0 := S.at m1
 have gw := S.at m2
 have n0 := S.lt m1
 have nw := S.lt m2
 have hg := mapW_get (W := W) (i := ns - 1) (by omega)
 rw [hW] at g0
 obtain ⟨hn1, hn2⟩ := hns
 have hz := nl_zero ns
 have hz2 := bl_zero ns
 have hz3 := sl_zero ns
 have hc0 : ¬ (ns : Int) < 1 := by omega
 have hc1 : ¬ (64 : Int) < ns := by omega
 have hc2 : ((ns - 1 : Nat) : Int) < ((ns : Nat) : Int) := by omega
 have hc3 : (0 : Int) ≤ ((ns - 1 : Nat) : Int) := by omega
 have hc4 : ns - 1 < ns := by omega
 have hc5 : (0 +  (ns : Int) - 1).toNat = ns - 1 := by omega
 have hc6 : (0 : Int) +  (ns : Int) - 1 < ((ns : Nat) : Int) := by omega
 have hc7 : Nat.ble ns 1048576 = true := Nat.ble_eq_true_of_le (by omega)
 generalize W[ns - 1] = y at *
 clear m1 m2 m3 m4
 refine EvB_run (N := 86) Tryz.func32 rfl rfl fun z hP hO hro hN hQ => ?_
 repeat' first | simp (maxSteps := 2000000) (disch := first | omega | assumption) only [go_sem, *] | (apply xs <;> intro _) <;> try omega | ((with_reducible refine isD 11 ?_); refine dw 47 11 w66_11 (by first | (simp only [go_sem, *]; done) | rfl) (by kernel_rfl) (by kernel_rfl) ?_) | refine fun (_ _ : List Nat) => ?_ | (first | refine inQ Tryz.func30 rfl ?_ ?_ ?_ ?_ | refine inQ Tryz.func61 rfl ?_ ?_ ?_ ?_ | refine inQ Tryz.func66 rfl ?_ ?_ ?_ ?_ | refine inQ Tryz.func79 rfl ?_ ?_ ?_ ?_ | refine inQ Tryz.func90 rfl ?_ ?_ ?_ ?_ | refine inQ Tryz.func89 rfl ?_ ?_ ?_ ?_ | fail) <;> intros
 refine ⟨_, _, by simp (disch := first | decide | assumption | omega) only [rM, rW, rL, upd_same, upd_tag, upd_num, memC_ne], ((((S.new (4, 0) _ (Nat.le_refl _) (Nat.lt_succ_self _)).new (6, 0) _ (Nat.le_refl _) (Nat.lt_succ_self _)).new (7, 0) _ (Nat.le_refl _) (Nat.lt_succ_self _)).new (5, 0) _ (Nat.le_refl _) (Nat.lt_succ_self _)).set (4, 0) _ (by (simp (disch := first | decide | assumption | omega) only [rM, rW, rL, upd_same, upd_tag, upd_num, memC_ne]) <;> rfl) (by (simp (disch := first | decide | assumption | omega) only [rM, rW, rL, upd_same, upd_tag, upd_num, memC_ne]) <;> rfl), ⟨by (simp (disch := first | decide | assumption | omega) only [rM, rW, rL, upd_same, upd_tag, upd_num, memC_ne]) <;> rfl, by (simp (disch := first | decide | assumption | omega) only [rM, rW, rL, upd_same, upd_tag, upd_num, memC_ne]) <;> rfl, by (simp (disch := first | decide | assumption | omega) only [rM, rW, rL, upd_same, upd_tag, upd_num, memC_ne]) <;> rfl, by (simp (disch := first | decide | assumption | omega) only [rM, rW, rL, upd_same, upd_tag, upd_num, memC_ne]) <;> rfl, nl_length, bl_length⟩, fun a b c1 c2 c3 c4 => ⟨by simp (disch := first | decide | assumption | omega) only [rM, rW, rL, upd_same, upd_tag, upd_num, memC_ne], by simp (disch := first | decide | assumption | omega) only [rM, rW, rL, upd_same, upd_tag, upd_num, memC_ne]⟩⟩
set_option maxRecDepth 100000 in
set_option maxHeartbeats 8000000 in
theorem newEB {h : PT ABlk} {ns nn : Nat} {d : Rl → Nat} {C : Rl → Option ABlk} {W : List Int} {L : List Value} {k : Nat} (S : St h nn d C) (M : IsM d C W L k) (hns : 0 < ns ∧ ns ≤ 64) (hW : W.length = 2 * ns) :
  EvB Tryz.prog OP 32 [pt (d rM), U8 2, I6 0, I6 ns, I6 0] h nn fun r h' n' => ∃ d' C', r = tup [pt (d' (4, 0)), I6 0] ∧ St h' n' d' C' ∧ EngE d' C' 0 ns (List.replicate ns (0, false)) ∧ (∀ a b, a ≠ 4 → a ≠ 5 → a ≠ 6 → a ≠ 7 → d' (a, b) = d (a, b) ∧ C' (a, b) = C (a, b)) := by
 obtain ⟨m1, m2, m3, m4⟩ := M
 have g0 := S.at m1
 have gw := S.at m2
 have n0 := S.lt m1
 have nw := S.lt m2
 have hg := mapW_get (W := W) (i := 2 * ns - 1) (by omega)
 rw [hW] at g0
 obtain ⟨hn1, hn2⟩ := hns
 have hz := nl_zero ns
 have hz2 := bl_zero ns
 have hz3 := sl_zero ns
 have hc0 : ¬ (ns : Int) < 1 := by omega
 have hc1 : ¬ (64 : Int) < ns := by omega
 have hc2 : ((2 * ns - 1 : Nat) : Int) < ((2 * ns : Nat) : Int) := by omega
 have hc3 : (0 : Int) ≤ ((2 * ns - 1 : Nat) : Int) := by omega
 have hc4 : 2 * ns - 1 < 2 * ns := by omega
 have hc5 : (0 + 2 * (ns : Int) - 1).toNat = 2 * ns - 1 := by omega
 have hc6 : (0 : Int) + 2 * (ns : Int) - 1 < ((2 * ns : Nat) : Int) := by omega
 have hc7 : Nat.ble ns 1048576 = true := Nat.ble_eq_true_of_le (by omega)
 generalize W[2 * ns - 1] = y at *
 clear m1 m2 m3 m4
 refine EvB_run (N := 86) Tryz.func32 rfl rfl fun z hP hO hro hN hQ => ?_
 repeat' first | simp (maxSteps := 2000000) (disch := first | omega | assumption) only [go_sem, *] | (apply xs <;> intro _) <;> try omega | refine fun (_ _ : List Nat) => ?_ | (first | refine inQ Tryz.func30 rfl ?_ ?_ ?_ ?_ | refine inQ Tryz.func62 rfl ?_ ?_ ?_ ?_ | refine inQ Tryz.func67 rfl ?_ ?_ ?_ ?_ | refine inQ Tryz.func79 rfl ?_ ?_ ?_ ?_ | refine inQ Tryz.func90 rfl ?_ ?_ ?_ ?_ | refine inQ Tryz.func89 rfl ?_ ?_ ?_ ?_ | fail) <;> intros
 refine ⟨_, _, by simp (disch := first | decide | assumption | omega) only [rM, rW, rL, upd_same, upd_tag, upd_num, memC_ne], ((((S.new (4, 0) _ (Nat.le_refl _) (Nat.lt_succ_self _)).new (7, 0) _ (Nat.le_refl _) (Nat.lt_succ_self _)).new (6, 0) _ (Nat.le_refl _) (Nat.lt_succ_self _)).new (5, 0) _ (Nat.le_refl _) (Nat.lt_succ_self _)).set (4, 0) _ (by (simp (disch := first | decide | assumption | omega) only [rM, rW, rL, upd_same, upd_tag, upd_num, memC_ne]) <;> rfl) (by (simp (disch := first | decide | assumption | omega) only [rM, rW, rL, upd_same, upd_tag, upd_num, memC_ne]) <;> rfl), ⟨by (simp (disch := first | decide | assumption | omega) only [rM, rW, rL, upd_same, upd_tag, upd_num, memC_ne]) <;> rfl, by (simp (disch := first | decide | assumption | omega) only [rM, rW, rL, upd_same, upd_tag, upd_num, memC_ne]) <;> rfl, by (simp (disch := first | decide | assumption | omega) only [rM, rW, rL, upd_same, upd_tag, upd_num, memC_ne]) <;> rfl, by (simp (disch := first | decide | assumption | omega) only [rM, rW, rL, upd_same, upd_tag, upd_num, memC_ne]) <;> rfl, List.length_replicate⟩, fun a b c1 c2 c3 c4 => ⟨by simp (disch := first | decide | assumption | omega) only [rM, rW, rL, upd_same, upd_tag, upd_num, memC_ne], by simp (disch := first | decide | assumption | omega) only [rM, rW, rL, upd_same, upd_tag, upd_num, memC_ne]⟩⟩
set_option maxRecDepth 100000 in
set_option maxHeartbeats 8000000 in
theorem newGB {h : PT ABlk} {ns nb nn : Nat} {d : Rl → Nat} {C : Rl → Option ABlk} {W : List Int} {L : List Value} {k : Nat} (S : St h nn d C) (M : IsM d C W L k) (hns : 0 < ns ∧ ns ≤ 64) (hn : 0 < nb ∧ nb ≤ 16) (hW : W.length = 4 * nb) :
  EvB Tryz.prog OP 32 [pt (d rM), U8 3, I6 0, I6 ns, I6 nb] h nn fun r h' n' => ∃ d' C', r = tup [pt (d' (4, 0)), I6 0] ∧ St h' n' d' C' ∧ EngG d' C' 0 nb ns [] 0 ∧ (∀ a b, a ≠ 4 → a ≠ 5 → a ≠ 6 → a ≠ 7 → d' (a, b) = d (a, b) ∧ C' (a, b) = C (a, b)) := by
 obtain ⟨m1, m2, m3, m4⟩ := M
 have g0 := S.at m1
 have gw := S.at m2
 have n0 := S.lt m1
 have nw := S.lt m2
 have hg := mapW_get (W := W) (i := 4 * nb - 1) (by omega)
 rw [hW] at g0
 obtain ⟨hn1, hn2⟩ := hn
 have hc0 : ¬ (ns : Int) < 1 := by omega
 have hc7 : ¬ (64 : Int) < ns := by omega
 have hc1 : (4 : Int) * nb - 1 = ((4 * nb - 1 : Nat) : Int) := by omega
 have hc2 : ((4 * nb - 1 : Nat) : Int) < ((4 * nb : Nat) : Int) := by omega
 have hc3 : (0 : Int) ≤ ((4 * nb - 1 : Nat) : Int) := by omega
 have hc4 : 4 * nb - 1 < 4 * nb := by omega
 have hc5 : (0 + 4 * (nb : Int) - 1).toNat = 4 * nb - 1 := by omega
 have hc6 : (0 : Int) + 4 * nb - 1 < ((4 * nb : Nat) : Int) := by omega
 generalize W[4 * nb - 1] = y at *
 clear m1 m2 m3 m4
 refine EvB_run (N := 86) Tryz.func32 rfl rfl fun z hP hO hro hN hQ => ?_
 repeat' first | simp (maxSteps := 2000000) (disch := first | omega | assumption) only [go_sem, *] | (apply xs <;> intro _) <;> try omega | refine fun (_ _ : List Nat) => ?_ | (first | refine inQ Tryz.func30 rfl ?_ ?_ ?_ ?_ | refine inQ Tryz.func63 rfl ?_ ?_ ?_ ?_ | refine inQ Tryz.func68 rfl ?_ ?_ ?_ ?_ | refine inQ Tryz.func79 rfl ?_ ?_ ?_ ?_ | refine inQ Tryz.func90 rfl ?_ ?_ ?_ ?_ | refine inQ Tryz.func89 rfl ?_ ?_ ?_ ?_ | fail) <;> intros
 refine ⟨_, _, by simp (disch := first | decide | assumption | omega) only [rM, rW, rL, upd_same, upd_tag, upd_num, memC_ne], (((S.new (4, 0) _ (Nat.le_refl _) (Nat.lt_succ_self _)).new (6, 0) _ (Nat.le_refl _) (Nat.lt_succ_self _)).new (5, 0) _ (Nat.le_refl _) (Nat.lt_succ_self _)).set (4, 0) _ (by (simp (disch := first | decide | assumption | omega) only [rM, rW, rL, upd_same, upd_tag, upd_num, memC_ne]) <;> rfl) (by (simp (disch := first | decide | assumption | omega) only [rM, rW, rL, upd_same, upd_tag, upd_num, memC_ne]) <;> rfl), ⟨by (simp (disch := first | decide | assumption | omega) only [rM, rW, rL, upd_same, upd_tag, upd_num, memC_ne]) <;> rfl, by (simp (disch := first | decide | assumption | omega) only [rM, rW, rL, upd_same, upd_tag, upd_num, memC_ne]) <;> rfl, by (simp (disch := first | decide | assumption | omega) only [rM, rW, rL, upd_same, upd_tag, upd_num, memC_ne]) <;> rfl⟩, fun a b c1 c2 c3 c4 => ⟨by simp (disch := first | decide | assumption | omega) only [rM, rW, rL, upd_same, upd_tag, upd_num, memC_ne], by simp (disch := first | decide | assumption | omega) only [rM, rW, rL, upd_same, upd_tag, upd_num, memC_ne]⟩⟩
end Go.Proofs.YtbceiadaihphaaaGreat
set_option linter.unusedVariables false
set_option linter.unusedSimpArgs false
namespace Go.Proofs.YtbceiadaihphaaaGreat
open Go.Am
structure FaceN (e : Eng) (ns : Nat) (rep : e.σ → Nat → (Rl → Nat) → (Rl → Option ABlk) → Prop) (pcE pcW : e.σ → Nat → Int) : Prop where
 enextB : ∀ {h : PT ABlk} {n : Nat} {d : Rl → Nat} {C : Rl → Option ABlk} {s : e.σ} {k t : Nat}, St h n d C → rep s k d C → t < ns → e.ent s t = true →
  EvB Tryz.prog OP 53 [pt (d (8, t))] h n fun r h' n' => r = U8 (pcE s t) ∧ pcE s t ≠ 0 ∧ St h' n' d C
 wnextB : ∀ {h : PT ABlk} {n : Nat} {d : Rl → Nat} {C : Rl → Option ABlk} {s : e.σ} {k t : Nat}, St h n d C → rep s k d C → t < ns → e.wt s t = true →
  EvB Tryz.prog OP 54 [pt (d (10, t))] h n fun r h' n' => r = U8 (pcW s t) ∧ pcW s t ≠ 0 ∧ St h' n' d C
set_option maxRecDepth 100000 in
set_option maxHeartbeats 2000000 in
theorem faceNF {ns : Nat} : FaceN (engF ns) ns (RepF ns) (fun _ _ => 13) (fun _ _ => 17) := by
 refine ⟨fun {h n d C s k t} S R ht he => ?_, fun {h n d C s k t} S R ht he => ?_⟩
 ·obtain ⟨a1, a2⟩ := R.en t ht he
  have g8 := S.at a1
  have g9 := S.at a2
  clear R a1 a2
  refine EvB_run (N := 10) Tryz.func53 rfl rfl fun z hP hO hro hN hQ => ?_
  repeat' first | simp (maxSteps := 2000000) (disch := first | omega | assumption) only [go_sem, *] | (apply xs <;> intro _) <;> try omega | refine fun (_ _ : List Nat) => ?_ | (first | refine inQ Tryz.func199 rfl ?_ ?_ ?_ ?_ | fail) <;> intros
 ·obtain ⟨x, hX⟩ := Option.isSome_iff_exists.1 (show (s.X t).isSome = true from he)
  obtain ⟨a1, a2, a3, a4⟩ := R.wa t x ht hX
  have g10 := S.at a3
  have g11 := S.at a4
  simp only [fwRow, a2, Bool.false_eq_true, if_false] at g11
  generalize (if x.again = true then _ else _) = fn at g11
  clear R a1 a2 a3 a4
  refine EvB_run (N := 10) Tryz.func54 rfl rfl fun z hP hO hro hN hQ => ?_
  repeat' first | simp (maxSteps := 2000000) (disch := first | omega | assumption) only [go_sem, *] | (apply xs <;> intro _) <;> try omega | refine fun (_ _ : List Nat) => ?_ | (first | refine inQ Tryz.func201 rfl ?_ ?_ ?_ ?_ | fail) <;> intros
def pcEE (s : ES) (t : Nat) : Int := if s.E t = 1 then 14 else 13
def pcWE (s : ES) (t : Nat) : Int := match s.X t with
 | none => 17
 | some (x, _) => if x.st = 1 then 18 else 17
set_option maxRecDepth 100000 in
set_option maxHeartbeats 2000000 in
theorem faceNE {ns : Nat} : FaceN (engE ns) ns (RepE ns) pcEE pcWE := by
 refine ⟨fun {h n d C s k t} S R ht he => ?_, fun {h n d C s k t} S R ht he => ?_⟩
 ·have he' : decide (s.E t ≠ 0) = true := he
  have he2 : s.E t ≠ 0 := by simpa using he'
  obtain ⟨a1, a2⟩ := R.en t ht he2
  obtain ⟨-, -, b3⟩ := R.ev t ht he2
  have g8 := S.at a1
  have g9 := S.at a2
  have n8 := S.lt a1
  have n9 := S.lt a2
  clear R a1 a2 he he'
  unfold pcEE
  by_cases c : s.E t = 1
  ·rw [if_pos c]
   rw [c, show (((1 : Nat) : Int) - 1) = 0 from rfl] at g9
   refine EvB_run (N := 10) Tryz.func53 rfl rfl fun z hP hO hro hN hQ => ?_
   repeat' first | simp (maxSteps := 2000000) (disch := first | omega | assumption) only [go_sem, *] | (apply xs <;> intro _) <;> try omega | refine fun (_ _ : List Nat) => ?_ | (first | refine inQ Tryz.func203 rfl ?_ ?_ ?_ ?_ | fail) <;> intros
   exact S.junk2 (Nat.le_refl _) (Nat.lt_succ_self _)
  ·have c2 : s.E t = 2 := by omega
   rw [if_neg c]
   rw [c2, show (((2 : Nat) : Int) - 1) = 1 from rfl] at g9
   refine EvB_run (N := 10) Tryz.func53 rfl rfl fun z hP hO hro hN hQ => ?_
   repeat' first | simp (maxSteps := 2000000) (disch := first | omega | assumption) only [go_sem, *] | (apply xs <;> intro _) <;> try omega | refine fun (_ _ : List Nat) => ?_ | (first | refine inQ Tryz.func203 rfl ?_ ?_ ?_ ?_ | fail) <;> intros
   exact S.junk2 (Nat.le_refl _) (Nat.lt_succ_self _)
 ·obtain ⟨⟨x, st⟩, hX⟩ := Option.isSome_iff_exists.1 (show (s.X t).isSome = true from he)
  obtain ⟨a1, a2, a3, a4, a5⟩ := R.wa t x st ht hX
  have g10 := S.at a4
  have g11 := S.at a5
  have n10 := S.lt a4
  have n11 := S.lt a5
  have hp : pcWE s t = if x.st = 1 then 18 else 17 := by unfold pcWE; rw [hX]
  rw [hp]
  simp only [ewRow] at g11
  clear R a1 a3 a4 a5 he hX hp
  by_cases c0 : x.st = 0
  ·rw [if_neg (by omega)]
   rw [c0, show ((0 : Nat) : Int) = 0 from rfl] at g11
   refine EvB_run (N := 10) Tryz.func54 rfl rfl fun z hP hO hro hN hQ => ?_
   repeat' first | simp (maxSteps := 2000000) (disch := first | omega | assumption) only [go_sem, *] | (apply xs <;> intro _) <;> try omega | refine fun (_ _ : List Nat) => ?_ | (first | refine inQ Tryz.func208 rfl ?_ ?_ ?_ ?_ | fail) <;> intros
   exact S.junk2 (Nat.le_refl _) (Nat.lt_succ_self _)
  ·by_cases c1 : x.st = 1
   ·rw [if_pos c1]
    rw [c1, show ((1 : Nat) : Int) = 1 from rfl] at g11
    refine EvB_run (N := 10) Tryz.func54 rfl rfl fun z hP hO hro hN hQ => ?_
    repeat' first | simp (maxSteps := 2000000) (disch := first | omega | assumption) only [go_sem, *] | (apply xs <;> intro _) <;> try omega | refine fun (_ _ : List Nat) => ?_ | (first | refine inQ Tryz.func208 rfl ?_ ?_ ?_ ?_ | fail) <;> intros
    exact S.junk2 (Nat.le_refl _) (Nat.lt_succ_self _)
   ·rw [if_neg c1]
    have c2 : x.st = 2 := by omega
    rw [c2, show ((2 : Nat) : Int) = 2 from rfl] at g11
    refine EvB_run (N := 10) Tryz.func54 rfl rfl fun z hP hO hro hN hQ => ?_
    repeat' first | simp (maxSteps := 2000000) (disch := first | omega | assumption) only [go_sem, *] | (apply xs <;> intro _) <;> try omega | refine fun (_ _ : List Nat) => ?_ | (first | refine inQ Tryz.func208 rfl ?_ ?_ ?_ ?_ | fail) <;> intros
    exact S.junk2 (Nat.le_refl _) (Nat.lt_succ_self _)
def pcEG (s : GS) (t : Nat) : Int := match s.S t with
 | .beg _ => 15
 | _ => 16
def pcWG (s : GS) (t : Nat) : Int := match s.X t with
 | none => 2
 | some x => gpc x.ph
set_option maxRecDepth 100000 in
set_option maxHeartbeats 2000000 in
theorem faceNG {ns nb : Nat} : FaceN (engG ns nb) ns (RepG ns nb) pcEG pcWG := by
 refine ⟨fun {h n d C s k t} S R ht he => ?_, fun {h n d C s k t} S R ht he => ?_⟩
 ·have hrow := R.sec t ht
  have he' : (s.S t).ent = true := he
  unfold pcEG
  cases hS : s.S t with
  | no => rw [hS] at he'; simp [GSec.ent] at he'
  | inn b sd => rw [hS] at he'; simp [GSec.ent] at he'
  | beg b =>
   rw [hS] at hrow
   obtain ⟨b1, b2, b3, b4⟩ := hrow
   have g8 := S.at b2
   have g9 := S.at b3
   have g15 := S.at b4
   simp only [bkL, List.cons_append, List.nil_append] at g9
   clear R b1 b2 b3 b4 he he' hS
   refine EvB_run (N := 10) Tryz.func53 rfl rfl fun z hP hO hro hN hQ => ?_
   repeat' first | simp (maxSteps := 2000000) (disch := first | omega | assumption) only [go_sem, *] | (apply xs <;> intro _) <;> try omega | refine fun (_ _ : List Nat) => ?_ | (first | refine inQ Tryz.func215 rfl ?_ ?_ ?_ ?_ | fail) <;> intros
  | seen b sd =>
   rw [hS] at hrow
   obtain ⟨b1, b2, b3, b4⟩ := hrow
   have g8 := S.at b2
   have g9 := S.at b3
   have g15 := S.at b4
   simp only [bkL, List.cons_append, List.nil_append] at g9
   clear R b1 b2 b3 b4 he he' hS
   generalize 4 * b + 1 + sd.toNat = q at *
   have hq : ¬ (q : Int) < 0 := by omega
   refine EvB_run (N := 10) Tryz.func53 rfl rfl fun z hP hO hro hN hQ => ?_
   repeat' first | simp (maxSteps := 2000000) (disch := first | omega | assumption) only [go_sem, *] | (apply xs <;> intro _) <;> try omega | refine fun (_ _ : List Nat) => ?_ | (first | refine inQ Tryz.func215 rfl ?_ ?_ ?_ ?_ | fail) <;> intros
 ·obtain ⟨x, hX⟩ := Option.isSome_iff_exists.1 (show (s.X t).isSome = true from he)
  obtain ⟨off, fl, Lf, b, r, w⟩ := R.wa t x ht hX
  have g10 := S.at w.r10
  have g11 := S.at w.r11
  have hp : pcWG s t = gpc x.ph := by unfold pcWG; rw [hX]
  rw [hp]
  have hp0 : gpc x.ph ≠ 0 := by
   unfold gpc
   repeat' split
   all_goals decide
  simp only [gwRow] at g11
  generalize gpc x.ph = pc at *
  generalize gfn x.ph = fn at *
  clear R w he hX hp
  refine EvB_run (N := 10) Tryz.func54 rfl rfl fun z hP hO hro hN hQ => ?_
  repeat' first | simp (maxSteps := 2000000) (disch := first | omega | assumption) only [go_sem, *] | (apply xs <;> intro _) <;> try omega | refine fun (_ _ : List Nat) => ?_ | (first | refine inQ Tryz.func217 rfl ?_ ?_ ?_ ?_ | fail) <;> intros
end Go.Proofs.YtbceiadaihphaaaGreat
