/-
  A part of the proof: contracts of inner functions.
-/
import Derived.Test.YtlnglgpipkmiaaaGreatPY1
import Derived.Test.YtlnglgpipkmiaaaGreatPX2E
import Derived.Test.YtlnglgpipkmiaaaGreatPX6G
set_option linter.unusedVariables false
set_option linter.unusedSimpArgs false
namespace Go.Proofs.YtlnglgpipkmiaaaGreat
open Go.Am
theorem nl_zero (m : Nat) : rep [Value.int .u64 0] m = (nl m fun _ => 0).map (.int .u64) := by
  rw [rep_one]
  unfold nl
  rw [List.map_map]
  apply List.ext_getElem?
  intro j
  rw [List.getElem?_replicate, List.getElem?_map]
  by_cases c : j < m
  · rw [if_pos c, List.getElem?_range c]; rfl
  · rw [if_neg c, List.getElem?_eq_none (by rw [List.length_range]; omega)]; rfl
set_option maxRecDepth 100000 in
set_option maxHeartbeats 2000000 in
theorem beginE {h : PT ABlk} {n : Nat} {nb : Int} {d : Rl → Nat} {C : Rl → Option ABlk} (S : St h n d C) :
    EvB Tryz.prog OP 7 [U8 2, I6 nb] h n fun r h' n' => ∃ d' C', r = pt (d' (3, 0)) ∧ St h' n' d' C' ∧ RepC RepE (CS.new (e := engE) ES.new) 0 d' C' ∧ ∀ b, d' (30, b) = d (30, b) ∧ C' (30, b) = C (30, b) := by
  refine EvB_run (N := 52) Tryz.func7 rfl rfl fun z hP hO hro hN hQ => ?_
  repeat' first | simp (maxSteps := 2000000) (disch := first | omega | assumption) only [go_sem, *] | (apply xs <;> intro _) <;> try omega | refine fun (_ _ : List Nat) => ?_ | (first | refine inQ Tryz.func32 rfl ?_ ?_ ?_ ?_ | refine inQ Tryz.func65 rfl ?_ ?_ ?_ ?_ | refine inQ Tryz.func66 rfl ?_ ?_ ?_ ?_ | refine inQ Tryz.func67 rfl ?_ ?_ ?_ ?_ | fail) <;> intros
  refine cal (memNewS (W := nl 12 fun _ => 0) (S.junk (Nat.le_refl _) (Nat.lt_succ_self _)) (by rw [heap_same]; rfl) (by decide) (by decide)) (by simp only [*]) (by simp only [*]) (by simp only [go_sem, *]) (by simp only [go_sem, *]) ?_
  rintro r h2 n2 ⟨d1, C1, rfl, S1, M1, k1⟩
  repeat' first | simp (maxSteps := 2000000) (disch := first | omega | assumption) only [go_sem, *] | (apply xs <;> intro _) <;> try omega | refine fun (_ _ : List Nat) => ?_ | (first | refine inQ Tryz.func32 rfl ?_ ?_ ?_ ?_ | refine inQ Tryz.func65 rfl ?_ ?_ ?_ ?_ | refine inQ Tryz.func66 rfl ?_ ?_ ?_ ?_ | refine inQ Tryz.func67 rfl ?_ ?_ ?_ ?_ | fail) <;> intros
  refine cal (newEB S1 M1 rfl) (by simp only [*]) (by simp only [*]) (by simp only [go_sem, *]) (by simp only [go_sem, *]) ?_
  rintro r h3 n3 ⟨d2, C2, rfl, S2, E2, k2⟩
  repeat' first | simp (maxSteps := 2000000) (disch := first | omega | assumption) only [go_sem, *] | (apply xs <;> intro _) <;> try omega | refine fun (_ _ : List Nat) => ?_ | (first | refine inQ Tryz.func32 rfl ?_ ?_ ?_ ?_ | refine inQ Tryz.func65 rfl ?_ ?_ ?_ ?_ | refine inQ Tryz.func66 rfl ?_ ?_ ?_ ?_ | refine inQ Tryz.func67 rfl ?_ ?_ ?_ ?_ | fail) <;> intros
  have dM : Go.Am.upd d2 (3, 0) n3 rM = d1 rM := (upd_tag (by decide)).trans (k2 0 0 (by decide) (by decide) (by decide) (by decide)).1
  have dP : Go.Am.upd d2 (3, 0) n3 (4, 0) = d2 (4, 0) := upd_tag (by decide)
  have M2 : IsM d2 C2 (nl 12 fun _ => 0) [] 0 := M1.of fun a ha => k2 a 0 (by omega) (by omega) (by omega) (by omega)
  refine ⟨_, _, by simp (disch := first | decide | assumption | omega) only [rM, rW, rL, upd_same, upd_tag, upd_num, memC_ne], S2.new (3, 0) _ (Nat.le_refl _) (Nat.lt_succ_self _), ⟨repE_cliC (repE_cliD (repE_new M2 E2) (.inl rfl)) (.inl rfl), upd_same.trans ?_, fun t m _ h => by simp [CS.new] at h, fun _ _ => Nat.le_refl _, fun t _ h => by simp [CS.new, ES.new] at h⟩, fun b => ⟨by simp (disch := first | decide | assumption | omega) only [rM, rW, rL, upd_same, upd_tag, upd_num, memC_ne]; exact ((k2 30 b (by decide) (by decide) (by decide) (by decide)).1.trans (k1 30 b (by decide)).1), by simp (disch := first | decide | assumption | omega) only [rM, rW, rL, upd_same, upd_tag, upd_num, memC_ne]; exact ((k2 30 b (by decide) (by decide) (by decide) (by decide)).2.trans (k1 30 b (by decide)).2)⟩⟩
  rw [← dM, ← dP]
  rfl
set_option maxRecDepth 100000 in
set_option maxHeartbeats 2000000 in
theorem beginG {h : PT ABlk} {n nb : Nat} {d : Rl → Nat} {C : Rl → Option ABlk} (S : St h n d C) (hnb : 0 < nb ∧ nb ≤ 16) (hsc : C (20, 0) = none) :
    EvB Tryz.prog OP 7 [U8 3, I6 nb] h n fun r h' n' => ∃ d' C', r = pt (d' (3, 0)) ∧ St h' n' d' C' ∧ RepC (RepG nb) (CS.new (e := engG nb) GS.new) 0 d' C' ∧ ∀ b, d' (30, b) = d (30, b) ∧ C' (30, b) = C (30, b) := by
  have hb := hnb
  obtain ⟨hn0, hn1⟩ := hnb
  have hz := nl_zero (4 * nb)
  have q := memNewS (b := n) (cap := 4 * nb) (W := nl (4 * nb) fun _ => 0) (ro := false) (S.junk (B := some (.cells (PT.ofList .leaf 0 ((nl (4 * nb) fun _ => 0).map (.int .u64))) false)) (Nat.le_refl _) (Nat.lt_succ_self n)) heap_same (by rw [nl_length]; omega) (by rw [nl_length]; omega)
  rw [nl_length] at q
  have hc1 : (4 : Int) * nb = ((4 * nb : Nat) : Int) := by omega
  have hc2 : Nat.ble (4 * nb) 1048576 = true := Nat.ble_eq_true_of_le (by omega)
  have hc3 : ¬ ((4 * nb : Nat) : Int) < 1 := by omega
  have hc4 : ((4 : Int) * nb).toNat = 4 * nb := by omega
  refine EvB_run (N := 52) Tryz.func7 rfl rfl fun z hP hO hro hN hQ => ?_
  repeat' first | simp (maxSteps := 2000000) (disch := first | omega | assumption) only [go_sem, *] | (apply xs <;> intro _) <;> try omega | refine fun (_ _ : List Nat) => ?_ | (first | refine inQ Tryz.func32 rfl ?_ ?_ ?_ ?_ | refine inQ Tryz.func65 rfl ?_ ?_ ?_ ?_ | refine inQ Tryz.func66 rfl ?_ ?_ ?_ ?_ | refine inQ Tryz.func67 rfl ?_ ?_ ?_ ?_ | fail) <;> intros
  refine cal (q) (by simp only [*]) (by simp only [*]) (by simp only [go_sem, *]) (by simp only [go_sem, *]) ?_
  rintro r h2 n2 ⟨d1, C1, rfl, S1, M1, k1⟩
  clear q hz
  repeat' first | simp (maxSteps := 2000000) (disch := first | omega | assumption) only [go_sem, *] | (apply xs <;> intro _) <;> try omega | refine fun (_ _ : List Nat) => ?_ | (first | refine inQ Tryz.func32 rfl ?_ ?_ ?_ ?_ | refine inQ Tryz.func65 rfl ?_ ?_ ?_ ?_ | refine inQ Tryz.func66 rfl ?_ ?_ ?_ ?_ | refine inQ Tryz.func67 rfl ?_ ?_ ?_ ?_ | fail) <;> intros
  refine cal (newGB S1 M1 hb nl_length) (by simp only [*]) (by simp only [*]) (by simp only [go_sem, *]) (by simp only [go_sem, *]) ?_
  rintro r h3 n3 ⟨d2, C2, rfl, S2, E2, k2⟩
  repeat' first | simp (maxSteps := 2000000) (disch := first | omega | assumption) only [go_sem, *] | (apply xs <;> intro _) <;> try omega | refine fun (_ _ : List Nat) => ?_ | (first | refine inQ Tryz.func32 rfl ?_ ?_ ?_ ?_ | refine inQ Tryz.func65 rfl ?_ ?_ ?_ ?_ | refine inQ Tryz.func66 rfl ?_ ?_ ?_ ?_ | refine inQ Tryz.func67 rfl ?_ ?_ ?_ ?_ | fail) <;> intros
  have dM : Go.Am.upd d2 (3, 0) n3 rM = d1 rM := (upd_tag (by decide)).trans (k2 0 0 (by decide) (by decide) (by decide) (by decide)).1
  have dP : Go.Am.upd d2 (3, 0) n3 (4, 0) = d2 (4, 0) := upd_tag (by decide)
  have M2 : IsM d2 C2 (nl (4 * nb) fun _ => 0) [] 0 := M1.of fun a ha => k2 a 0 (by omega) (by omega) (by omega) (by omega)
  have sc2 : C2 (20, 0) = none := (k2 20 0 (by decide) (by decide) (by decide) (by decide)).2.trans ((k1 20 0 (by decide)).2.trans hsc)
  refine ⟨_, _, by simp (disch := first | decide | assumption | omega) only [rM, rW, rL, upd_same, upd_tag, upd_num, memC_ne], S2.new (3, 0) _ (Nat.le_refl _) (Nat.lt_succ_self _), ⟨repG_cliC (repG_cliD (repG_new hb M2 E2 sc2) (.inl rfl)) (.inl rfl), upd_same.trans ?_, fun t m _ h => by simp [CS.new] at h, fun _ _ => Nat.le_refl _, fun t _ h => by simp [CS.new, GS.new] at h⟩, fun b => ⟨by simp (disch := first | decide | assumption | omega) only [rM, rW, rL, upd_same, upd_tag, upd_num, memC_ne]; exact ((k2 30 b (by decide) (by decide) (by decide) (by decide)).1.trans (k1 30 b (by decide)).1), by simp (disch := first | decide | assumption | omega) only [rM, rW, rL, upd_same, upd_tag, upd_num, memC_ne]; exact ((k2 30 b (by decide) (by decide) (by decide) (by decide)).2.trans (k1 30 b (by decide)).2)⟩⟩
  rw [← dM, ← dP]
  rfl
end Go.Proofs.YtlnglgpipkmiaaaGreat
