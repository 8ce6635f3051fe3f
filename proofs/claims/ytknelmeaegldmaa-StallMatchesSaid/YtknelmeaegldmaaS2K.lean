/-
  A part of the proof: contracts of inner functions.
-/
import Derived.Test.YtknelmeaegldmaaS2J
import Derived.Test.YtknelmeaegldmaaS2S
set_option linter.unusedVariables false
set_option linter.unusedSimpArgs false
namespace Go.Proofs.Ytknelmeaegldmaa
open Go.Am

set_option maxRecDepth 100000 in
set_option maxHeartbeats 1000000 in
theorem consB {O : Over} (o50 : O 50 = sortS) (o21 : O 21 = fun _ => none) (o27 : O 27 = fun _ => none) (o43 : O 43 = fun _ => none) (o41 : O 41 = fun _ => none) (o48 : O 48 = fun _ => none) (o49 : O 49 = fun _ => none) (o51 : O 51 = fun _ => none) (o58 : O 58 = fun _ => none) (kd k : Int) (s v : Nat) (hs : s < 2 ^ 64) (hv : v < 2 ^ 64) (h : PT ABlk) (n : Nat) (hW : WfH h n) :
    EvB Try.prog O 9 [.int .u8 kd, .int .i64 k, .int .u64 s, .int .u64 v] h n fun r h' n' => r = consV kd k s v ∧ Kept h h' := by
  unfold consV
  refine EvB_run (N := 29) Try.func9 rfl rfl fun z hP hO hro hN hQ => ?_
  repeat' first | simp (config := { maxSteps := 2000000 }) (disch := omega) only [go_sem, *, Try.results9] | (first | apply EvG_ndec | apply EvC_ndec | apply EvG_dec | apply EvC_dec | apply EvC_nbool | apply EvC_bool | apply EvG_nbool | apply EvG_bool) <;> intro _
  refine EvQ_call ?_ ?_ (by rw [hP, hO]; exact (madeB kd k s _ _ hW).wf hW) ?_
  · simp (config := { maxSteps := 2000000 }) (disch := omega) only [go_sem, *]
  · simp (config := { maxSteps := 2000000 }) (disch := omega) only [go_sem, *]
  rintro r h2 n2 ⟨⟨rfl, hk2⟩, hn2, hW2⟩
  unfold madeV engC
  have hkk : ∀ b, Kept h (PT.set h2 n2 b) := fun b => Kept.set' hW hn2 hk2
  have hk3 : ∀ b c, Kept h (PT.set (PT.set h2 n2 b) n2 c) := fun b c => Kept.set' hW hn2 (hkk b)
  by_cases a : vld kd k
  · by_cases b : s = 0
    · subst b
      rw [if_pos (.inr rfl)]
      rw [if_pos (.inr (.inl rfl))] at hQ
      clear hk2
      repeat' first | simp (config := { maxSteps := 2000000 }) (disch := omega) only [go_sem, *, Try.results9] | (first | apply EvG_ndec | apply EvC_ndec | apply EvG_dec | apply EvC_dec | apply EvC_nbool | apply EvC_bool | apply EvG_nbool | apply EvG_bool) <;> intro _
    · rw [if_neg (by simp [a, b])]
      by_cases c : 64 ≤ v
      · have c' : (64 : Int) ≤ v := by omega
        rw [if_pos (.inr (.inr c))] at hQ
        clear hk2
        repeat' first | simp (config := { maxSteps := 2000000 }) (disch := omega) only [go_sem, *, Try.results9] | (first | apply EvG_ndec | apply EvC_ndec | apply EvG_dec | apply EvC_dec | apply EvC_nbool | apply EvC_bool | apply EvG_nbool | apply EvG_bool) <;> intro _
      · have c' : ¬ (64 : Int) ≤ v := by omega
        rw [if_neg (by simp only [a, b, c]; simp)] at hQ
        obtain ⟨kn, rfl⟩ : ∃ kn : Nat, k = kn := ⟨k.toNat, by unfold vld at a; omega⟩
        rw [Int.toNat_natCast] at hQ
        clear hkk hk3
        repeat' first | simp (config := { maxSteps := 2000000 }) (disch := omega) only [go_sem, *, Try.results9] | (first | apply EvG_ndec | apply EvC_ndec | apply EvG_dec | apply EvC_dec | apply EvC_nbool | apply EvC_bool | apply EvG_nbool | apply EvG_bool) <;> intro _
        refine EvQ_call ?_ ?_ (by rw [hP, hO]; exact (conB o50 o41 o48 o49 o51 o58 kd kn s hs a _ _ (by (repeat refine WfH.set' (by omega) ?_); first | assumption | exact WfH.mono (by assumption) (by omega))).wf (by (repeat refine WfH.set' (by omega) ?_); first | assumption | exact WfH.mono (by assumption) (by omega))) ?_
        · simp (config := { maxSteps := 2000000 }) (disch := omega) only [go_sem, *]
        · simp (config := { maxSteps := 2000000 }) (disch := omega) only [go_sem, *]
        rintro r h3 n3 ⟨⟨b2, b3, b5, rr, cc, rfl, g1, g2, g3, g4, hk3⟩, hn3, hW3⟩
        repeat' first | simp (config := { maxSteps := 2000000 }) (disch := omega) only [go_sem, *, Try.results9] | (first | apply EvG_ndec | apply EvC_ndec | apply EvG_dec | apply EvC_dec | apply EvC_nbool | apply EvC_bool | apply EvG_nbool | apply EvG_bool) <;> intro _
        refine EvQ_call ?_ ?_ (by rw [hP, hO]; exact conClB kd kn s v hs (by omega) a b2 b3 b5 rr cc _ _ g1 g2 g3 g4) ?_
        · simp (config := { maxSteps := 2000000 }) (disch := omega) only [go_sem, *]
        · simp (config := { maxSteps := 2000000 }) (disch := omega) only [go_sem, *]
        rintro r h4 n4 ⟨rfl, rfl, rfl⟩
        clear g4
        repeat' first | simp (config := { maxSteps := 2000000 }) (disch := omega) only [go_sem, *, Try.results9] | (first | apply EvG_ndec | apply EvC_ndec | apply EvG_dec | apply EvC_dec | apply EvC_nbool | apply EvC_bool | apply EvG_nbool | apply EvG_bool) <;> intro _
        all_goals refine Kept.trans ?_ hk3
        all_goals (repeat first | assumption | exact Kept.refl _ | refine Kept.set' (by assumption) ?_ ?_ | omega)
  · rw [if_pos (.inl a)]
    rw [if_pos (.inl a)] at hQ
    clear hk2
    repeat' first | simp (config := { maxSteps := 2000000 }) (disch := omega) only [go_sem, *, Try.results9] | (first | apply EvG_ndec | apply EvC_ndec | apply EvG_dec | apply EvC_dec | apply EvC_nbool | apply EvC_bool | apply EvG_nbool | apply EvG_bool) <;> intro _
theorem awakeTrue : lawTrue Try.prog (tabO []) 300 11 = true := by kernel_rfl
theorem awakeF : SoundF Try.prog 11 trueS := closedF (tab_sound .nil) orders awakeTrue
noncomputable abbrev OS : Over := tabO [(50, sortS), (11, trueS)]
theorem OSok : SoundO Try.prog OS := tab_sound (.cons sortF50 (.cons awakeF .nil))

end Go.Proofs.Ytknelmeaegldmaa
