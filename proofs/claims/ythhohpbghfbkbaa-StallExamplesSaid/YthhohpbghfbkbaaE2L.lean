/-
  A part of the proof: contracts of inner functions.
-/
import Derived.Test.YthhohpbghfbkbaaE2J
import Derived.Test.YthhohpbghfbkbaaE2S
set_option linter.unusedVariables false
set_option linter.unusedSimpArgs false
namespace Go.Proofs.Ythhohpbghfbkbaa
open Go.Am

set_option maxRecDepth 100000 in
set_option maxHeartbeats 1000000 in
theorem consB {O : Over} (o50 : O 45 = sortS) (o21 : O 22 = fun _ => none) (o27 : O 28 = fun _ => none) (o43 : O 38 = fun _ => none) (o41 : O 36 = fun _ => none) (o48 : O 43 = fun _ => none) (o49 : O 44 = fun _ => none) (o51 : O 46 = fun _ => none) (o58 : O 55 = fun _ => none) (kd k : Int) (s v : Nat) (hs : s < 2 ^ 64) (hv : v < 2 ^ 64) (h : PT ABlk) (n : Nat) (hW : WfH h n) :
    EvB Try.prog O 11 [.int .u8 kd, .int .i64 k, .int .u64 s, .int .u64 v] h n fun r h' n' => r = consV kd k s v ∧ Kept h h' := by
  unfold consV
  refine EvB_run (N := 29) Try.func11 rfl rfl fun z hP hO hro hN hQ => ?_
  repeat' first | simp (config := { maxSteps := 2000000 }) (disch := omega) only [go_sem, *, Try.results11] | (first | apply EvG_ndec | apply EvC_ndec | apply EvG_dec | apply EvC_dec | apply EvC_nbool | apply EvC_bool | apply EvG_nbool | apply EvG_bool) <;> intro _
  refine EvQ_call ?_ ?_ (by rw [hP, hO]; exact (madeB kd k s _ _ hW).wf hW) ?_
  · simp (config := { maxSteps := 2000000 }) (disch := omega) only [go_sem, *]
  · simp (config := { maxSteps := 2000000 }) (disch := omega) only [go_sem, *]
  rintro r h2 n2 ⟨⟨rfl, hk2⟩, hn2, hW2⟩
  unfold madeV engC
  have hkk : ∀ b, Kept h (PT.set h2 n2 b) := fun b => Kept.set' hW hn2 hk2
  have hk3 : ∀ b c, Kept h (PT.set (PT.set h2 n2 b) n2 c) := fun b c => Kept.set' hW hn2 (hkk b)
  by_cases a : vld kd k
  · by_cases b : s = 0
    · subst b
      rw [if_pos (.inr rfl)]
      rw [if_pos (.inr (.inl rfl))] at hQ
      clear hk2
      repeat' first | simp (config := { maxSteps := 2000000 }) (disch := omega) only [go_sem, *, Try.results11] | (first | apply EvG_ndec | apply EvC_ndec | apply EvG_dec | apply EvC_dec | apply EvC_nbool | apply EvC_bool | apply EvG_nbool | apply EvG_bool) <;> intro _
    · rw [if_neg (by simp [a, b])]
      by_cases c : 64 ≤ v
      · have c' : (64 : Int) ≤ v := by omega
        rw [if_pos (.inr (.inr c))] at hQ
        clear hk2
        repeat' first | simp (config := { maxSteps := 2000000 }) (disch := omega) only [go_sem, *, Try.results11] | (first | apply EvG_ndec | apply EvC_ndec | apply EvG_dec | apply EvC_dec | apply EvC_nbool | apply EvC_bool | apply EvG_nbool | apply EvG_bool) <;> intro _
      · have c' : ¬ (64 : Int) ≤ v := by omega
        rw [if_neg (by simp only [a, b, c]; simp)] at hQ
        obtain ⟨kn, rfl⟩ : ∃ kn : Nat, k = kn := ⟨k.toNat, by unfold vld at a; omega⟩
        rw [Int.toNat_natCast] at hQ
        clear hkk hk3
        repeat' first | simp (config := { maxSteps := 2000000 }) (disch := omega) only [go_sem, *, Try.results11] | (first | apply EvG_ndec | apply EvC_ndec | apply EvG_dec | apply EvC_dec | apply EvC_nbool | apply EvC_bool | apply EvG_nbool | apply EvG_bool) <;> intro _
        refine EvQ_call ?_ ?_ (by rw [hP, hO]; exact (conB o50 o41 o48 o49 o51 o58 kd kn s hs a _ _ (by (repeat refine WfH.set' (by omega) ?_); first | assumption | exact WfH.mono (by assumption) (by omega))).wf (by (repeat refine WfH.set' (by omega) ?_); first | assumption | exact WfH.mono (by assumption) (by omega))) ?_
        · simp (config := { maxSteps := 2000000 }) (disch := omega) only [go_sem, *]
        · simp (config := { maxSteps := 2000000 }) (disch := omega) only [go_sem, *]
        rintro r h3 n3 ⟨⟨b2, b3, b5, rr, cc, rfl, g1, g2, g3, g4, hk3⟩, hn3, hW3⟩
        repeat' first | simp (config := { maxSteps := 2000000 }) (disch := omega) only [go_sem, *, Try.results11] | (first | apply EvG_ndec | apply EvC_ndec | apply EvG_dec | apply EvC_dec | apply EvC_nbool | apply EvC_bool | apply EvG_nbool | apply EvG_bool) <;> intro _
        refine EvQ_call ?_ ?_ (by rw [hP, hO]; exact conClB kd kn s v hs (by omega) a b2 b3 b5 rr cc _ _ g1 g2 g3 g4) ?_
        · simp (config := { maxSteps := 2000000 }) (disch := omega) only [go_sem, *]
        · simp (config := { maxSteps := 2000000 }) (disch := omega) only [go_sem, *]
        rintro r h4 n4 ⟨rfl, rfl, rfl⟩
        clear g4
        repeat' first | simp (config := { maxSteps := 2000000 }) (disch := omega) only [go_sem, *, Try.results11] | (first | apply EvG_ndec | apply EvC_ndec | apply EvG_dec | apply EvC_dec | apply EvC_nbool | apply EvC_bool | apply EvG_nbool | apply EvG_bool) <;> intro _
        all_goals refine Kept.trans ?_ hk3
        all_goals (repeat first | assumption | exact Kept.refl _ | refine Kept.set' (by assumption) ?_ ?_ | omega)
  · rw [if_pos (.inl a)]
    rw [if_pos (.inl a)] at hQ
    clear hk2
    repeat' first | simp (config := { maxSteps := 2000000 }) (disch := omega) only [go_sem, *, Try.results11] | (first | apply EvG_ndec | apply EvC_ndec | apply EvG_dec | apply EvC_dec | apply EvC_nbool | apply EvC_bool | apply EvG_nbool | apply EvG_bool) <;> intro _
theorem awakeTrue : lawTrue Try.prog (tabO []) 300 8 = true := by kernel_rfl
theorem awakeF : SoundF Try.prog 8 trueS := closedF (tab_sound .nil) orders awakeTrue
noncomputable abbrev OS : Over := tabO [(45, sortS), (8, trueS)]
theorem OSok : SoundO Try.prog OS := tab_sound (.cons sortF50 (.cons awakeF .nil))

end Go.Proofs.Ythhohpbghfbkbaa

set_option linter.unusedVariables false
set_option linter.unusedSimpArgs false
namespace Go.Proofs.Ythhohpbghfbkbaa
open Go.Am

set_option maxRecDepth 100000 in
set_option maxHeartbeats 1000000 in
theorem numbersK (kd sl k : Int) (s v : Nat) (hs : s < 2 ^ 64) (hv : v < 2 ^ 64) (h : PT ABlk) (N : Nat) (hW : WfH h N) :
    EvB Try.prog OS 5 [.agg ⟨[.int .u8 kd, .int .i64 sl, .int .i64 k]⟩, .int .u64 s, .int .u64 v] h N fun v h' _ => v = .bool true ∧ Kept h h' := by
  refine EvB_run (N := 78) Try.func5 rfl rfl fun z hP hO hro hN hQ => ?_
  repeat' first | simp (config := { maxSteps := 2000000 }) (disch := omega) only [go_sem, *, Try.results5] | (first | apply EvG_ndec | apply EvC_ndec | apply EvG_dec | apply EvC_dec | apply EvC_nbool | apply EvC_bool | apply EvG_nbool | apply EvG_bool) <;> intro _
  generalize hh1 : h.set N _ = h1
  have e1 := get_of_set hh1
  have hW1 : WfH h1 (N + 1) := by rw [← hh1]; exact hW.set (by omega) (by omega)
  have k1 : Kept h h1 := by rw [← hh1]; exact hW.kept (Nat.le_refl _)
  clear hh1
  refine EvQ_call ?_ ?_ (by rw [hP, hO]; exact (bndB rfl rfl rfl rfl rfl rfl rfl rfl rfl rfl kd sl k s hs _ _ hW1).wf hW1) ?_
  · simp (config := { maxSteps := 2000000 }) (disch := omega) only [go_sem, *]
  · simp (config := { maxSteps := 2000000 }) (disch := omega) only [go_sem, *]
  rintro r h2 n2 ⟨⟨rfl, hk2⟩, hn2, hW2⟩
  have e2 := hk2 _ _ e1
  have k2 := k1.trans hk2
  obtain ⟨q1, q2, hq⟩ : ∃ q1 q2, bndV kd sl k s = .tuple ⟨[.int .i64 q1, .int .i64 q2]⟩ := by
    unfold bndV
    split
    · exact ⟨_, _, rfl⟩
    · exact ⟨_, _, rfl⟩
  rw [hq]
  clear e1 hk2 k1
  repeat' first | simp (config := { maxSteps := 2000000 }) (disch := omega) only [go_sem, *, Try.results5] | (first | apply EvG_ndec | apply EvC_ndec | apply EvG_dec | apply EvC_dec | apply EvC_nbool | apply EvC_bool | apply EvG_nbool | apply EvG_bool) <;> intro _
  refine EvQ_call ?_ ?_ (by rw [hP, hO]; exact refBndB rfl rfl rfl kd sl k s hs _ _) ?_
  · simp (config := { maxSteps := 2000000 }) (disch := omega) only [go_sem, *]
  · simp (config := { maxSteps := 2000000 }) (disch := omega) only [go_sem, *]
  rintro r h3 n3 ⟨rfl, rfl, rfl⟩
  rw [hq]
  repeat' first | simp (config := { maxSteps := 2000000 }) (disch := omega) only [go_sem, *, Try.results5] | (first | apply EvG_ndec | apply EvC_ndec | apply EvG_dec | apply EvC_dec | apply EvC_nbool | apply EvC_bool | apply EvG_nbool | apply EvG_bool) <;> intro _
  refine EvQ_call ?_ ?_ (by rw [hP, hO]; exact (consB rfl rfl rfl rfl rfl rfl rfl rfl rfl kd k s v hs hv _ _ hW2).wf hW2) ?_
  · simp (config := { maxSteps := 2000000 }) (disch := omega) only [go_sem, *]
  · simp (config := { maxSteps := 2000000 }) (disch := omega) only [go_sem, *]
  rintro r h4 n4 ⟨⟨rfl, hk4⟩, hn4, hW4⟩
  have e4 := hk4 _ _ e2
  have k4 := k2.trans hk4
  obtain ⟨p1, p2, hp⟩ : ∃ p1 p2, consV kd k s v = .tuple ⟨[.bool p1, .int .i64 p2]⟩ := by
    unfold consV
    split
    · exact ⟨_, _, rfl⟩
    · exact ⟨_, _, rfl⟩
  rw [hp]
  clear e2 hk4 k2
  repeat' first | simp (config := { maxSteps := 2000000 }) (disch := omega) only [go_sem, *, Try.results5] | (first | apply EvG_ndec | apply EvC_ndec | apply EvG_dec | apply EvC_dec | apply EvC_nbool | apply EvC_bool | apply EvG_nbool | apply EvG_bool) <;> intro _
  refine EvQ_call ?_ ?_ (by rw [hP, hO]; exact refConsB rfl rfl rfl rfl kd k s v hs hv _ _) ?_
  · simp (config := { maxSteps := 2000000 }) (disch := omega) only [go_sem, *]
  · simp (config := { maxSteps := 2000000 }) (disch := omega) only [go_sem, *]
  rintro r h5 n5 ⟨rfl, rfl, rfl⟩
  rw [hp]
  clear hq hp
  have hbp : (p1 == p1) = true := by cases p1 <;> rfl
  repeat' first | simp (config := { maxSteps := 2000000 }) (disch := omega) only [go_sem, *, Try.results5, trueS] | (first | apply EvG_ndec | apply EvC_ndec | apply EvG_dec | apply EvC_dec | apply EvC_nbool | apply EvC_bool | apply EvG_nbool | apply EvG_bool) <;> intro _
theorem numbers (kd sl k : Int) (s v : Nat) (hs : s < 2 ^ 64) (hv : v < 2 ^ 64) (h : PT ABlk) (N : Nat) (hW : WfH h N) :
    EvB Try.prog OS 5 [.agg ⟨[.int .u8 kd, .int .i64 sl, .int .i64 k]⟩, .int .u64 s, .int .u64 v] h N fun v _ _ => v = .bool true := (numbersK kd sl k s v hs hv h N hW).mono fun _ _ _ q => q.1
end Go.Proofs.Ythhohpbghfbkbaa
