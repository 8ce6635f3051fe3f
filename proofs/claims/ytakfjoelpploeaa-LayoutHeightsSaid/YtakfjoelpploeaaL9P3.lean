/-
  A part of the proof of the laws of layer 9: contracts of inner functions.
-/
import Derived.Test.YtakfjoelpploeaaL9P1
import Derived.Test.YtakfjoelpploeaaL9P2
import Derived.Test.YtakfjoelpploeaaAmY2
set_option linter.unusedVariables false
set_option linter.unusedSimpArgs false
namespace Go.Proofs.Ytakfjoelpploeaa
open Go.Am

theorem orders : Try.prog.follows .mixedOrders = true := by kernel_rfl

def withinS : List Value → Option (AP Value)
  | [.int .i64 a, .int .i64 b, .int .i64 c] => some (.pure (.bool (decide (b ≤ a) && decide (a ≤ c))))
  | _ => none
theorem withinF : SoundF Try.prog 49 withinS := by
  refine soundF_query (tab_sound .nil) orders ?_
  intro args m hm
  unfold withinS at hm
  split at hm
  · rename_i a b c
    simp only [Option.some.injEq] at hm
    subst hm
    refine ⟨fun h v => v = .bool (decide (b ≤ a) && decide (a ≤ c)), fun h n v s' _ e => ?_, fun h N v _ hv => ?_⟩
    · obtain ⟨h1, rfl⟩ := run_pure e
      exact ⟨h1, .bool _, rfl⟩
    · subst hv
      exact (within a b c h N).mono fun v h' n' ⟨e1, e2, e3⟩ => ⟨e1, fun i _ => by rw [e2]⟩
  · simp at hm

def ascS : List Value → Option (AP Value)
  | [s] => some ((rdInts .u64 s).bind fun xs => cond (decide (xs.length < 1000000000000000)) (.pure (.bool (asc 0 xs))) (.fail ""))
  | _ => none
theorem ascF : SoundF Try.prog 58 ascS := by
  refine soundF_query (tab_sound .nil) orders ?_
  intro args m hm
  unfold ascS at hm
  split at hm
  · rename_i s
    simp only [Option.some.injEq] at hm
    subst hm
    refine ⟨fun h v => ∃ xs, IsInts .u64 h s xs ∧ xs.length < 1000000000000000 ∧ v = .bool (asc 0 xs), fun h n v s' hR e => ?_, fun h N v _ hv => ?_⟩
    · obtain ⟨xs, hx, e⟩ := run_ints hR e
      obtain ⟨hl, e⟩ := run_cond e
      obtain ⟨h1, rfl⟩ := run_pure e
      exact ⟨h1, .bool _, xs, hx, of_decide_eq_true hl, rfl⟩
    · obtain ⟨xs, hx, hl, rfl⟩ := hv
      exact (ascending xs s h N hx hl).mono fun v h' n' ⟨e1, e2, e3⟩ => ⟨e1, fun i _ => by rw [e2]⟩
  · simp at hm

def domOk (kind n : Int) (xs : List Int) : Bool :=
  if kind = 1 then decide (n = 0) && decide ((xs.length : Int) = 0)
  else if kind = 2 then decide (1 ≤ n) && decide (n ≤ 64) && decide ((xs.length : Int) = 0)
  else if kind = 3 then decide (n = 0) && decide (1 ≤ (xs.length : Int)) && decide ((xs.length : Int) < 64) && asc 0 xs
  else false
def errIf (b : Bool) : Int := if b then 0 else 2

abbrev O1 : Over := tabO [(58, ascS)]
theorem O1ok : SoundO Try.prog O1 := tab_sound (.cons ascF .nil)

theorem domCheck (kind n : Int) (s : Value) (xs : List Int) (h : PT ABlk) (N : Nat) (hN : ∀ i B, h.get i = some B → i < N) (hs : IsInts .u64 h s xs) (hl : xs.length < 1000000000000000) : EvB Try.prog O1 50 [.agg ⟨[.int .u8 kind, .int .i64 n, s]⟩] h N fun v h' n' => v = .int .i64 (errIf (domOk kind n xs)) ∧ ∀ i, i < N → h'.get i = h.get i := by
  rcases hs.shapes with ⟨rfl, rfl⟩ | ⟨b, off, sp, cap, L, ro, rfl, rfl, hb⟩ | ⟨b, off, sp, cap, L, ro, rfl, hb, hB, hT⟩
  · refine EvB_run (N := 57) Try.func50 rfl rfl ?_
    intro z hP hO hro hN hQ
    repeat' first | simp (config := { maxSteps := 2000000 }) (disch := first | omega | (repeat first | assumption | exact Kept.refl _ | refine Kept.set' (by assumption) ?_ ?_ | refine Kept.set (by assumption) ?_ ?_ | omega)) only [go_sem, *, Try.results50, ascS, Nat.reduceLT, Nat.reduceAdd, Nat.reduceMul, Nat.reduceSub, Nat.reduceEqDiff, Nat.reduceLeDiff, Int.reduceToNat, Int.reduceLT, Int.reduceLE, Int.reduceEq, Int.reduceNe, Int.reduceAdd, Int.reduceSub, Int.reduceMul, Int.reduceNeg, ↓reduceIte, reduceCtorEq] | (apply EvG_ndec <;> intro _) | (apply EvC_ndec <;> intro _) | (apply EvG_dec <;> intro _) | (apply EvC_dec <;> intro _) | refine EvK_draw (by cbv) (by first | rfl | cbv) ?_ | (apply EvH_ndec <;> intro _) | (apply EvH_dec <;> intro _) | (apply EvC_nbool <;> intro _) | (apply EvC_bool <;> intro _) | (apply EvG_nbool <;> intro _) | (apply EvG_bool <;> intro _) | (apply EvH_nbool <;> intro _) | (apply EvH_bool <;> intro _)
    all_goals refine ⟨?_, fun i hi => by simp (disch := omega) only [heap_ne]⟩
    all_goals simp (config := { maxSteps := 2000000 }) (disch := first | omega | (repeat first | assumption | exact Kept.refl _ | refine Kept.set' (by assumption) ?_ ?_ | refine Kept.set (by assumption) ?_ ?_ | omega)) only [go_sem, *, errIf, domOk, asc, Bool.false_eq_true, Int.natCast_zero, List.length_nil, Nat.reduceLT, Nat.reduceAdd, Nat.reduceMul, Nat.reduceSub, Nat.reduceEqDiff, Nat.reduceLeDiff, Int.reduceToNat, Int.reduceLT, Int.reduceLE, Int.reduceEq, Int.reduceNe, Int.reduceAdd, Int.reduceSub, Int.reduceMul, Int.reduceNeg, ↓reduceIte, reduceCtorEq]
  · have hbN := hN _ _ hb
    refine EvB_run (N := 57) Try.func50 rfl rfl ?_
    intro z hP hO hro hN hQ
    repeat' first | simp (config := { maxSteps := 2000000 }) (disch := first | omega | (repeat first | assumption | exact Kept.refl _ | refine Kept.set' (by assumption) ?_ ?_ | refine Kept.set (by assumption) ?_ ?_ | omega)) only [go_sem, *, Try.results50, ascS, Nat.reduceLT, Nat.reduceAdd, Nat.reduceMul, Nat.reduceSub, Nat.reduceEqDiff, Nat.reduceLeDiff, Int.reduceToNat, Int.reduceLT, Int.reduceLE, Int.reduceEq, Int.reduceNe, Int.reduceAdd, Int.reduceSub, Int.reduceMul, Int.reduceNeg, ↓reduceIte, reduceCtorEq] | (apply EvG_ndec <;> intro _) | (apply EvC_ndec <;> intro _) | (apply EvG_dec <;> intro _) | (apply EvC_dec <;> intro _) | refine EvK_draw (by cbv) (by first | rfl | cbv) ?_ | (apply EvH_ndec <;> intro _) | (apply EvH_dec <;> intro _) | (apply EvC_nbool <;> intro _) | (apply EvC_bool <;> intro _) | (apply EvG_nbool <;> intro _) | (apply EvG_bool <;> intro _) | (apply EvH_nbool <;> intro _) | (apply EvH_bool <;> intro _)
    all_goals refine ⟨?_, fun i hi => by simp (disch := omega) only [heap_ne]⟩
    all_goals simp (config := { maxSteps := 2000000 }) (disch := first | omega | (repeat first | assumption | exact Kept.refl _ | refine Kept.set' (by assumption) ?_ ?_ | refine Kept.set (by assumption) ?_ ?_ | omega)) only [go_sem, *, errIf, domOk, asc, Bool.false_eq_true, Int.natCast_zero, List.length_nil, Nat.reduceLT, Nat.reduceAdd, Nat.reduceMul, Nat.reduceSub, Nat.reduceEqDiff, Nat.reduceLeDiff, Int.reduceToNat, Int.reduceLT, Int.reduceLE, Int.reduceEq, Int.reduceNe, Int.reduceAdd, Int.reduceSub, Int.reduceMul, Int.reduceNeg, ↓reduceIte, reduceCtorEq]
  · have hbN := hN _ _ hb
    refine EvB_run (N := 57) Try.func50 rfl rfl ?_
    intro z hP hO hro hN hQ
    repeat' first | simp (config := { maxSteps := 2000000 }) (disch := first | omega | (repeat first | assumption | exact Kept.refl _ | refine Kept.set' (by assumption) ?_ ?_ | refine Kept.set (by assumption) ?_ ?_ | omega)) only [go_sem, *, Try.results50, ascS, Nat.reduceLT, Nat.reduceAdd, Nat.reduceMul, Nat.reduceSub, Nat.reduceEqDiff, Nat.reduceLeDiff, Int.reduceToNat, Int.reduceLT, Int.reduceLE, Int.reduceEq, Int.reduceNe, Int.reduceAdd, Int.reduceSub, Int.reduceMul, Int.reduceNeg, ↓reduceIte, reduceCtorEq] | (apply EvG_ndec <;> intro _) | (apply EvC_ndec <;> intro _) | (apply EvG_dec <;> intro _) | (apply EvC_dec <;> intro _) | refine EvK_draw (by cbv) (by first | rfl | cbv) ?_ | (apply EvH_ndec <;> intro _) | (apply EvH_dec <;> intro _) | (apply EvC_nbool <;> intro _) | (apply EvC_bool <;> intro _) | (apply EvG_nbool <;> intro _) | (apply EvG_bool <;> intro _) | (apply EvH_nbool <;> intro _) | (apply EvH_bool <;> intro _)
    all_goals refine ⟨?_, fun i hi => by simp (disch := omega) only [heap_ne]⟩
    all_goals simp (config := { maxSteps := 2000000 }) (disch := first | omega | (repeat first | assumption | exact Kept.refl _ | refine Kept.set' (by assumption) ?_ ?_ | refine Kept.set (by assumption) ?_ ?_ | omega)) only [go_sem, *, errIf, domOk, asc, Bool.false_eq_true, Int.natCast_zero, List.length_nil, Nat.reduceLT, Nat.reduceAdd, Nat.reduceMul, Nat.reduceSub, Nat.reduceEqDiff, Nat.reduceLeDiff, Int.reduceToNat, Int.reduceLT, Int.reduceLE, Int.reduceEq, Int.reduceNe, Int.reduceAdd, Int.reduceSub, Int.reduceMul, Int.reduceNeg, ↓reduceIte, reduceCtorEq]
end Go.Proofs.Ytakfjoelpploeaa
