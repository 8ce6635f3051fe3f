/-
  A part of the proof of the laws of layer 9: contracts of inner functions.
-/
import Derived.Test.YtakfjoelpploeaaL9P3
set_option linter.unusedVariables false
set_option linter.unusedSimpArgs false
namespace Go.Proofs.Ytakfjoelpploeaa
open Go.Am

def domCheckS : List Value → Option (AP Value)
  | [.agg ⟨[.int .u8 kind, .int .i64 n, s]⟩] => some ((rdInts .u64 s).bind fun xs => cond (decide (xs.length < 1000000000000000)) (.pure (.int .i64 (errIf (domOk kind n xs)))) (.fail ""))
  | _ => none
theorem domCheckF : SoundF Try.prog 50 domCheckS := by
  refine soundF_query O1ok orders ?_
  intro args m hm
  unfold domCheckS at hm
  split at hm
  · rename_i kind n s
    simp only [Option.some.injEq] at hm
    subst hm
    refine ⟨fun h v => ∃ xs, IsInts .u64 h s xs ∧ xs.length < 1000000000000000 ∧ v = .int .i64 (errIf (domOk kind n xs)), fun h n v s' hR e => ?_, fun h N v hlt hv => ?_⟩
    · obtain ⟨xs, hx, e⟩ := run_ints hR e
      obtain ⟨hl, e⟩ := run_cond e
      obtain ⟨h1, rfl⟩ := run_pure e
      exact ⟨h1, .int _ _, xs, hx, of_decide_eq_true hl, rfl⟩
    · obtain ⟨xs, hx, hl, rfl⟩ := hv
      exact domCheck kind n s xs h N hlt hx hl
  · simp at hm

def cfgOk (th sl en bu kd dn t0 t1 t2 t3 t4 t5 lo tr ba : Int) (xs : List Int) : Bool :=
  !(decide (t0 < 0) || decide (1024 < t0)) && !(decide (t1 < 0) || decide (1024 - t0 < t1)) && !(decide (t2 < 0) || decide (1024 - t0 - t1 < t2)) && !(decide (t3 < 0) || decide (1024 - t0 - t1 - t2 < t3)) &&
  !(decide (t4 < 0) || decide (1024 - t0 - t1 - t2 - t3 < t4)) && !(decide (t5 < 0) || decide (1024 - t0 - t1 - t2 - t3 - t4 < t5)) &&
  (decide (1 ≤ th) && decide (th ≤ 64)) && (decide (1 ≤ sl) && decide (sl ≤ 64)) && !decide (en < 1) && !decide (3 < en) && (if en = 3 then decide (1 ≤ bu) && decide (bu ≤ 16) else decide (bu = 0)) &&
  domOk kd dn xs && (decide (1 ≤ lo) && decide (lo ≤ 16)) && (decide (1 ≤ tr) && decide (tr ≤ 255)) && (decide (0 ≤ ba) && decide (ba ≤ 64))

abbrev O2 : Over := tabO [(49, withinS), (50, domCheckS)]
theorem O2ok : SoundO Try.prog O2 := tab_sound (.cons withinF (.cons domCheckF .nil))

theorem errIf_eq (b : Bool) : (errIf b ≠ 0) = (b = false) := by cases b <;> simp [errIf]

set_option maxHeartbeats 4000000 in
set_option maxRecDepth 100000 in
theorem layCheck (th sl en bu kd dn t0 t1 t2 t3 t4 t5 lo tr ba : Int) (s : Value) (xs : List Int) (h : PT ABlk) (N : Nat) (hN : ∀ i B, h.get i = some B → i < N) (hs : IsInts .u64 h s xs) (hl : xs.length < 1000000000000000) :
    EvB Try.prog O2 16 [.agg ⟨[.int .i64 th, .int .i64 sl, .int .u8 en, .int .i64 bu, .int .u8 kd, .int .i64 dn, s, .int .i64 t0, .int .i64 t1, .int .i64 t2, .int .i64 t3, .int .i64 t4, .int .i64 t5, .int .i64 lo, .int .i64 tr, .int .i64 ba]⟩] h N
      fun v h' n' => v = .int .i64 (errIf (cfgOk th sl en bu kd dn t0 t1 t2 t3 t4 t5 lo tr ba xs)) ∧ ∀ i, i < N → h'.get i = h.get i := by
  obtain ⟨a, cap, rfl, -⟩ := hs.len
  have hrd := fun h' hk z f d ops r K m n => @EvV_ints _ _ h' _ _ hs z f d ops r K m n hk
  refine EvB_run (N := 80) Try.func16 rfl rfl ?_
  intro z hP hO hro hN hQ
  repeat' first | simp (config := { maxSteps := 2000000 }) (disch := first | omega | (repeat first | assumption | exact Kept.refl _ | refine Kept.set' (by assumption) ?_ ?_ | refine Kept.set (by assumption) ?_ ?_ | omega)) only [go_sem, *, Try.results16, withinS, domCheckS, EvK_loop, errIf_eq, Nat.reduceLT, Nat.reduceAdd, Nat.reduceMul, Nat.reduceSub, Nat.reduceEqDiff, Nat.reduceLeDiff, Int.reduceToNat, Int.reduceLT, Int.reduceLE, Int.reduceEq, Int.reduceNe, Int.reduceAdd, Int.reduceSub, Int.reduceMul, Int.reduceNeg, ↓reduceIte, reduceCtorEq] | (apply EvG_ndec <;> intro _) | (apply EvC_ndec <;> intro _) | (apply EvG_dec <;> intro _) | (apply EvC_dec <;> intro _) | refine EvK_draw (by cbv) (by first | rfl | cbv) ?_ | (apply EvH_ndec <;> intro _) | (apply EvH_dec <;> intro _) | (apply EvC_nbool <;> intro _) | (apply EvC_bool <;> intro _) | (apply EvG_nbool <;> intro _) | (apply EvG_bool <;> intro _) | (apply EvH_nbool <;> intro _) | (apply EvH_bool <;> intro _)
  all_goals refine ⟨?_, fun i hi => by simp (disch := omega) only [heap_ne]⟩
  all_goals (try simp only [Bool.not_eq_false] at *)
  all_goals simp (config := { maxSteps := 2000000 }) (disch := first | omega | (repeat first | assumption | exact Kept.refl _ | refine Kept.set' (by assumption) ?_ ?_ | refine Kept.set (by assumption) ?_ ?_ | omega)) only [go_sem, *, errIf, cfgOk, Bool.false_eq_true, Nat.reduceLT, Nat.reduceAdd, Nat.reduceMul, Nat.reduceSub, Nat.reduceEqDiff, Nat.reduceLeDiff, Int.reduceToNat, Int.reduceLT, Int.reduceLE, Int.reduceEq, Int.reduceNe, Int.reduceAdd, Int.reduceSub, Int.reduceMul, Int.reduceNeg, ↓reduceIte, reduceCtorEq]
end Go.Proofs.Ytakfjoelpploeaa
