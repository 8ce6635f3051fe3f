/-
  A part of the proof of the laws of layer 9: contracts of inner functions.
-/
import Derived.Test.YtakfjoelpploeaaL9P4
import Derived.Test.YtakfjoelpploeaaAmY3
import Derived.Test.YtakfjoelpploeaaL9S4
import Derived.Test.YtakfjoelpploeaaAmY7
import Derived.Test.YtakfjoelpploeaaL9C
import Derived.Test.YtakfjoelpploeaaL9P5
import Derived.Test.YtakfjoelpploeaaL9Q1
import Derived.Test.YtakfjoelpploeaaL9S5
import Derived.Test.YtakfjoelpploeaaL9P8
import Derived.Test.YtakfjoelpploeaaL9B
set_option linter.unusedVariables false
set_option linter.unusedSimpArgs false
namespace Go.Proofs.Ytakfjoelpploeaa
open Go.Am
variable {O : Over}

theorem take_eq_succ {xs ys : List Int} {i : Nat} (h1 : i < xs.length) (h2 : i < ys.length) (h : xs.take i = ys.take i) (e : xs.getD i 0 = ys.getD i 0) : xs.take (i + 1) = ys.take (i + 1) := by
  rw [List.take_add_one, List.take_add_one, h]
  simp [List.getD, h1, h2] at e
  simp [h1, h2, e]
theorem fresh_no (n a : Nat) : (n.ble a && a.blt n) = false := by
  cases h : n.ble a
  · rfl
  · have := Nat.le_of_ble_eq_true h
    cases h2 : a.blt n
    · rfl
    · have := Nat.le_of_ble_eq_true h2
      omega
theorem getD_ne {xs ys : List Int} {i : Nat} (e : ¬ xs.getD i 0 = ys.getD i 0) : ¬ xs = ys := fun h => e (by rw [h])

set_option maxRecDepth 100000 in
set_option maxHeartbeats 4000000 in
theorem equalUints (xs ys : List Int) (s t : Value) (h : PT ABlk) (n : Nat) (hs : IsInts .u64 h s xs) (ht : IsInts .u64 h t ys) (hl : xs.length < 1000000) (hl2 : ys.length < 1000000) :
    EvB Try.prog O 23 [s, t] h n fun v h' n' => v = .bool (decide (xs = ys)) ∧ h' = h ∧ n' = n := by
  obtain ⟨a, cap, rfl, hA⟩ := hs.len
  obtain ⟨b, cap2, rfl, hB⟩ := ht.len
  clear hs ht
  refine EvB_run (N := 26) Try.func23 rfl rfl ?_
  intro z hP hO hro hN hQ
  by_cases hlen : xs.length = ys.length
  · have hle1 : (xs.length : Int) = ys.length := by omega
    repeat' first | simp (config := { maxSteps := 2000000 }) (disch := first | omega | (repeat first | assumption | exact Kept.refl _ | refine Kept.set' (by assumption) ?_ ?_ | refine Kept.set (by assumption) ?_ ?_ | omega)) only [go_sem, *, Try.results23, Nat.reduceLT, Nat.reduceAdd, Nat.reduceMul, Nat.reduceSub, Nat.reduceEqDiff, Nat.reduceLeDiff, Int.reduceToNat, Int.reduceLT, Int.reduceLE, Int.reduceEq, Int.reduceNe, Int.reduceAdd, Int.reduceSub, Int.reduceMul, Int.reduceNeg, ↓reduceIte, reduceCtorEq] | (apply EvG_ndec <;> intro _) | (apply EvC_ndec <;> intro _) | (apply EvG_dec <;> intro _) | (apply EvC_dec <;> intro _) | refine EvK_draw (id := 6) (L := [(0, 1), (0, 4), (1, 4), (2, 4), (3, 4), (0, 5), (1, 5), (2, 5), (3, 5), (4, 5), (0, 6), (1, 6), (2, 6), (3, 6), (0, 7), (1, 7), (2, 7), (3, 7)]) (by kernel_rfl) (by kernel_rfl) ?_ | (apply EvH_ndec <;> intro _) | (apply EvH_dec <;> intro _) | (apply EvC_nbool <;> intro _) | (apply EvC_bool <;> intro _) | (apply EvG_nbool <;> intro _) | (apply EvG_bool <;> intro _) | (apply EvH_nbool <;> intro _) | (apply EvH_bool <;> intro _)
    refine ind_loop (fun t m h' n' => h' = h ∧ n' = n ∧ ∃ i : Nat, i ≤ xs.length ∧ t = xs.length - i ∧ xs.take i = ys.take i ∧ m.n = 26 ∧ m.dfs = [] ∧ m.get 0 = .slice a xs.length cap ∧ m.get 1 = .slice b ys.length cap2 ∧ m.get 5 = .int .i64 i) xs.length ?_ ?_
    · refine ⟨rfl, rfl, 0, by omega, by omega, rfl, ?_⟩
      simp (config := { maxSteps := 2000000 }) (disch := first | omega | (repeat first | assumption | exact Kept.refl _ | refine Kept.set' (by assumption) ?_ ?_ | refine Kept.set (by assumption) ?_ ?_ | omega)) only [go_sem, *, Nat.reduceLT, Nat.reduceAdd, Nat.reduceMul, Nat.reduceSub, Nat.reduceEqDiff, Nat.reduceLeDiff, Int.reduceToNat, Int.reduceLT, Int.reduceLE, Int.reduceEq, Int.reduceNe, Int.reduceAdd, Int.reduceSub, Int.reduceMul, Int.reduceNeg, ↓reduceIte, reduceCtorEq]
    · rintro t m h n ih ⟨rfl, rfl, i, hi, rfl, htk, m1, m2, m3, m4, m5⟩
      rcases Nat.lt_or_ge i xs.length with hlt | hge
      · obtain ⟨bk, off, sp, L, ro, rfl, hb, hL⟩ := hA i hlt
        obtain ⟨bk2, off2, sp2, L2, ro2, rfl, hb2, hL2⟩ := hB i (by omega)
        have e1 : (i : Int) < xs.length := by omega
        have e2 : (i : Int) < ys.length := by omega
        clear hA hB
        by_cases e3 : xs.getD i 0 = ys.getD i 0
        · rw [e3] at hL
          have htk' := take_eq_succ hlt (by omega) htk e3
          repeat' first | simp (config := { maxSteps := 2000000 }) (disch := first | omega | (repeat first | assumption | exact Kept.refl _ | refine Kept.set' (by assumption) ?_ ?_ | refine Kept.set (by assumption) ?_ ?_ | omega)) only [go_sem, *, Try.results23, fresh_no, Nat.reduceLT, Nat.reduceAdd, Nat.reduceMul, Nat.reduceSub, Nat.reduceEqDiff, Nat.reduceLeDiff, Int.reduceToNat, Int.reduceLT, Int.reduceLE, Int.reduceEq, Int.reduceNe, Int.reduceAdd, Int.reduceSub, Int.reduceMul, Int.reduceNeg, ↓reduceIte, reduceCtorEq] | (apply EvG_ndec <;> intro _) | (apply EvC_ndec <;> intro _) | (apply EvG_dec <;> intro _) | (apply EvC_dec <;> intro _) | refine EvK_draw (id := 6) (L := [(0, 1), (0, 4), (1, 4), (2, 4), (3, 4), (0, 5), (1, 5), (2, 5), (3, 5), (4, 5), (0, 6), (1, 6), (2, 6), (3, 6), (0, 7), (1, 7), (2, 7), (3, 7)]) (by kernel_rfl) (by kernel_rfl) ?_ | (apply EvH_ndec <;> intro _) | (apply EvH_dec <;> intro _) | (apply EvC_nbool <;> intro _) | (apply EvC_bool <;> intro _) | (apply EvG_nbool <;> intro _) | (apply EvG_bool <;> intro _) | (apply EvH_nbool <;> intro _) | (apply EvH_bool <;> intro _)
          refine ih (xs.length - (i + 1)) _ _ _ (by omega) ⟨rfl, rfl, i + 1, by omega, by omega, htk', ?_⟩
          simp (config := { maxSteps := 2000000 }) (disch := first | omega | (repeat first | assumption | exact Kept.refl _ | refine Kept.set' (by assumption) ?_ ?_ | refine Kept.set (by assumption) ?_ ?_ | omega)) only [go_sem, *, Nat.reduceLT, Nat.reduceAdd, Nat.reduceMul, Nat.reduceSub, Nat.reduceEqDiff, Nat.reduceLeDiff, Int.reduceToNat, Int.reduceLT, Int.reduceLE, Int.reduceEq, Int.reduceNe, Int.reduceAdd, Int.reduceSub, Int.reduceMul, Int.reduceNeg, ↓reduceIte, reduceCtorEq]
          simp
        · have hxy := getD_ne e3
          repeat' first | simp (config := { maxSteps := 2000000 }) (disch := first | omega | (repeat first | assumption | exact Kept.refl _ | refine Kept.set' (by assumption) ?_ ?_ | refine Kept.set (by assumption) ?_ ?_ | omega)) only [go_sem, *, Try.results23, fresh_no, Nat.reduceLT, Nat.reduceAdd, Nat.reduceMul, Nat.reduceSub, Nat.reduceEqDiff, Nat.reduceLeDiff, Int.reduceToNat, Int.reduceLT, Int.reduceLE, Int.reduceEq, Int.reduceNe, Int.reduceAdd, Int.reduceSub, Int.reduceMul, Int.reduceNeg, ↓reduceIte, reduceCtorEq] | (apply EvG_ndec <;> intro _) | (apply EvC_ndec <;> intro _) | (apply EvG_dec <;> intro _) | (apply EvC_dec <;> intro _) | refine EvK_draw (id := 6) (L := [(0, 1), (0, 4), (1, 4), (2, 4), (3, 4), (0, 5), (1, 5), (2, 5), (3, 5), (4, 5), (0, 6), (1, 6), (2, 6), (3, 6), (0, 7), (1, 7), (2, 7), (3, 7)]) (by kernel_rfl) (by kernel_rfl) ?_ | (apply EvH_ndec <;> intro _) | (apply EvH_dec <;> intro _) | (apply EvC_nbool <;> intro _) | (apply EvC_bool <;> intro _) | (apply EvG_nbool <;> intro _) | (apply EvG_bool <;> intro _) | (apply EvH_nbool <;> intro _) | (apply EvH_bool <;> intro _)
      · have e1 : ¬ (i : Int) < xs.length := by omega
        have e2 : ¬ (i : Int) < ys.length := by omega
        have hxy : xs = ys := by
          have := htk
          rwa [List.take_of_length_le hge, List.take_of_length_le (by omega)] at this
        repeat' first | simp (config := { maxSteps := 2000000 }) (disch := first | omega | (repeat first | assumption | exact Kept.refl _ | refine Kept.set' (by assumption) ?_ ?_ | refine Kept.set (by assumption) ?_ ?_ | omega)) only [go_sem, *, Try.results23, Nat.reduceLT, Nat.reduceAdd, Nat.reduceMul, Nat.reduceSub, Nat.reduceEqDiff, Nat.reduceLeDiff, Int.reduceToNat, Int.reduceLT, Int.reduceLE, Int.reduceEq, Int.reduceNe, Int.reduceAdd, Int.reduceSub, Int.reduceMul, Int.reduceNeg, ↓reduceIte, reduceCtorEq] | (apply EvG_ndec <;> intro _) | (apply EvC_ndec <;> intro _) | (apply EvG_dec <;> intro _) | (apply EvC_dec <;> intro _) | refine EvK_draw (id := 6) (L := [(0, 1), (0, 4), (1, 4), (2, 4), (3, 4), (0, 5), (1, 5), (2, 5), (3, 5), (4, 5), (0, 6), (1, 6), (2, 6), (3, 6), (0, 7), (1, 7), (2, 7), (3, 7)]) (by kernel_rfl) (by kernel_rfl) ?_ | (apply EvH_ndec <;> intro _) | (apply EvH_dec <;> intro _) | (apply EvC_nbool <;> intro _) | (apply EvC_bool <;> intro _) | (apply EvG_nbool <;> intro _) | (apply EvG_bool <;> intro _) | (apply EvH_nbool <;> intro _) | (apply EvH_bool <;> intro _)
  · have hle1 : ¬ (xs.length : Int) = ys.length := by omega
    have hxy : ¬ xs = ys := fun e => hlen (by rw [e])
    repeat' first | simp (config := { maxSteps := 2000000 }) (disch := first | omega | (repeat first | assumption | exact Kept.refl _ | refine Kept.set' (by assumption) ?_ ?_ | refine Kept.set (by assumption) ?_ ?_ | omega)) only [go_sem, *, Try.results23, Nat.reduceLT, Nat.reduceAdd, Nat.reduceMul, Nat.reduceSub, Nat.reduceEqDiff, Nat.reduceLeDiff, Int.reduceToNat, Int.reduceLT, Int.reduceLE, Int.reduceEq, Int.reduceNe, Int.reduceAdd, Int.reduceSub, Int.reduceMul, Int.reduceNeg, ↓reduceIte, reduceCtorEq] | (apply EvG_ndec <;> intro _) | (apply EvC_ndec <;> intro _) | (apply EvG_dec <;> intro _) | (apply EvC_dec <;> intro _) | refine EvK_draw (id := 6) (L := [(0, 1), (0, 4), (1, 4), (2, 4), (3, 4), (0, 5), (1, 5), (2, 5), (3, 5), (4, 5), (0, 6), (1, 6), (2, 6), (3, 6), (0, 7), (1, 7), (2, 7), (3, 7)]) (by kernel_rfl) (by kernel_rfl) ?_ | (apply EvH_ndec <;> intro _) | (apply EvH_dec <;> intro _) | (apply EvC_nbool <;> intro _) | (apply EvC_bool <;> intro _) | (apply EvG_nbool <;> intro _) | (apply EvG_bool <;> intro _) | (apply EvH_nbool <;> intro _) | (apply EvH_bool <;> intro _)
end Go.Proofs.Ytakfjoelpploeaa

set_option linter.unusedVariables false
set_option linter.unusedSimpArgs false
namespace Go.Proofs.Ytakfjoelpploeaa
open Go.Am
variable {O : Over}

def shortL (xs ys : List Int) : Bool := decide (xs.length < 1000000) && decide (ys.length < 1000000)
theorem of_shortL {xs ys : List Int} (h : shortL xs ys = true) : xs.length < 1000000 ∧ ys.length < 1000000 := by simpa [shortL] using h

def eqUintsS : List Value → Option (AP Value)
  | [s, t] => some ((rdInts .u64 s).bind fun xs => (rdInts .u64 t).bind fun ys => cond (shortL xs ys) (.pure (.bool (decide (xs = ys)))) (.fail ""))
  | _ => none
theorem eqUintsF : SoundF Try.prog 23 eqUintsS := by
  refine soundF_query (tab_sound .nil) orders ?_
  intro args m hm
  unfold eqUintsS at hm
  split at hm
  · rename_i s t
    simp only [Option.some.injEq] at hm
    subst hm
    refine ⟨fun h v => ∃ xs ys, IsInts .u64 h s xs ∧ IsInts .u64 h t ys ∧ shortL xs ys = true ∧ v = .bool (decide (xs = ys)), fun h n v s' hR e => ?_, fun h N v hlt hv => ?_⟩
    · obtain ⟨xs, hx, e⟩ := run_ints hR e
      obtain ⟨ys, hy, e⟩ := run_ints hR e
      obtain ⟨hl, e⟩ := run_cond e
      obtain ⟨h1, rfl⟩ := run_pure e
      exact ⟨h1, .bool _, xs, ys, hx, hy, hl, rfl⟩
    · obtain ⟨xs, ys, hx, hy, hl, rfl⟩ := hv
      exact (equalUints xs ys s t h N hx hy (of_shortL hl).1 (of_shortL hl).2).mono fun v h2 n2 ⟨e1, e2, _⟩ => ⟨e1, fun i _ => by rw [e2]⟩
  · simp at hm

abbrev OrU : Over := tabO [(23, eqUintsS)]
theorem OrUok : SoundO Try.prog OrU := tab_sound (.cons eqUintsF .nil)

def eqDomS : List Value → Option (AP Value)
  | [.agg ⟨[.int .u8 kd, .int .i64 dn, s]⟩, .agg ⟨[.int .u8 kd2, .int .i64 dn2, t]⟩] => some ((rdInts .u64 s).bind fun xs => (rdInts .u64 t).bind fun ys => cond (shortL xs ys) (.pure (.bool (decide (kd = kd2 ∧ dn = dn2 ∧ xs = ys)))) (.fail ""))
  | _ => none
set_option maxRecDepth 100000 in
set_option maxHeartbeats 4000000 in
theorem eqDomF : SoundF Try.prog 52 eqDomS := by
  refine soundF_query OrUok orders ?_
  intro args m hm
  unfold eqDomS at hm
  split at hm
  · rename_i kd dn s kd2 dn2 t
    simp only [Option.some.injEq] at hm
    subst hm
    refine ⟨fun h v => ∃ xs ys, IsInts .u64 h s xs ∧ IsInts .u64 h t ys ∧ shortL xs ys = true ∧ v = .bool (decide (kd = kd2 ∧ dn = dn2 ∧ xs = ys)), fun h n v s' hR e => ?_, fun h N v hlt hv => ?_⟩
    · obtain ⟨xs, hx, e⟩ := run_ints hR e
      obtain ⟨ys, hy, e⟩ := run_ints hR e
      obtain ⟨hl, e⟩ := run_cond e
      obtain ⟨h1, rfl⟩ := run_pure e
      exact ⟨h1, .bool _, xs, ys, hx, hy, hl, rfl⟩
    · obtain ⟨xs, ys, hx, hy, hl, rfl⟩ := hv
      have hrd := fun h' hk z f d ops r K m n => @EvV_ints _ _ h' _ _ hx z f d ops r K m n hk
      have hrd2 := fun h' hk z f d ops r K m n => @EvV_ints _ _ h' _ _ hy z f d ops r K m n hk
      obtain ⟨a, cap, rfl, -⟩ := hx.len
      obtain ⟨b, cap2, rfl, -⟩ := hy.len
      refine EvB_run (N := 24) Try.func52 rfl rfl ?_
      intro z hP hO hro hN hQ
      repeat' first | simp (config := { maxSteps := 2000000 }) (disch := first | omega | (repeat first | assumption | exact Kept.refl _ | refine Kept.set' (by assumption) ?_ ?_ | refine Kept.set (by assumption) ?_ ?_ | omega)) only [go_sem, *, Try.results52, eqUintsS, Nat.reduceLT, Nat.reduceAdd, Nat.reduceMul, Nat.reduceSub, Nat.reduceEqDiff, Nat.reduceLeDiff, Int.reduceToNat, Int.reduceLT, Int.reduceLE, Int.reduceEq, Int.reduceNe, Int.reduceAdd, Int.reduceSub, Int.reduceMul, Int.reduceNeg, ↓reduceIte, reduceCtorEq] | (apply EvG_ndec <;> intro _) | (apply EvC_ndec <;> intro _) | (apply EvG_dec <;> intro _) | (apply EvC_dec <;> intro _) | refine EvK_draw (by cbv) (by first | rfl | cbv) ?_ | (apply EvH_ndec <;> intro _) | (apply EvH_dec <;> intro _) | (apply EvC_nbool <;> intro _) | (apply EvC_bool <;> intro _) | (apply EvG_nbool <;> intro _) | (apply EvG_bool <;> intro _) | (apply EvH_nbool <;> intro _) | (apply EvH_bool <;> intro _)
      all_goals exact fun i hi => by simp (disch := omega) only [heap_ne]
  · simp at hm

theorem guardE29 : Try.prog.eqGuardType Try.prog.depth 29 = false := by kernel_rfl
theorem towsEq (a0 a1 a2 a3 a4 a5 b0 b1 b2 b3 b4 b5 : Int) (cx cy : Bool) : binV Try.prog .eql 29 cx cy (.agg ⟨[.int .i64 a0, .int .i64 a1, .int .i64 a2, .int .i64 a3, .int .i64 a4, .int .i64 a5]⟩) (.agg ⟨[.int .i64 b0, .int .i64 b1, .int .i64 b2, .int .i64 b3, .int .i64 b4, .int .i64 b5]⟩) = .pure (.value (.bool (decide ([a0, a1, a2, a3, a4, a5] = [b0, b1, b2, b3, b4, b5])))) :=
  binV_eql_ints (xs := [a0, a1, a2, a3, a4, a5]) (ys := [b0, b1, b2, b3, b4, b5]) Try.underlying29 Try.underlying3 rfl rfl guardE29 rfl rfl

abbrev OrE : Over := tabO [(52, eqDomS)]
theorem OrEok : SoundO Try.prog OrE := tab_sound (.cons eqDomF .nil)

def eqCfgS : List Value → Option (AP Value)
  | [.agg ⟨[.int .i64 th, .int .i64 sl, .int .u8 en, .int .i64 bu, .int .u8 kd, .int .i64 dn, s, .int .i64 t0, .int .i64 t1, .int .i64 t2, .int .i64 t3, .int .i64 t4, .int .i64 t5, .int .i64 lo, .int .i64 tr, .int .i64 ba]⟩, .agg ⟨[.int .i64 th', .int .i64 sl', .int .u8 en', .int .i64 bu', .int .u8 kd', .int .i64 dn', t, .int .i64 t0', .int .i64 t1', .int .i64 t2', .int .i64 t3', .int .i64 t4', .int .i64 t5', .int .i64 lo', .int .i64 tr', .int .i64 ba']⟩] =>
    some ((rdInts .u64 s).bind fun xs => (rdInts .u64 t).bind fun ys => cond (shortL xs ys) (.pure (.bool (decide (th = th' ∧ sl = sl' ∧ en = en' ∧ bu = bu' ∧ (kd = kd' ∧ dn = dn' ∧ xs = ys) ∧ [t0, t1, t2, t3, t4, t5] = [t0', t1', t2', t3', t4', t5'] ∧ lo = lo' ∧ tr = tr' ∧ ba = ba')))) (.fail ""))
  | _ => none
set_option maxRecDepth 100000 in
set_option maxHeartbeats 40000000 in
theorem eqCfgF : SoundF Try.prog 19 eqCfgS := by
  refine soundF_query OrEok orders ?_
  intro args m hm
  unfold eqCfgS at hm
  split at hm
  · rename_i th sl en bu kd dn s t0 t1 t2 t3 t4 t5 lo tr ba th' sl' en' bu' kd' dn' t t0' t1' t2' t3' t4' t5' lo' tr' ba'
    simp only [Option.some.injEq] at hm
    subst hm
    refine ⟨fun h v => ∃ xs ys, IsInts .u64 h s xs ∧ IsInts .u64 h t ys ∧ shortL xs ys = true ∧ v = .bool (decide (th = th' ∧ sl = sl' ∧ en = en' ∧ bu = bu' ∧ (kd = kd' ∧ dn = dn' ∧ xs = ys) ∧ [t0, t1, t2, t3, t4, t5] = [t0', t1', t2', t3', t4', t5'] ∧ lo = lo' ∧ tr = tr' ∧ ba = ba')), fun h n v s' hR e => ?_, fun h N v hlt hv => ?_⟩
    · obtain ⟨xs, hx, e⟩ := run_ints hR e
      obtain ⟨ys, hy, e⟩ := run_ints hR e
      obtain ⟨hl, e⟩ := run_cond e
      obtain ⟨h1, rfl⟩ := run_pure e
      exact ⟨h1, .bool _, xs, ys, hx, hy, hl, rfl⟩
    · obtain ⟨xs, ys, hx, hy, hl, rfl⟩ := hv
      have hrd := fun h' hk z f d ops r K m n => @EvV_ints _ _ h' _ _ hx z f d ops r K m n hk
      have hrd2 := fun h' hk z f d ops r K m n => @EvV_ints _ _ h' _ _ hy z f d ops r K m n hk
      obtain ⟨a, cap, rfl, -⟩ := hx.len
      obtain ⟨b, cap2, rfl, -⟩ := hy.len
      refine EvB_run (N := 66) Try.func19 rfl rfl ?_
      intro z hP hO hro hN hQ
      repeat' first | simp (config := { maxSteps := 2000000 }) (disch := first | omega | (repeat first | assumption | exact Kept.refl _ | refine Kept.set' (by assumption) ?_ ?_ | refine Kept.set (by assumption) ?_ ?_ | omega)) only [go_sem, *, Try.results19, eqDomS, towsEq, Nat.reduceLT, Nat.reduceAdd, Nat.reduceMul, Nat.reduceSub, Nat.reduceEqDiff, Nat.reduceLeDiff, Int.reduceToNat, Int.reduceLT, Int.reduceLE, Int.reduceEq, Int.reduceNe, Int.reduceAdd, Int.reduceSub, Int.reduceMul, Int.reduceNeg, ↓reduceIte, reduceCtorEq] | (apply EvG_ndec <;> intro _) | (apply EvC_ndec <;> intro _) | (apply EvG_dec <;> intro _) | (apply EvC_dec <;> intro _) | refine EvK_draw (by cbv) (by first | rfl | cbv) ?_ | (apply EvH_ndec <;> intro _) | (apply EvH_dec <;> intro _) | (apply EvC_nbool <;> intro _) | (apply EvC_bool <;> intro _) | (apply EvG_nbool <;> intro _) | (apply EvG_bool <;> intro _) | (apply EvH_nbool <;> intro _) | (apply EvH_bool <;> intro _)
      all_goals exact fun i hi => by simp (disch := omega) only [heap_ne]
  · simp at hm
end Go.Proofs.Ytakfjoelpploeaa

set_option linter.unusedVariables false
set_option linter.unusedSimpArgs false
namespace Go.Proofs.Ytakfjoelpploeaa
open Go.Am

def capOf (n : Nat) : Nat := if n = 0 then 0 else capInf + 1
@[go_sem] theorem capOf_zero : capOf 0 = 0 := rfl
theorem capOf_pos {n : Nat} (h : ¬ n = 0) : capOf n = capInf + 1 := if_neg h

/-- Clone, exactly. -/
theorem cloneX {O : Over} (s : Value) (xs : List Int) (h : PT ABlk) (N : Nat) (hW : WfH h N) (hs : IsInts .u64 h s xs) (hl : xs.length < 1000000) :
    EvB Try.prog O 43 [s] h N fun v h' n' => (s = .slice none 0 0 ∧ v = .slice none 0 0 ∧ Kept h h') ∨ (s ≠ .slice none 0 0 ∧ ∃ g, N ≤ g ∧ g < n' ∧ v = .slice (some ⟨g, 0, none⟩) xs.length (capOf xs.length) ∧ Kept h h' ∧ h'.get g = some (.cells (PT.ofList .leaf 0 (xs.map (.int .u64))) false)) := by
  rcases hs.shapes with ⟨rfl, rfl⟩ | ⟨b, off, sp, cap, L, ro, rfl, rfl, hb⟩ | ⟨b, off, sp, cap, L, ro, rfl, hb, hB, hT⟩
  · refine EvB_run (N := 8) Try.func43 rfl rfl ?_
    intro z hP hO hro hN hQ
    repeat' first | simp (config := { maxSteps := 2000000 }) (disch := first | omega | (repeat first | assumption | exact Kept.refl _ | refine Kept.set' (by assumption) ?_ ?_ | refine Kept.set (by assumption) ?_ ?_ | omega)) only [go_sem, *, Try.results43, Nat.reduceLT, Nat.reduceAdd, Nat.reduceMul, Nat.reduceSub, Nat.reduceEqDiff, Nat.reduceLeDiff, Int.reduceToNat, Int.reduceLT, Int.reduceLE, Int.reduceEq, Int.reduceNe, Int.reduceAdd, Int.reduceSub, Int.reduceMul, Int.reduceNeg, ↓reduceIte, reduceCtorEq] | (apply EvG_ndec <;> intro _) | (apply EvC_ndec <;> intro _) | (apply EvG_dec <;> intro _) | (apply EvC_dec <;> intro _) | refine EvK_draw (by cbv) (by first | rfl | cbv) ?_ | (apply EvH_ndec <;> intro _) | (apply EvH_dec <;> intro _) | (apply EvC_nbool <;> intro _) | (apply EvC_bool <;> intro _) | (apply EvG_nbool <;> intro _) | (apply EvG_bool <;> intro _) | (apply EvH_nbool <;> intro _) | (apply EvH_bool <;> intro _)
    exact Kept.refl _
  · have hbN := hW.lt hb
    refine EvB_run (N := 8) Try.func43 rfl rfl ?_
    intro z hP hO hro hN hQ
    repeat' first | simp (config := { maxSteps := 2000000 }) (disch := first | omega | (repeat first | assumption | exact Kept.refl _ | refine Kept.set' (by assumption) ?_ ?_ | refine Kept.set (by assumption) ?_ ?_ | omega)) only [go_sem, *, Try.results43, Nat.reduceLT, Nat.reduceAdd, Nat.reduceMul, Nat.reduceSub, Nat.reduceEqDiff, Nat.reduceLeDiff, Int.reduceToNat, Int.reduceLT, Int.reduceLE, Int.reduceEq, Int.reduceNe, Int.reduceAdd, Int.reduceSub, Int.reduceMul, Int.reduceNeg, ↓reduceIte, reduceCtorEq] | (apply EvG_ndec <;> intro _) | (apply EvC_ndec <;> intro _) | (apply EvG_dec <;> intro _) | (apply EvC_dec <;> intro _) | refine EvK_draw (by cbv) (by first | rfl | cbv) ?_ | (apply EvH_ndec <;> intro _) | (apply EvH_dec <;> intro _) | (apply EvC_nbool <;> intro _) | (apply EvC_bool <;> intro _) | (apply EvG_nbool <;> intro _) | (apply EvG_bool <;> intro _) | (apply EvH_nbool <;> intro _) | (apply EvH_bool <;> intro _)
    all_goals refine .inr ⟨by simp, N, Nat.le_refl _, by omega, rfl, hW.kept (Nat.le_refl _), ?_⟩
    all_goals simp (disch := omega) only [go_sem, List.map_nil]
  · have hbN := hW.lt hb
    by_cases hx : xs.length = 0
    · obtain rfl : xs = [] := List.eq_nil_of_length_eq_zero hx
      refine EvB_run (N := 8) Try.func43 rfl rfl ?_
      intro z hP hO hro hN hQ
      repeat' first | simp (config := { maxSteps := 2000000 }) (disch := first | omega | (repeat first | assumption | exact Kept.refl _ | refine Kept.set' (by assumption) ?_ ?_ | refine Kept.set (by assumption) ?_ ?_ | omega)) only [go_sem, *, Try.results43, Nat.reduceLT, Nat.reduceAdd, Nat.reduceMul, Nat.reduceSub, Nat.reduceEqDiff, Nat.reduceLeDiff, Int.reduceToNat, Int.reduceLT, Int.reduceLE, Int.reduceEq, Int.reduceNe, Int.reduceAdd, Int.reduceSub, Int.reduceMul, Int.reduceNeg, ↓reduceIte, reduceCtorEq] | (apply EvG_ndec <;> intro _) | (apply EvC_ndec <;> intro _) | (apply EvG_dec <;> intro _) | (apply EvC_dec <;> intro _) | refine EvK_draw (by cbv) (by first | rfl | cbv) ?_ | (apply EvH_ndec <;> intro _) | (apply EvH_dec <;> intro _) | (apply EvC_nbool <;> intro _) | (apply EvC_bool <;> intro _) | (apply EvG_nbool <;> intro _) | (apply EvG_bool <;> intro _) | (apply EvH_nbool <;> intro _) | (apply EvH_bool <;> intro _)
      all_goals refine .inr ⟨by simp, N, Nat.le_refl _, by omega, rfl, hW.kept (Nat.le_refl _), ?_⟩
      all_goals simp (disch := omega) only [go_sem, List.map_nil]
    · refine EvB_run (N := 8) Try.func43 rfl rfl ?_
      intro z hP hO hro hN hQ
      repeat' first | simp (config := { maxSteps := 2000000 }) (disch := first | omega | (repeat first | assumption | exact Kept.refl _ | refine Kept.set' (by assumption) ?_ ?_ | refine Kept.set (by assumption) ?_ ?_ | omega)) only [go_sem, *, Try.results43, Nat.reduceLT, Nat.reduceAdd, Nat.reduceMul, Nat.reduceSub, Nat.reduceEqDiff, Nat.reduceLeDiff, Int.reduceToNat, Int.reduceLT, Int.reduceLE, Int.reduceEq, Int.reduceNe, Int.reduceAdd, Int.reduceSub, Int.reduceMul, Int.reduceNeg, ↓reduceIte, reduceCtorEq] | (apply EvG_ndec <;> intro _) | (apply EvC_ndec <;> intro _) | (apply EvG_dec <;> intro _) | (apply EvC_dec <;> intro _) | refine EvK_draw (by cbv) (by first | rfl | cbv) ?_ | (apply EvH_ndec <;> intro _) | (apply EvH_dec <;> intro _) | (apply EvC_nbool <;> intro _) | (apply EvC_bool <;> intro _) | (apply EvG_nbool <;> intro _) | (apply EvG_bool <;> intro _) | (apply EvH_nbool <;> intro _) | (apply EvH_bool <;> intro _)
      all_goals refine .inr ⟨by simp, N + 1, by omega, by omega, by rw [capOf_pos hx], (hW.kept (Nat.le_refl _)).set' hW (by omega), ?_⟩
      all_goals simp (disch := omega) only [go_sem]

theorem cfgRen {I : Nat → Nat → Prop} {Old : Value → Prop} {s s' : Value} {a1 a2 a3 a4 a5 a6 b1 b2 b3 b4 b5 b6 b7 b8 b9 : Int} (hs : VRen I Old s s') : VRens I Old [.int .i64 a1, .int .i64 a2, .int .u8 a3, .int .i64 a4, .int .u8 a5, .int .i64 a6, s, .int .i64 b1, .int .i64 b2, .int .i64 b3, .int .i64 b4, .int .i64 b5, .int .i64 b6, .int .i64 b7, .int .i64 b8, .int .i64 b9] [.int .i64 a1, .int .i64 a2, .int .u8 a3, .int .i64 a4, .int .u8 a5, .int .i64 a6, s', .int .i64 b1, .int .i64 b2, .int .i64 b3, .int .i64 b4, .int .i64 b5, .int .i64 b6, .int .i64 b7, .int .i64 b8, .int .i64 b9] :=
  .cons _ _ _ _ (.int _ _) (.cons _ _ _ _ (.int _ _) (.cons _ _ _ _ (.int _ _) (.cons _ _ _ _ (.int _ _) (.cons _ _ _ _ (.int _ _) (.cons _ _ _ _ (.int _ _) (.cons _ _ _ _ hs (.cons _ _ _ _ (.int _ _) (.cons _ _ _ _ (.int _ _) (.cons _ _ _ _ (.int _ _) (.cons _ _ _ _ (.int _ _) (.cons _ _ _ _ (.int _ _) (.cons _ _ _ _ (.int _ _) (.cons _ _ _ _ (.int _ _) (.cons _ _ _ _ (.int _ _) (.cons _ _ _ _ (.int _ _) .nil)))))))))))))))

/-- Config: the row's first sixteen cells, the cuts copied. -/
noncomputable def configS : List Value → Option (AP Value)
  | [.pointer (some ⟨lb, 0, none⟩)] => some <| AP.row lb fun (S : List Value) _ => match S.take 16 with
    | [.int .i64 th, .int .i64 sl, .int .u8 en, .int .i64 bu, .int .u8 kd, .int .i64 dn, s, .int .i64 t0, .int .i64 t1, .int .i64 t2, .int .i64 t3, .int .i64 t4, .int .i64 t5, .int .i64 lo, .int .i64 tr, .int .i64 ba] => match s with
      | .slice none 0 0 => .pure (.agg ⟨[.int .i64 th, .int .i64 sl, .int .u8 en, .int .i64 bu, .int .u8 kd, .int .i64 dn, .slice none 0 0, .int .i64 t0, .int .i64 t1, .int .i64 t2, .int .i64 t3, .int .i64 t4, .int .i64 t5, .int .i64 lo, .int .i64 tr, .int .i64 ba]⟩)
      | .slice (some ⟨b, off, sp⟩) len cap => AP.row b fun (L : List Value) _ => cond ((Nat.ble (off + len) L.length || Nat.beq len 0) && Nat.ble len 100000) (match decInts .u64 ((L.drop off).take len) with
        | some xs => .newRow (xs.map (.int .u64)) fun g => .pure (.agg ⟨[.int .i64 th, .int .i64 sl, .int .u8 en, .int .i64 bu, .int .u8 kd, .int .i64 dn, .slice (some ⟨g, 0, none⟩) len (capOf len), .int .i64 t0, .int .i64 t1, .int .i64 t2, .int .i64 t3, .int .i64 t4, .int .i64 t5, .int .i64 lo, .int .i64 tr, .int .i64 ba]⟩)
        | none => .fail "") (.fail "")
      | _ => .fail ""
    | _ => .fail ""
  | _ => none

set_option maxRecDepth 100000 in
set_option maxHeartbeats 4000000 in
theorem configF : SoundF Try.prog 18 configS := by
  refine soundF (tab_sound .nil) orders ?_
  intro args m hm h n N Old OldId v h1 n1 hr hold hid hN
  unfold configS at hm
  split at hm
  · rename_i lb
    simp only [Option.some.injEq] at hm
    subst hm
    replace hr := run_row hr
    obtain ⟨S, aro, hS, hr⟩ := hr
    split at hr
    · rename_i th sl en bu kd dn s t0 t1 t2 t3 t4 t5 lo tr ba hcf
      have hlt : ∀ i B, h.get i = some B → i < N := fun i B e => (hid i (hold.id i B e)).1
      have hW := WfH.of_lt hlt
      have hlb := hlt _ _ hS
      have hSl : Nat.ble 16 S.length = true := by
        have := congrArg List.length hcf; simp at this
        exact Nat.ble_eq_true_of_le (by omega)
      split at hr
      · obtain ⟨hs, rfl⟩ := run_pure hr
        clear hr
        have e1 : h1 = h := congrArg HS.heap hs
        have e2 : n1 = n := congrArg HS.next hs
        subst e1 e2
        refine EvB_run (N := 18) Try.func18 rfl rfl ?_
        intro z hP hO hro hNz hQ
        repeat' first | simp (config := { maxSteps := 2000000 }) (disch := first | omega | (repeat first | assumption | exact Kept.refl _ | refine Kept.set' (by assumption) ?_ ?_ | refine Kept.set (by assumption) ?_ ?_ | omega)) only [go_sem, *, Try.results18, Nat.reduceLT, Nat.reduceAdd, Nat.reduceMul, Nat.reduceSub, Nat.reduceEqDiff, Nat.reduceLeDiff, Int.reduceToNat, Int.reduceLT, Int.reduceLE, Int.reduceEq, Int.reduceNe, Int.reduceAdd, Int.reduceSub, Int.reduceMul, Int.reduceNeg, ↓reduceIte, reduceCtorEq] | (apply EvG_ndec <;> intro _) | (apply EvC_ndec <;> intro _) | (apply EvG_dec <;> intro _) | (apply EvC_dec <;> intro _) | refine EvK_draw (by cbv) (by first | rfl | cbv) ?_ | (apply EvH_ndec <;> intro _) | (apply EvH_dec <;> intro _) | (apply EvC_nbool <;> intro _) | (apply EvC_bool <;> intro _) | (apply EvG_nbool <;> intro _) | (apply EvG_bool <;> intro _) | (apply EvH_nbool <;> intro _) | (apply EvH_bool <;> intro _)
        refine EvQ_call ?_ ?_ (by rw [hP, hO]; exact (cloneX _ [] _ _ (by (repeat refine WfH.set' (by omega) ?_); first | assumption | exact WfH.mono (by assumption) (by omega)) (.inl ⟨rfl, rfl⟩) (by simp)).wf (by (repeat refine WfH.set' (by omega) ?_); first | assumption | exact WfH.mono (by assumption) (by omega))) ?_
        · simp (config := { maxSteps := 2000000 }) (disch := first | omega | (repeat first | assumption | exact Kept.refl _ | refine Kept.set' (by assumption) ?_ ?_ | refine Kept.set (by assumption) ?_ ?_ | omega)) only [go_sem, *, Nat.reduceLT, Nat.reduceAdd, Nat.reduceMul, Nat.reduceSub, Nat.reduceEqDiff, Nat.reduceLeDiff, Int.reduceToNat, Int.reduceLT, Int.reduceLE, Int.reduceEq, Int.reduceNe, Int.reduceAdd, Int.reduceSub, Int.reduceMul, Int.reduceNeg, ↓reduceIte, reduceCtorEq]
        · simp (config := { maxSteps := 2000000 }) (disch := first | omega | (repeat first | assumption | exact Kept.refl _ | refine Kept.set' (by assumption) ?_ ?_ | refine Kept.set (by assumption) ?_ ?_ | omega)) only [go_sem, *, Nat.reduceLT, Nat.reduceAdd, Nat.reduceMul, Nat.reduceSub, Nat.reduceEqDiff, Nat.reduceLeDiff, Int.reduceToNat, Int.reduceLT, Int.reduceLE, Int.reduceEq, Int.reduceNe, Int.reduceAdd, Int.reduceSub, Int.reduceMul, Int.reduceNeg, ↓reduceIte, reduceCtorEq]
        · rintro v h2 n2 ⟨⟨_, rfl, hk⟩ | ⟨hne, _⟩, hn2, hW2⟩
          · have e1 := hk (N + 1) _ heap_same
            have e2 := hk N _ (by rw [PT.get_set_ne _ _ (by omega), PT.get_set_ne _ _ (by omega), PT.get_set_same])
            have hk2 : ∀ i B, h1.get i = some B → h2.get i = some B := fun i B e => hk i B (by have := hlt i B e; simp (disch := omega) only [heap_ne, e])
            clear hk hid hold
            repeat' first | simp (config := { maxSteps := 2000000 }) (disch := first | omega | (repeat first | assumption | exact Kept.refl _ | refine Kept.set' (by assumption) ?_ ?_ | refine Kept.set (by assumption) ?_ ?_ | omega)) only [go_sem, *, Try.results18, Nat.reduceLT, Nat.reduceAdd, Nat.reduceMul, Nat.reduceSub, Nat.reduceEqDiff, Nat.reduceLeDiff, Int.reduceToNat, Int.reduceLT, Int.reduceLE, Int.reduceEq, Int.reduceNe, Int.reduceAdd, Int.reduceSub, Int.reduceMul, Int.reduceNeg, ↓reduceIte, reduceCtorEq] | (apply EvG_ndec <;> intro _) | (apply EvC_ndec <;> intro _) | (apply EvG_dec <;> intro _) | (apply EvC_dec <;> intro _) | refine EvK_draw (by cbv) (by first | rfl | cbv) ?_ | (apply EvH_ndec <;> intro _) | (apply EvH_dec <;> intro _) | (apply EvC_nbool <;> intro _) | (apply EvC_bool <;> intro _) | (apply EvG_nbool <;> intro _) | (apply EvG_bool <;> intro _) | (apply EvH_nbool <;> intro _) | (apply EvH_bool <;> intro _)
            exact ⟨fun _ => N, fun i q1 q2 => by omega, fun i j q1 q2 q3 q4 _ => by omega, .agg _ _ (cfgRen (.nilslice 0 0)), fun i B e => .inl ⟨e, by have := hlt i B e; simp (disch := omega) only [heap_ne, hk2 i B e]⟩⟩
          · exact absurd rfl hne
      · rename_i b off sp len cap
        replace hr := run_row hr
        obtain ⟨L, ro, hL, hr⟩ := hr
        replace hr := run_cond hr
        obtain ⟨hc, hr⟩ := hr
        simp only [Bool.and_eq_true] at hc
        split at hr
        · rename_i xs hxs
          replace hr := run_new hr
          obtain ⟨hs, rfl⟩ := run_pure hr
          have e1 : h1 = _ := congrArg HS.heap hs
          have e2 : n1 = _ := congrArg HS.next hs
          simp only [S0] at e1 e2
          subst e1 e2
          clear hs hr
          obtain ⟨hc1, hc2⟩ := hc
          have hc2 := Nat.le_of_ble_eq_true hc2
          have hxl : xs.length = len := by
            have := congrArg List.length (decInts_eq hxs)
            rw [List.length_take, List.length_drop, List.length_map] at this
            rw [Bool.or_eq_true] at hc1
            rcases hc1 with hc1 | hc1
            · have := Nat.le_of_ble_eq_true hc1; omega
            · have := Nat.eq_of_beq_eq_true hc1; omega
          have hI : IsInts .u64 h (.slice (some ⟨b, off, sp⟩) len cap) xs := .inr ⟨b, off, sp, cap, L, ro, by rw [hxl], hL, by rw [hxl]; exact hc1, by rw [hxl]; exact decInts_eq hxs⟩
          refine EvB_run (N := 18) Try.func18 rfl rfl ?_
          intro z hP hO hro hNz hQ
          repeat' first | simp (config := { maxSteps := 2000000 }) (disch := first | omega | (repeat first | assumption | exact Kept.refl _ | refine Kept.set' (by assumption) ?_ ?_ | refine Kept.set (by assumption) ?_ ?_ | omega)) only [go_sem, *, Try.results18, Nat.reduceLT, Nat.reduceAdd, Nat.reduceMul, Nat.reduceSub, Nat.reduceEqDiff, Nat.reduceLeDiff, Int.reduceToNat, Int.reduceLT, Int.reduceLE, Int.reduceEq, Int.reduceNe, Int.reduceAdd, Int.reduceSub, Int.reduceMul, Int.reduceNeg, ↓reduceIte, reduceCtorEq] | (apply EvG_ndec <;> intro _) | (apply EvC_ndec <;> intro _) | (apply EvG_dec <;> intro _) | (apply EvC_dec <;> intro _) | refine EvK_draw (by cbv) (by first | rfl | cbv) ?_ | (apply EvH_ndec <;> intro _) | (apply EvH_dec <;> intro _) | (apply EvC_nbool <;> intro _) | (apply EvC_bool <;> intro _) | (apply EvG_nbool <;> intro _) | (apply EvG_bool <;> intro _) | (apply EvH_nbool <;> intro _) | (apply EvH_bool <;> intro _)
          refine EvQ_call ?_ ?_ (by rw [hP, hO]; exact (cloneX _ xs _ _ (by (repeat refine WfH.set' (by omega) ?_); first | assumption | exact WfH.mono (by assumption) (by omega)) (hI.keep (by (repeat first | assumption | exact Kept.refl _ | refine Kept.set' (by assumption) ?_ ?_ | omega))) (by omega)).wf (by (repeat refine WfH.set' (by omega) ?_); first | assumption | exact WfH.mono (by assumption) (by omega))) ?_
          · simp (config := { maxSteps := 2000000 }) (disch := first | omega | (repeat first | assumption | exact Kept.refl _ | refine Kept.set' (by assumption) ?_ ?_ | refine Kept.set (by assumption) ?_ ?_ | omega)) only [go_sem, *, Nat.reduceLT, Nat.reduceAdd, Nat.reduceMul, Nat.reduceSub, Nat.reduceEqDiff, Nat.reduceLeDiff, Int.reduceToNat, Int.reduceLT, Int.reduceLE, Int.reduceEq, Int.reduceNe, Int.reduceAdd, Int.reduceSub, Int.reduceMul, Int.reduceNeg, ↓reduceIte, reduceCtorEq]
          · simp (config := { maxSteps := 2000000 }) (disch := first | omega | (repeat first | assumption | exact Kept.refl _ | refine Kept.set' (by assumption) ?_ ?_ | refine Kept.set (by assumption) ?_ ?_ | omega)) only [go_sem, *, Nat.reduceLT, Nat.reduceAdd, Nat.reduceMul, Nat.reduceSub, Nat.reduceEqDiff, Nat.reduceLeDiff, Int.reduceToNat, Int.reduceLT, Int.reduceLE, Int.reduceEq, Int.reduceNe, Int.reduceAdd, Int.reduceSub, Int.reduceMul, Int.reduceNeg, ↓reduceIte, reduceCtorEq]
          · rintro v h2 n2 ⟨⟨hne, _⟩ | ⟨_, g, hg1, hg2, rfl, hk, hgg⟩, hn2, hW2⟩
            · simp at hne
            · have e1 := hk (N + 1) _ heap_same
              have e2 := hk N _ (by rw [PT.get_set_ne _ _ (by omega), PT.get_set_ne _ _ (by omega), PT.get_set_same])
              have hk2 : ∀ i B, h.get i = some B → h2.get i = some B := fun i B e => hk i B (by have := hlt i B e; simp (disch := omega) only [heap_ne, e])
              clear hk
              repeat' first | simp (config := { maxSteps := 2000000 }) (disch := first | omega | (repeat first | assumption | exact Kept.refl _ | refine Kept.set' (by assumption) ?_ ?_ | refine Kept.set (by assumption) ?_ ?_ | omega)) only [go_sem, *, Try.results18, Nat.reduceLT, Nat.reduceAdd, Nat.reduceMul, Nat.reduceSub, Nat.reduceEqDiff, Nat.reduceLeDiff, Int.reduceToNat, Int.reduceLT, Int.reduceLE, Int.reduceEq, Int.reduceNe, Int.reduceAdd, Int.reduceSub, Int.reduceMul, Int.reduceNeg, ↓reduceIte, reduceCtorEq] | (apply EvG_ndec <;> intro _) | (apply EvC_ndec <;> intro _) | (apply EvG_dec <;> intro _) | (apply EvC_dec <;> intro _) | refine EvK_draw (by cbv) (by first | rfl | cbv) ?_ | (apply EvH_ndec <;> intro _) | (apply EvH_dec <;> intro _) | (apply EvC_nbool <;> intro _) | (apply EvC_bool <;> intro _) | (apply EvG_nbool <;> intro _) | (apply EvG_bool <;> intro _) | (apply EvH_nbool <;> intro _) | (apply EvH_bool <;> intro _)
              have hnew : IdR OldId n (n + 1) (fun _ => g) n g := .inr ⟨Nat.le_refl _, Nat.lt_succ_self _, rfl⟩
              refine ⟨fun _ => g, fun i q1 q2 => (by omega : N ≤ g), fun i j q1 q2 q3 q4 _ => by omega, .agg _ _ (cfgRen (.slice n 0 len (capOf len) g hnew)), fun i B e => ?_⟩
              rw [PT.get_set] at e
              split at e
              · rename_i hi; subst hi
                obtain rfl := Option.some.inj e
                refine .inr ⟨_, ?_, .cells _ _ _ (VRens.refl _ fun u hu => ?_)⟩
                · rw [sg_new (by omega)]
                  simp (disch := omega) only [heap_ne]
                  exact hgg
                · obtain ⟨x, _, rfl⟩ := List.mem_map.1 hu
                  exact .int _ _
              · have := hlt i B e
                refine .inl ⟨e, ?_⟩
                simp (disch := omega) only [heap_ne, hk2 i B e]
        · exact (run_fail hr).elim
      · exact (run_fail hr).elim
    · exact (run_fail hr).elim
  · simp at hm
end Go.Proofs.Ytakfjoelpploeaa

set_option linter.unusedVariables false
set_option linter.unusedSimpArgs false
namespace Go.Proofs.Ytakfjoelpploeaa
open Go.Am

theorem ofNat_asNat {m : Nat} : asNat (.int .i64 (m : Int)) = some m := rfl

theorem OwnInts.lower {k : IntKind} {h : PT ABlk} {lo lo' hi : Nat} {s : Value} {xs : List Int} (hs : OwnInts k h lo hi s xs) (hl : lo' ≤ lo) : OwnInts k h lo' hi s xs := by
  rcases hs with hs | ⟨b, cap, e, h1, h2, h3⟩
  · exact .inl hs
  · exact .inr ⟨b, cap, e, by omega, h2, h3⟩
/-- The first numbers of a slice. -/
theorem cut_take {h : PT ABlk} {a : Option Addr} {cap m : Nat} {xs : List Int} (hs : IsInts .u64 h (.slice a xs.length cap) xs) (hc : xs.length ≤ cap) (hc2 : cap < capInf) (hm : m ≤ xs.length) :
    ∃ a', slV Try.prog 26 (.slice a xs.length cap) none (some (.int .i64 (m : Int))) none = .pure (.value (.slice a' (xs.take m).length cap)) ∧ IsInts .u64 h (.slice a' (xs.take m).length cap) (xs.take m) := by
  have hl : (xs.take m).length = m := by rw [List.length_take]; omega
  rcases hs with ⟨e, rfl⟩ | ⟨b, off, sp, cap', L, ro, e, hb, hB, hT⟩
  · injection e with e1 e2 e3
    subst e1 e3
    obtain rfl : m = 0 := by simpa using hm
    exact ⟨none, rfl, .inl ⟨rfl, rfl⟩⟩
  · injection e with e1 e2 e3
    subst e1 e3
    have hk : Nat.ble capInf cap = false := by
      cases hq : Nat.ble capInf cap with
      | false => rfl
      | true => have := Nat.le_of_ble_eq_true hq; omega
    have hT2 : ((L.drop off).take m) = (xs.take m).map (.int .u64) := by
      have : (List.map (Value.int .u64) xs).take m = (xs.take m).map (.int .u64) := (List.map_take).symm
      rw [← this, ← hT, List.take_take, Nat.min_eq_left hm]
    have hB2 : (Nat.ble (off + m) L.length || Nat.beq m 0) = true := by
      simp only [Bool.or_eq_true] at hB ⊢
      rcases hB with hB | hB
      · left; have := Nat.le_of_ble_eq_true hB; exact Nat.ble_eq_true_of_le (by omega)
      · have := Nat.eq_of_beq_eq_true hB
        right; rw [show m = 0 by omega]; rfl
    have key : ∃ sp', slV Try.prog 26 (.slice (some ⟨b, off, sp⟩) xs.length cap) none (some (.int .i64 (m : Int))) none = .pure (.value (.slice (some ⟨b, off, sp'⟩) m cap)) := by
      have hi : iaT Try.prog 26 = some (none, 1) := rfl
      simp only [slV_slice, hi, slW_some, boundOr_none, boundOr_some, ofNat_asNat, slK, hk, cond_false]
      rw [show Nat.ble 0 m = true from Nat.ble_eq_true_of_le (Nat.zero_le _), Nat.ble_eq_true_of_le (show m ≤ cap by omega)]
      simp only [Bool.and_self, cond_true, Nat.sub_zero, aAdd, Nat.zero_mul, Nat.add_zero]
      cases Nat.beq cap 0 with
      | true => exact ⟨sp, rfl⟩
      | false => exact ⟨none, rfl⟩
    obtain ⟨sp', key⟩ := key
    rw [hl]
    exact ⟨some ⟨b, off, sp'⟩, key, .inr ⟨b, off, sp', cap, L, ro, by rw [hl], hb, by rw [hl]; exact hB2, by rw [hl]; exact hT2⟩⟩

set_option maxRecDepth 100000 in
set_option maxHeartbeats 4000000 in
theorem cutC {O : Over} (th sl en bu kd dn t0 t1 t2 t3 t4 t5 lo tr ba : Int) (s : Value) (xs : List Int) (h : PT ABlk) (N : Nat) (hW : WfH h N) (hs : IsInts .u64 h s xs) (hl : xs.length < 1000000000000000) (hcap : ∀ a n c, s = .slice a n c → n ≤ c ∧ c < capInf) :
    EvB Try.prog O 13 [.agg ⟨[.int .i64 th, .int .i64 sl, .int .u8 en, .int .i64 bu, .int .u8 kd, .int .i64 dn, s, .int .i64 t0, .int .i64 t1, .int .i64 t2, .int .i64 t3, .int .i64 t4, .int .i64 t5, .int .i64 lo, .int .i64 tr, .int .i64 ba]⟩] h N
      fun v h' n' => ∃ cv, v = .agg ⟨[.int .i64 th, .int .i64 sl, .int .u8 en, .int .i64 bu, .int .u8 kd, .int .i64 dn, cv, .int .i64 t0, .int .i64 t1, .int .i64 t2, .int .i64 t3, .int .i64 t4, .int .i64 t5, .int .i64 lo, .int .i64 tr, .int .i64 ba]⟩ ∧ OwnInts .u64 h' N n' cv (xs.take 100) ∧ Kept h h' := by
  obtain ⟨a, cap, rfl, -⟩ := hs.len
  obtain ⟨hc1, hc2⟩ := hcap _ _ _ rfl
  have h7 : (xs.take 100).length = min 100 xs.length := List.length_take
  obtain ⟨a', hsl, hI⟩ := cut_take hs hc1 hc2 (m := (xs.take 100).length) (by omega)
  have ht : xs.take (xs.take 100).length = xs.take 100 := by
    rw [h7]; by_cases h8 : xs.length ≤ 100
    · rw [Nat.min_eq_right h8, List.take_of_length_le (Nat.le_refl _), List.take_of_length_le h8]
    · rw [Nat.min_eq_left (by omega)]
  rw [ht] at hsl hI
  have h6 : (if (100 : Int) < (xs.length : Int) then (100 : Int) else (xs.length : Int)) = ((xs.take 100).length : Int) := by rw [h7]; split <;> omega
  have h8 : (xs.take 100).length ≤ 100 := by omega
  clear hs hcap ht hc1 hc2 h7
  refine EvB_run (N := 17) Try.func13 rfl rfl ?_
  intro z hP hO hro hN hQ
  repeat' first | simp (config := { maxSteps := 2000000 }) (disch := first | omega | (repeat first | assumption | exact Kept.refl _ | refine Kept.set' (by assumption) ?_ ?_ | refine Kept.set (by assumption) ?_ ?_ | omega)) only [go_sem, *, Try.results13, Nat.reduceLT, Nat.reduceAdd, Nat.reduceMul, Nat.reduceSub, Nat.reduceEqDiff, Nat.reduceLeDiff, Int.reduceToNat, Int.reduceLT, Int.reduceLE, Int.reduceEq, Int.reduceNe, Int.reduceAdd, Int.reduceSub, Int.reduceMul, Int.reduceNeg, ↓reduceIte, reduceCtorEq] | (apply EvG_ndec <;> intro _) | (apply EvC_ndec <;> intro _) | (apply EvG_dec <;> intro _) | (apply EvC_dec <;> intro _) | refine EvK_draw (by cbv) (by first | rfl | cbv) ?_ | (apply EvH_ndec <;> intro _) | (apply EvH_dec <;> intro _) | (apply EvC_nbool <;> intro _) | (apply EvC_bool <;> intro _) | (apply EvG_nbool <;> intro _) | (apply EvG_bool <;> intro _) | (apply EvH_nbool <;> intro _) | (apply EvH_bool <;> intro _)
  refine EvV_via2 _ (copy_runS (hI.keep ?_) ?_ ?_ (by omega)) ?_
  · (repeat first | assumption | exact Kept.refl _ | refine Kept.set' (by assumption) ?_ ?_ | omega)
  · (repeat refine WfH.set' (by omega) ?_); first | assumption | exact WfH.mono (by assumption) (by omega)
  · simp (config := { maxSteps := 2000000 }) (disch := first | omega | (repeat first | assumption | exact Kept.refl _ | refine Kept.set' (by assumption) ?_ ?_ | refine Kept.set (by assumption) ?_ ?_ | omega)) only [go_sem, *, Nat.reduceLT, Nat.reduceAdd, Nat.reduceMul, Nat.reduceSub, Nat.reduceEqDiff, Nat.reduceLeDiff, Int.reduceToNat, Int.reduceLT, Int.reduceLE, Int.reduceEq, Int.reduceNe, Int.reduceAdd, Int.reduceSub, Int.reduceMul, Int.reduceNeg, ↓reduceIte, reduceCtorEq]
  · rintro cv h2 n2 ⟨hn2, hW2, hcv, hk2, hsame⟩
    obtain ⟨ca, cc, rfl, -⟩ := hcv.isInts.len
    have e2 : h2.get (N + 1) = _ := (hsame (N + 1) (by omega)).trans (by rw [heap_ne (by omega), heap_same])
    have e1 : h2.get N = _ := (hsame N (by omega)).trans (by rw [heap_ne (by omega), heap_ne (by omega), heap_same])
    have hkh : ∀ i, i < N → h2.get i = h.get i := fun i hi => (hsame i (by omega)).trans (by rw [heap_ne (by omega), heap_ne (by omega), heap_ne (by omega)])
    clear hsame hk2
    repeat' first | simp (config := { maxSteps := 2000000 }) (disch := first | omega | (repeat first | assumption | exact Kept.refl _ | refine Kept.set' (by assumption) ?_ ?_ | refine Kept.set (by assumption) ?_ ?_ | omega)) only [go_sem, *, Try.results13, Nat.reduceLT, Nat.reduceAdd, Nat.reduceMul, Nat.reduceSub, Nat.reduceEqDiff, Nat.reduceLeDiff, Int.reduceToNat, Int.reduceLT, Int.reduceLE, Int.reduceEq, Int.reduceNe, Int.reduceAdd, Int.reduceSub, Int.reduceMul, Int.reduceNeg, ↓reduceIte, reduceCtorEq] | (apply EvG_ndec <;> intro _) | (apply EvC_ndec <;> intro _) | (apply EvG_dec <;> intro _) | (apply EvC_dec <;> intro _) | refine EvK_draw (by cbv) (by first | rfl | cbv) ?_ | (apply EvH_ndec <;> intro _) | (apply EvH_dec <;> intro _) | (apply EvC_nbool <;> intro _) | (apply EvC_bool <;> intro _) | (apply EvG_nbool <;> intro _) | (apply EvG_bool <;> intro _) | (apply EvH_nbool <;> intro _) | (apply EvH_bool <;> intro _)
    exact ⟨_, rfl, ((hcv.low (by omega)).low (by omega)).lower (by omega), fun i B e => by have hi := hW.lt e; simp (disch := omega) only [heap_ne, hkh i hi, e]⟩
end Go.Proofs.Ytakfjoelpploeaa

set_option linter.unusedVariables false
set_option linter.unusedSimpArgs false
namespace Go.Proofs.Ytakfjoelpploeaa
open Go.Am

def eqAll : List Int → List Int → AP Bool
  | x :: xs, y :: ys => cond (x == y) (eqAll xs ys) (.pure false)
  | _, _ => .pure true
theorem eqAll_self : ∀ xs : List Int, eqAll xs xs = .pure true
  | [] => rfl
  | x :: xs => by simp [eqAll, eqAll_self xs]
theorem guard44 : Try.prog.eqGuardType Try.prog.depth 44 = false := by kernel_rfl
theorem aEqual44 (p0 p1 p2 p3 p4 p5 p6 p7 p8 p9 q0 q1 q2 q3 q4 q5 q6 q7 q8 q9 : Int) : aEqual Try.prog 12 44 (.agg ⟨[.int .i64 p0, .int .i64 p1, .int .i64 p2, .int .i64 p3, .int .i64 p4, .int .i64 p5, .int .i64 p6, .int .i64 p7, .int .i64 p8, .int .i64 p9]⟩) (.agg ⟨[.int .i64 q0, .int .i64 q1, .int .i64 q2, .int .i64 q3, .int .i64 q4, .int .i64 q5, .int .i64 q6, .int .i64 q7, .int .i64 q8, .int .i64 q9]⟩) =
    eqAll [p0, p1, p2, p3, p4, p5, p6, p7, p8, p9] [q0, q1, q2, q3, q4, q5, q6, q7, q8, q9] := by kernel_rfl
theorem eq44 (p0 p1 p2 p3 p4 p5 p6 p7 p8 p9 : Int) (cx cy : Bool) : binV Try.prog .eql 44 cx cy (.agg ⟨[.int .i64 p0, .int .i64 p1, .int .i64 p2, .int .i64 p3, .int .i64 p4, .int .i64 p5, .int .i64 p6, .int .i64 p7, .int .i64 p8, .int .i64 p9]⟩) (.agg ⟨[.int .i64 p0, .int .i64 p1, .int .i64 p2, .int .i64 p3, .int .i64 p4, .int .i64 p5, .int .i64 p6, .int .i64 p7, .int .i64 p8, .int .i64 p9]⟩) = .pure (.value (.bool true)) := by
  simp only [binV, aBinOp, eqGuardOk, guard44, Bool.not_false, cond_true, aEqual44, eqAll_self, AP.bind]
end Go.Proofs.Ytakfjoelpploeaa

set_option linter.unusedVariables false
set_option linter.unusedSimpArgs false
namespace Go.Proofs.Ytakfjoelpploeaa
open Go.Am

set_option maxRecDepth 100000 in
set_option maxHeartbeats 4000000 in
theorem refHeight {O : Over} (v0 v1 v2 v3 v4 v5 v6 v7 v8 v9 v10 v11 v12 v13 v14 v15 v16 v17 v18 v19 v20 v21 v22 v23 v24 v25 wv : Value) (a : Option Addr) (cap : Nat) (H : List Int) (lb2 : Nat) (ro : Bool) (t : Int) (h : PT ABlk) (N : Nat) (hW : WfH h N)
    (hb : h.get lb2 = some (.cells (PT.ofList .leaf 0 [v0, v1, v2, v3, v4, v5, v6, v7, v8, v9, v10, v11, v12, v13, v14, v15, v16, v17, v18, v19, v20, v21, v22, v23, v24, v25, .slice a H.length cap, wv]) ro)) (hH : IsInts .i64 h (.slice a H.length cap) H) (hn : H.length ≤ 100000) :
    EvB Try.prog O 26 [.pointer (some ⟨lb2, 0, none⟩), .int .i64 t] h N fun v h' n' => v = heightV H t ∧ h' = h ∧ n' = N := by
  by_cases hin : 1 ≤ t ∧ t ≤ H.length
  · obtain ⟨a', cap', e, hA⟩ := hH.len
    injection e with e1 e2 e3
    subst e1 e3
    obtain ⟨bk, off, sp, L, ro', rfl, hbk, hL⟩ := hA (t - 1).toNat (by omega)
    have g1 := hin.1
    have g2 := hin.2
    have g3 : ¬ t < 1 := by omega
    have g4 : ¬ (H.length : Int) < t := by omega
    clear hA
    refine EvB_run (N := 27) Try.func26 rfl rfl fun z hP hO hro hN hQ => ?_
    repeat' first | simp (config := { maxSteps := 2000000 }) (disch := first | omega | (repeat first | assumption | exact Kept.refl _ | refine Kept.set' (by assumption) ?_ ?_ | refine Kept.set (by assumption) ?_ ?_ | omega)) only [go_sem, *, Try.results26, heightV, hgtA, hgtE, Nat.reduceLT, Nat.reduceAdd, Nat.reduceMul, Nat.reduceSub, Nat.reduceEqDiff, Nat.reduceLeDiff, Int.reduceToNat, Int.reduceLT, Int.reduceLE, Int.reduceEq, Int.reduceNe, Int.reduceAdd, Int.reduceSub, Int.reduceMul, Int.reduceNeg, ↓reduceIte, reduceCtorEq] | (apply EvG_ndec <;> intro _) | (apply EvC_ndec <;> intro _) | (apply EvG_dec <;> intro _) | (apply EvC_dec <;> intro _) | fail | (apply EvH_ndec <;> intro _) | (apply EvH_dec <;> intro _) | (apply EvC_nbool <;> intro _) | (apply EvC_bool <;> intro _) | (apply EvG_nbool <;> intro _) | (apply EvG_bool <;> intro _) | (apply EvH_nbool <;> intro _) | (apply EvH_bool <;> intro _)
  · by_cases g3 : t < 1
    · refine EvB_run (N := 27) Try.func26 rfl rfl fun z hP hO hro hN hQ => ?_
      repeat' first | simp (config := { maxSteps := 2000000 }) (disch := first | omega | (repeat first | assumption | exact Kept.refl _ | refine Kept.set' (by assumption) ?_ ?_ | refine Kept.set (by assumption) ?_ ?_ | omega)) only [go_sem, *, Try.results26, heightV, hgtA, hgtE, Nat.reduceLT, Nat.reduceAdd, Nat.reduceMul, Nat.reduceSub, Nat.reduceEqDiff, Nat.reduceLeDiff, Int.reduceToNat, Int.reduceLT, Int.reduceLE, Int.reduceEq, Int.reduceNe, Int.reduceAdd, Int.reduceSub, Int.reduceMul, Int.reduceNeg, ↓reduceIte, reduceCtorEq] | (apply EvG_ndec <;> intro _) | (apply EvC_ndec <;> intro _) | (apply EvG_dec <;> intro _) | (apply EvC_dec <;> intro _) | fail | (apply EvH_ndec <;> intro _) | (apply EvH_dec <;> intro _) | (apply EvC_nbool <;> intro _) | (apply EvC_bool <;> intro _) | (apply EvG_nbool <;> intro _) | (apply EvG_bool <;> intro _) | (apply EvH_nbool <;> intro _) | (apply EvH_bool <;> intro _)
    · have g4 : (H.length : Int) < t := by omega
      refine EvB_run (N := 27) Try.func26 rfl rfl fun z hP hO hro hN hQ => ?_
      repeat' first | simp (config := { maxSteps := 2000000 }) (disch := first | omega | (repeat first | assumption | exact Kept.refl _ | refine Kept.set' (by assumption) ?_ ?_ | refine Kept.set (by assumption) ?_ ?_ | omega)) only [go_sem, *, Try.results26, heightV, hgtA, hgtE, Nat.reduceLT, Nat.reduceAdd, Nat.reduceMul, Nat.reduceSub, Nat.reduceEqDiff, Nat.reduceLeDiff, Int.reduceToNat, Int.reduceLT, Int.reduceLE, Int.reduceEq, Int.reduceNe, Int.reduceAdd, Int.reduceSub, Int.reduceMul, Int.reduceNeg, ↓reduceIte, reduceCtorEq] | (apply EvG_ndec <;> intro _) | (apply EvC_ndec <;> intro _) | (apply EvG_dec <;> intro _) | (apply EvC_dec <;> intro _) | fail | (apply EvH_ndec <;> intro _) | (apply EvH_dec <;> intro _) | (apply EvC_nbool <;> intro _) | (apply EvC_bool <;> intro _) | (apply EvG_nbool <;> intro _) | (apply EvG_bool <;> intro _) | (apply EvH_nbool <;> intro _) | (apply EvH_bool <;> intro _)
end Go.Proofs.Ytakfjoelpploeaa

set_option linter.unusedVariables false
set_option linter.unusedSimpArgs false
namespace Go.Proofs.Ytakfjoelpploeaa
open Go.Am

/-- Where a place stands first. -/
def fnd : List (Int × Int × Int) → Int × Int × Int → Int → Option Int
  | [], _, _ => none
  | y :: ys, x, b => if y = x then some b else fnd ys x (b + 1)
def findV (W : List (Int × Int × Int)) (x : Int × Int × Int) : Value := match fnd W x 0 with
  | some i => .tuple ⟨[.int .i64 i, .int .i64 0]⟩
  | none => .tuple ⟨[.int .i64 0, .int .i64 3]⟩
theorem plcs_drop : ∀ (W : List (Int × Int × Int)) (i : Nat), (plcs W).drop (i * 3) = plcs (W.drop i)
  | W, 0 => by simp
  | [], i + 1 => by simp [plcs]
  | y :: ys, i + 1 => by
    have : (i + 1) * 3 = i * 3 + 3 := by omega
    rw [this]
    simp only [List.drop_succ_cons]
    rw [← plcs_drop ys i]
    simp [plcs, plc]
theorem guard63 : Try.prog.eqGuardType Try.prog.depth 63 = false := by kernel_rfl
def eqPlc (x y : Int × Int × Int) : AP Bool := cond (x.1 == y.1) (cond (x.2.1 == y.2.1) (cond (x.2.2 == y.2.2) (.pure true) (.pure false)) (.pure false)) (.pure false)
theorem aEqual63 (x y : Int × Int × Int) : aEqual Try.prog 12 63 (.agg ⟨plc x⟩) (.agg ⟨plc y⟩) = eqPlc x y := by kernel_rfl
theorem eqPlc_eq (x y : Int × Int × Int) : eqPlc x y = .pure (decide (x = y)) := by
  obtain ⟨a, b, c⟩ := x
  obtain ⟨a', b', c'⟩ := y
  have q : ∀ x y : Int, (x == y) = decide (x = y) := fun x y => rfl
  unfold eqPlc
  by_cases h1 : a = a' <;> by_cases h2 : b = b' <;> by_cases h3 : c = c' <;> simp [q, h1, h2, h3]
theorem eq63 (a b c a' b' c' : Int) (cx cy : Bool) : binV Try.prog .eql 63 cx cy (.agg ⟨[.int .u8 a, .int .i64 b, .int .i64 c]⟩) (.agg ⟨[.int .u8 a', .int .i64 b', .int .i64 c']⟩) = .pure (.value (.bool (decide ((a, b, c) = (a', b', c'))))) := by
  have h := aEqual63 (a, b, c) (a', b', c')
  simp only [plc] at h
  simp only [binV, aBinOp, eqGuardOk, guard63, Bool.not_false, cond_true, h, eqPlc_eq, AP.bind]

theorem fnd_drop {W : List (Int × Int × Int)} {i : Nat} (hi : i < W.length) (x : Int × Int × Int) (b : Int) : fnd (W.drop i) x b = if W[i] = x then some b else fnd (W.drop (i + 1)) x (b + 1) := by
  rw [List.drop_eq_getElem_cons hi, fnd]

set_option maxRecDepth 100000 in
set_option maxHeartbeats 4000000 in
theorem refFind {O : Over} (v0 v1 v2 v3 v4 v5 v6 v7 v8 v9 v10 v11 v12 v13 v14 v15 v16 v17 v18 v19 v20 v21 v22 v23 v24 v25 v26 : Value) (wb : Nat) (W : List (Int × Int × Int)) (lb2 : Nat) (ro : Bool) (k x y : Int) (h : PT ABlk) (N : Nat) (hW : WfH h N)
    (hb : h.get lb2 = some (.cells (PT.ofList .leaf 0 [v0, v1, v2, v3, v4, v5, v6, v7, v8, v9, v10, v11, v12, v13, v14, v15, v16, v17, v18, v19, v20, v21, v22, v23, v24, v25, v26, .slice (some ⟨wb, 0, none⟩) W.length (capInf + 3)]) ro)) (hw : h.get wb = some (.cells (PT.ofList .leaf 0 (plcs W)) false)) (hn : W.length ≤ 100000) :
    EvB Try.prog O 54 [.pointer (some ⟨lb2, 0, none⟩), .agg ⟨[.int .u8 k, .int .i64 x, .int .i64 y]⟩] h N fun v h' n' => v = findV W (k, x, y) ∧ Kept h h' := by
  have hlbn := hW.lt hb
  have hwbn := hW.lt hw
  refine EvB_run (N := 28) Try.func54 rfl rfl fun z hP hO hro hN hQ => ?_
  repeat' first | simp (config := { maxSteps := 2000000 }) (disch := first | omega | (repeat first | assumption | exact Kept.refl _ | refine Kept.set' (by assumption) ?_ ?_ | refine Kept.set (by assumption) ?_ ?_ | omega)) only [go_sem, *, Try.results54, Nat.reduceLT, Nat.reduceAdd, Nat.reduceMul, Nat.reduceSub, Nat.reduceEqDiff, Nat.reduceLeDiff, Int.reduceToNat, Int.reduceLT, Int.reduceLE, Int.reduceEq, Int.reduceNe, Int.reduceAdd, Int.reduceSub, Int.reduceMul, Int.reduceNeg, ↓reduceIte, reduceCtorEq] | (apply EvG_ndec <;> intro _) | (apply EvC_ndec <;> intro _) | (apply EvG_dec <;> intro _) | (apply EvC_dec <;> intro _) | refine EvK_draw (id := 6) (L := [(0, 4), (1, 4), (2, 4), (3, 4), (0, 7), (1, 7), (2, 7), (3, 7), (4, 7), (5, 7), (6, 7)]) (by kernel_rfl) (by kernel_rfl) ?_ | (apply EvH_ndec <;> intro _) | (apply EvH_dec <;> intro _) | (apply EvC_nbool <;> intro _) | (apply EvC_bool <;> intro _) | (apply EvG_nbool <;> intro _) | (apply EvG_bool <;> intro _) | (apply EvH_nbool <;> intro _) | (apply EvH_bool <;> intro _)
  refine ind_loop (fun t m h' n' => ∃ i : Nat, i ≤ W.length ∧ t = W.length - i ∧ m.n = 28 ∧ m.dfs = [] ∧ m.get 0 = .pointer (some ⟨lb2, 0, none⟩) ∧ m.get 3 = .pointer (some ⟨N, 0, none⟩) ∧ m.get 6 = .int .i64 i ∧ n' = N + 1 ∧ Kept h h' ∧ h'.get N = some (.cells (PT.ofList .leaf 0 [.int .u8 k, .int .i64 x, .int .i64 y]) false) ∧ findV W (k, x, y) = (match fnd (W.drop i) (k, x, y) i with | some j => .tuple ⟨[.int .i64 j, .int .i64 0]⟩ | none => .tuple ⟨[.int .i64 0, .int .i64 3]⟩)) W.length ?_ ?_
  · refine ⟨0, by omega, by omega, ?_⟩
    simp (config := { maxSteps := 2000000 }) (disch := first | omega | (repeat first | assumption | exact Kept.refl _ | refine Kept.set' (by assumption) ?_ ?_ | refine Kept.set (by assumption) ?_ ?_ | omega)) only [go_sem, *, Nat.reduceLT, Nat.reduceAdd, Nat.reduceMul, Nat.reduceSub, Nat.reduceEqDiff, Nat.reduceLeDiff, Int.reduceToNat, Int.reduceLT, Int.reduceLE, Int.reduceEq, Int.reduceNe, Int.reduceAdd, Int.reduceSub, Int.reduceMul, Int.reduceNeg, ↓reduceIte, reduceCtorEq]
    exact ⟨hW.kept (Nat.le_refl _), rfl⟩
  · rintro t m h' n' ih ⟨i, hi, rfl, m1, m2, m3, m4, m5, rfl, q1, q2, q3⟩
    have hb' := q1 _ _ hb
    have hw' := q1 _ _ hw
    rcases Nat.lt_or_ge i W.length with hlt | hge
    · have e7 : (i : Int) < W.length := by omega
      rw [fnd_drop hlt] at q3
      obtain ⟨⟨k', x', y'⟩, hwi⟩ : ∃ w, W[i] = w := ⟨_, rfl⟩
      have hrow : ((plcs W).drop (i * 3)).take 3 = [.int .u8 k', .int .i64 x', .int .i64 y'] := by
        rw [plcs_drop, List.drop_eq_getElem_cons hlt, hwi]; simp [plcs, plc]
      have hpl : (plcs W).length = W.length * 3 := plcs_length W
      rw [hwi] at q3
      by_cases he : (k', x', y') = (k, x, y)
      · rw [if_pos he] at q3
        repeat' first | simp (config := { maxSteps := 2000000 }) (disch := first | omega | (repeat first | assumption | exact Kept.refl _ | refine Kept.set' (by assumption) ?_ ?_ | refine Kept.set (by assumption) ?_ ?_ | omega)) only [go_sem, *, Try.results54, eq63, Nat.reduceLT, Nat.reduceAdd, Nat.reduceMul, Nat.reduceSub, Nat.reduceEqDiff, Nat.reduceLeDiff, Int.reduceToNat, Int.reduceLT, Int.reduceLE, Int.reduceEq, Int.reduceNe, Int.reduceAdd, Int.reduceSub, Int.reduceMul, Int.reduceNeg, ↓reduceIte, reduceCtorEq] | (apply EvG_ndec <;> intro _) | (apply EvC_ndec <;> intro _) | (apply EvG_dec <;> intro _) | (apply EvC_dec <;> intro _) | refine EvK_draw (id := 6) (L := [(0, 4), (1, 4), (2, 4), (3, 4), (0, 7), (1, 7), (2, 7), (3, 7), (4, 7), (5, 7), (6, 7)]) (by kernel_rfl) (by kernel_rfl) ?_ | (apply EvH_ndec <;> intro _) | (apply EvH_dec <;> intro _) | (apply EvC_nbool <;> intro _) | (apply EvC_bool <;> intro _) | (apply EvG_nbool <;> intro _) | (apply EvG_bool <;> intro _) | (apply EvH_nbool <;> intro _) | (apply EvH_bool <;> intro _)
      · rw [if_neg he] at q3
        repeat' first | simp (config := { maxSteps := 2000000 }) (disch := first | omega | (repeat first | assumption | exact Kept.refl _ | refine Kept.set' (by assumption) ?_ ?_ | refine Kept.set (by assumption) ?_ ?_ | omega)) only [go_sem, *, Try.results54, eq63, Nat.reduceLT, Nat.reduceAdd, Nat.reduceMul, Nat.reduceSub, Nat.reduceEqDiff, Nat.reduceLeDiff, Int.reduceToNat, Int.reduceLT, Int.reduceLE, Int.reduceEq, Int.reduceNe, Int.reduceAdd, Int.reduceSub, Int.reduceMul, Int.reduceNeg, ↓reduceIte, reduceCtorEq] | (apply EvG_ndec <;> intro _) | (apply EvC_ndec <;> intro _) | (apply EvG_dec <;> intro _) | (apply EvC_dec <;> intro _) | refine EvK_draw (id := 6) (L := [(0, 4), (1, 4), (2, 4), (3, 4), (0, 7), (1, 7), (2, 7), (3, 7), (4, 7), (5, 7), (6, 7)]) (by kernel_rfl) (by kernel_rfl) ?_ | (apply EvH_ndec <;> intro _) | (apply EvH_dec <;> intro _) | (apply EvC_nbool <;> intro _) | (apply EvC_bool <;> intro _) | (apply EvG_nbool <;> intro _) | (apply EvG_bool <;> intro _) | (apply EvH_nbool <;> intro _) | (apply EvH_bool <;> intro _)
        refine ih (W.length - (i + 1)) _ _ _ (by omega) ⟨i + 1, by omega, rfl, ?_⟩
        have hci : ((i + 1 : Nat) : Int) = (i : Int) + 1 := by omega
        rw [hci]
        simp (config := { maxSteps := 2000000 }) (disch := first | omega | (repeat first | assumption | exact Kept.refl _ | refine Kept.set' (by assumption) ?_ ?_ | refine Kept.set (by assumption) ?_ ?_ | omega)) only [go_sem, *, Nat.reduceLT, Nat.reduceAdd, Nat.reduceMul, Nat.reduceSub, Nat.reduceEqDiff, Nat.reduceLeDiff, Int.reduceToNat, Int.reduceLT, Int.reduceLE, Int.reduceEq, Int.reduceNe, Int.reduceAdd, Int.reduceSub, Int.reduceMul, Int.reduceNeg, ↓reduceIte, reduceCtorEq]
    · have e7 : ¬ (i : Int) < W.length := by omega
      rw [List.drop_eq_nil_of_le hge] at q3
      repeat' first | simp (config := { maxSteps := 2000000 }) (disch := first | omega | (repeat first | assumption | exact Kept.refl _ | refine Kept.set' (by assumption) ?_ ?_ | refine Kept.set (by assumption) ?_ ?_ | omega)) only [go_sem, *, Try.results54, fnd, Nat.reduceLT, Nat.reduceAdd, Nat.reduceMul, Nat.reduceSub, Nat.reduceEqDiff, Nat.reduceLeDiff, Int.reduceToNat, Int.reduceLT, Int.reduceLE, Int.reduceEq, Int.reduceNe, Int.reduceAdd, Int.reduceSub, Int.reduceMul, Int.reduceNeg, ↓reduceIte, reduceCtorEq] | (apply EvG_ndec <;> intro _) | (apply EvC_ndec <;> intro _) | (apply EvG_dec <;> intro _) | (apply EvC_dec <;> intro _) | refine EvK_draw (id := 6) (L := [(0, 4), (1, 4), (2, 4), (3, 4), (0, 7), (1, 7), (2, 7), (3, 7), (4, 7), (5, 7), (6, 7)]) (by kernel_rfl) (by kernel_rfl) ?_ | (apply EvH_ndec <;> intro _) | (apply EvH_dec <;> intro _) | (apply EvC_nbool <;> intro _) | (apply EvC_bool <;> intro _) | (apply EvG_nbool <;> intro _) | (apply EvG_bool <;> intro _) | (apply EvH_nbool <;> intro _) | (apply EvH_bool <;> intro _)
end Go.Proofs.Ytakfjoelpploeaa

set_option linter.unusedVariables false
set_option linter.unusedSimpArgs false
namespace Go.Proofs.Ytakfjoelpploeaa
open Go.Am

def fI (W : List (Int × Int × Int)) (x : Int × Int × Int) : Int := (fnd W x 0).getD 0
def fE (W : List (Int × Int × Int)) (x : Int × Int × Int) : Int := if (fnd W x 0).isSome then 0 else 3
theorem findV_eq (W : List (Int × Int × Int)) (x : Int × Int × Int) : findV W x = .tuple ⟨[.int .i64 (fI W x), .int .i64 (fE W x)]⟩ := by
  unfold findV fI fE
  cases fnd W x 0 <;> rfl
def wrdR (W : List (Int × Int × Int)) (t w : Int) : Value := if w < 0 ∨ 4 < w then .tuple ⟨[.int .i64 0, .int .i64 3]⟩ else findV W (9, t, w)
def ltcR (W : List (Int × Int × Int)) (r : Int) : Value := if r = 0 then .tuple ⟨[.int .i64 0, .int .i64 3]⟩ else if 0 < r then findV W (9, r, 3) else findV W (8, IntKind.i64.wrap (-1 - r), 0)

set_option maxRecDepth 100000 in
set_option maxHeartbeats 4000000 in
theorem refWord {O : Over} (o54 : ∀ a, O 54 a = none) (v0 v1 v2 v3 v4 v5 v6 v7 v8 v9 v10 v11 v12 v13 v14 v15 v16 v17 v18 v19 v20 v21 v22 v23 v24 v25 v26 : Value) (wb : Nat) (W : List (Int × Int × Int)) (lb2 : Nat) (ro : Bool) (t w : Int) (h : PT ABlk) (N : Nat) (hW : WfH h N)
    (hb : h.get lb2 = some (.cells (PT.ofList .leaf 0 [v0, v1, v2, v3, v4, v5, v6, v7, v8, v9, v10, v11, v12, v13, v14, v15, v16, v17, v18, v19, v20, v21, v22, v23, v24, v25, v26, .slice (some ⟨wb, 0, none⟩) W.length (capInf + 3)]) ro)) (hw : h.get wb = some (.cells (PT.ofList .leaf 0 (plcs W)) false)) (hn : W.length ≤ 100000) :
    EvB Try.prog O 28 [.pointer (some ⟨lb2, 0, none⟩), .int .i64 t, .int .i64 w] h N fun v h' n' => v = wrdR W t w ∧ Kept h h' := by
  unfold wrdR
  by_cases g1 : w < 0
  · rw [if_pos (.inl g1)]
    refine EvB_run (N := 25) Try.func28 rfl rfl fun z hP hO hro hN hQ => ?_
    repeat' first | simp (config := { maxSteps := 2000000 }) (disch := first | omega | (repeat first | assumption | exact Kept.refl _ | refine Kept.set' (by assumption) ?_ ?_ | refine Kept.set (by assumption) ?_ ?_ | omega)) only [go_sem, *, Try.results28, Nat.reduceLT, Nat.reduceAdd, Nat.reduceMul, Nat.reduceSub, Nat.reduceEqDiff, Nat.reduceLeDiff, Int.reduceToNat, Int.reduceLT, Int.reduceLE, Int.reduceEq, Int.reduceNe, Int.reduceAdd, Int.reduceSub, Int.reduceMul, Int.reduceNeg, ↓reduceIte, reduceCtorEq] | (apply EvG_ndec <;> intro _) | (apply EvC_ndec <;> intro _) | (apply EvG_dec <;> intro _) | (apply EvC_dec <;> intro _) | fail | (apply EvH_ndec <;> intro _) | (apply EvH_dec <;> intro _) | (apply EvC_nbool <;> intro _) | (apply EvC_bool <;> intro _) | (apply EvG_nbool <;> intro _) | (apply EvG_bool <;> intro _) | (apply EvH_nbool <;> intro _) | (apply EvH_bool <;> intro _)
    all_goals exact Kept.refl _
  · by_cases g2 : 4 < w
    · rw [if_pos (.inr g2)]
      refine EvB_run (N := 25) Try.func28 rfl rfl fun z hP hO hro hN hQ => ?_
      repeat' first | simp (config := { maxSteps := 2000000 }) (disch := first | omega | (repeat first | assumption | exact Kept.refl _ | refine Kept.set' (by assumption) ?_ ?_ | refine Kept.set (by assumption) ?_ ?_ | omega)) only [go_sem, *, Try.results28, Nat.reduceLT, Nat.reduceAdd, Nat.reduceMul, Nat.reduceSub, Nat.reduceEqDiff, Nat.reduceLeDiff, Int.reduceToNat, Int.reduceLT, Int.reduceLE, Int.reduceEq, Int.reduceNe, Int.reduceAdd, Int.reduceSub, Int.reduceMul, Int.reduceNeg, ↓reduceIte, reduceCtorEq] | (apply EvG_ndec <;> intro _) | (apply EvC_ndec <;> intro _) | (apply EvG_dec <;> intro _) | (apply EvC_dec <;> intro _) | fail | (apply EvH_ndec <;> intro _) | (apply EvH_dec <;> intro _) | (apply EvC_nbool <;> intro _) | (apply EvC_bool <;> intro _) | (apply EvG_nbool <;> intro _) | (apply EvG_bool <;> intro _) | (apply EvH_nbool <;> intro _) | (apply EvH_bool <;> intro _)
      all_goals exact Kept.refl _
    · rw [if_neg (by omega)]
      refine EvB_run (N := 25) Try.func28 rfl rfl fun z hP hO hro hN hQ => ?_
      repeat' first | simp (config := { maxSteps := 2000000 }) (disch := first | omega | (repeat first | assumption | exact Kept.refl _ | refine Kept.set' (by assumption) ?_ ?_ | refine Kept.set (by assumption) ?_ ?_ | omega)) only [go_sem, *, Try.results28, Nat.reduceLT, Nat.reduceAdd, Nat.reduceMul, Nat.reduceSub, Nat.reduceEqDiff, Nat.reduceLeDiff, Int.reduceToNat, Int.reduceLT, Int.reduceLE, Int.reduceEq, Int.reduceNe, Int.reduceAdd, Int.reduceSub, Int.reduceMul, Int.reduceNeg, ↓reduceIte, reduceCtorEq] | (apply EvG_ndec <;> intro _) | (apply EvC_ndec <;> intro _) | (apply EvG_dec <;> intro _) | (apply EvC_dec <;> intro _) | fail | (apply EvH_ndec <;> intro _) | (apply EvH_dec <;> intro _) | (apply EvC_nbool <;> intro _) | (apply EvC_bool <;> intro _) | (apply EvG_nbool <;> intro _) | (apply EvG_bool <;> intro _) | (apply EvH_nbool <;> intro _) | (apply EvH_bool <;> intro _)
      refine EvQ_call ?_ ?_ (by rw [hP, hO]; exact refFind v0 v1 v2 v3 v4 v5 v6 v7 v8 v9 v10 v11 v12 v13 v14 v15 v16 v17 v18 v19 v20 v21 v22 v23 v24 v25 v26 wb W lb2 ro 9 t w h N hW hb hw hn) ?_
      · simp (config := { maxSteps := 2000000 }) (disch := first | omega | (repeat first | assumption | exact Kept.refl _ | refine Kept.set' (by assumption) ?_ ?_ | refine Kept.set (by assumption) ?_ ?_ | omega)) only [go_sem, *, Nat.reduceLT, Nat.reduceAdd, Nat.reduceMul, Nat.reduceSub, Nat.reduceEqDiff, Nat.reduceLeDiff, Int.reduceToNat, Int.reduceLT, Int.reduceLE, Int.reduceEq, Int.reduceNe, Int.reduceAdd, Int.reduceSub, Int.reduceMul, Int.reduceNeg, ↓reduceIte, reduceCtorEq]
      · simp (config := { maxSteps := 2000000 }) (disch := first | omega | (repeat first | assumption | exact Kept.refl _ | refine Kept.set' (by assumption) ?_ ?_ | refine Kept.set (by assumption) ?_ ?_ | omega)) only [go_sem, *, Nat.reduceLT, Nat.reduceAdd, Nat.reduceMul, Nat.reduceSub, Nat.reduceEqDiff, Nat.reduceLeDiff, Int.reduceToNat, Int.reduceLT, Int.reduceLE, Int.reduceEq, Int.reduceNe, Int.reduceAdd, Int.reduceSub, Int.reduceMul, Int.reduceNeg, ↓reduceIte, reduceCtorEq]
      rintro v h2 n2 ⟨rfl, hk⟩
      rw [findV_eq]
      rw [findV_eq] at hQ
      repeat' first | simp (config := { maxSteps := 2000000 }) (disch := first | omega | (repeat first | assumption | exact Kept.refl _ | refine Kept.set' (by assumption) ?_ ?_ | refine Kept.set (by assumption) ?_ ?_ | omega)) only [go_sem, *, Try.results28, Nat.reduceLT, Nat.reduceAdd, Nat.reduceMul, Nat.reduceSub, Nat.reduceEqDiff, Nat.reduceLeDiff, Int.reduceToNat, Int.reduceLT, Int.reduceLE, Int.reduceEq, Int.reduceNe, Int.reduceAdd, Int.reduceSub, Int.reduceMul, Int.reduceNeg, ↓reduceIte, reduceCtorEq] | (apply EvG_ndec <;> intro _) | (apply EvC_ndec <;> intro _) | (apply EvG_dec <;> intro _) | (apply EvC_dec <;> intro _) | fail | (apply EvH_ndec <;> intro _) | (apply EvH_dec <;> intro _) | (apply EvC_nbool <;> intro _) | (apply EvC_bool <;> intro _) | (apply EvG_nbool <;> intro _) | (apply EvG_bool <;> intro _) | (apply EvH_nbool <;> intro _) | (apply EvH_bool <;> intro _)
set_option maxRecDepth 100000 in
set_option maxHeartbeats 4000000 in
theorem refLatch {O : Over} (o54 : ∀ a, O 54 a = none) (v0 v1 v2 v3 v4 v5 v6 v7 v8 v9 v10 v11 v12 v13 v14 v15 v16 v17 v18 v19 v20 v21 v22 v23 v24 v25 v26 : Value) (wb : Nat) (W : List (Int × Int × Int)) (lb2 : Nat) (ro : Bool) (r : Int) (h : PT ABlk) (N : Nat) (hW : WfH h N)
    (hb : h.get lb2 = some (.cells (PT.ofList .leaf 0 [v0, v1, v2, v3, v4, v5, v6, v7, v8, v9, v10, v11, v12, v13, v14, v15, v16, v17, v18, v19, v20, v21, v22, v23, v24, v25, v26, .slice (some ⟨wb, 0, none⟩) W.length (capInf + 3)]) ro)) (hw : h.get wb = some (.cells (PT.ofList .leaf 0 (plcs W)) false)) (hn : W.length ≤ 100000) :
    EvB Try.prog O 32 [.pointer (some ⟨lb2, 0, none⟩), .int .i64 r] h N fun v h' n' => v = ltcR W r ∧ Kept h h' := by
  unfold ltcR
  by_cases g1 : r = 0
  · rw [if_pos g1]
    refine EvB_run (N := 27) Try.func32 rfl rfl fun z hP hO hro hN hQ => ?_
    repeat' first | simp (config := { maxSteps := 2000000 }) (disch := first | omega | (repeat first | assumption | exact Kept.refl _ | refine Kept.set' (by assumption) ?_ ?_ | refine Kept.set (by assumption) ?_ ?_ | omega)) only [go_sem, *, Try.results32, Nat.reduceLT, Nat.reduceAdd, Nat.reduceMul, Nat.reduceSub, Nat.reduceEqDiff, Nat.reduceLeDiff, Int.reduceToNat, Int.reduceLT, Int.reduceLE, Int.reduceEq, Int.reduceNe, Int.reduceAdd, Int.reduceSub, Int.reduceMul, Int.reduceNeg, ↓reduceIte, reduceCtorEq] | (apply EvG_ndec <;> intro _) | (apply EvC_ndec <;> intro _) | (apply EvG_dec <;> intro _) | (apply EvC_dec <;> intro _) | fail | (apply EvH_ndec <;> intro _) | (apply EvH_dec <;> intro _) | (apply EvC_nbool <;> intro _) | (apply EvC_bool <;> intro _) | (apply EvG_nbool <;> intro _) | (apply EvG_bool <;> intro _) | (apply EvH_nbool <;> intro _) | (apply EvH_bool <;> intro _)
    all_goals exact Kept.refl _
  · rw [if_neg g1]
    by_cases g2 : 0 < r
    · rw [if_pos g2]
      refine EvB_run (N := 27) Try.func32 rfl rfl fun z hP hO hro hN hQ => ?_
      repeat' first | simp (config := { maxSteps := 2000000 }) (disch := first | omega | (repeat first | assumption | exact Kept.refl _ | refine Kept.set' (by assumption) ?_ ?_ | refine Kept.set (by assumption) ?_ ?_ | omega)) only [go_sem, *, Try.results32, Nat.reduceLT, Nat.reduceAdd, Nat.reduceMul, Nat.reduceSub, Nat.reduceEqDiff, Nat.reduceLeDiff, Int.reduceToNat, Int.reduceLT, Int.reduceLE, Int.reduceEq, Int.reduceNe, Int.reduceAdd, Int.reduceSub, Int.reduceMul, Int.reduceNeg, ↓reduceIte, reduceCtorEq] | (apply EvG_ndec <;> intro _) | (apply EvC_ndec <;> intro _) | (apply EvG_dec <;> intro _) | (apply EvC_dec <;> intro _) | fail | (apply EvH_ndec <;> intro _) | (apply EvH_dec <;> intro _) | (apply EvC_nbool <;> intro _) | (apply EvC_bool <;> intro _) | (apply EvG_nbool <;> intro _) | (apply EvG_bool <;> intro _) | (apply EvH_nbool <;> intro _) | (apply EvH_bool <;> intro _)
      refine EvQ_call ?_ ?_ (by rw [hP, hO]; exact refFind v0 v1 v2 v3 v4 v5 v6 v7 v8 v9 v10 v11 v12 v13 v14 v15 v16 v17 v18 v19 v20 v21 v22 v23 v24 v25 v26 wb W lb2 ro 9 r 3 h N hW hb hw hn) ?_
      · simp (config := { maxSteps := 2000000 }) (disch := first | omega | (repeat first | assumption | exact Kept.refl _ | refine Kept.set' (by assumption) ?_ ?_ | refine Kept.set (by assumption) ?_ ?_ | omega)) only [go_sem, *, Nat.reduceLT, Nat.reduceAdd, Nat.reduceMul, Nat.reduceSub, Nat.reduceEqDiff, Nat.reduceLeDiff, Int.reduceToNat, Int.reduceLT, Int.reduceLE, Int.reduceEq, Int.reduceNe, Int.reduceAdd, Int.reduceSub, Int.reduceMul, Int.reduceNeg, ↓reduceIte, reduceCtorEq]
      · simp (config := { maxSteps := 2000000 }) (disch := first | omega | (repeat first | assumption | exact Kept.refl _ | refine Kept.set' (by assumption) ?_ ?_ | refine Kept.set (by assumption) ?_ ?_ | omega)) only [go_sem, *, Nat.reduceLT, Nat.reduceAdd, Nat.reduceMul, Nat.reduceSub, Nat.reduceEqDiff, Nat.reduceLeDiff, Int.reduceToNat, Int.reduceLT, Int.reduceLE, Int.reduceEq, Int.reduceNe, Int.reduceAdd, Int.reduceSub, Int.reduceMul, Int.reduceNeg, ↓reduceIte, reduceCtorEq]
      rintro v h2 n2 ⟨rfl, hk⟩
      rw [findV_eq]
      rw [findV_eq] at hQ
      repeat' first | simp (config := { maxSteps := 2000000 }) (disch := first | omega | (repeat first | assumption | exact Kept.refl _ | refine Kept.set' (by assumption) ?_ ?_ | refine Kept.set (by assumption) ?_ ?_ | omega)) only [go_sem, *, Try.results32, Nat.reduceLT, Nat.reduceAdd, Nat.reduceMul, Nat.reduceSub, Nat.reduceEqDiff, Nat.reduceLeDiff, Int.reduceToNat, Int.reduceLT, Int.reduceLE, Int.reduceEq, Int.reduceNe, Int.reduceAdd, Int.reduceSub, Int.reduceMul, Int.reduceNeg, ↓reduceIte, reduceCtorEq] | (apply EvG_ndec <;> intro _) | (apply EvC_ndec <;> intro _) | (apply EvG_dec <;> intro _) | (apply EvC_dec <;> intro _) | fail | (apply EvH_ndec <;> intro _) | (apply EvH_dec <;> intro _) | (apply EvC_nbool <;> intro _) | (apply EvC_bool <;> intro _) | (apply EvG_nbool <;> intro _) | (apply EvG_bool <;> intro _) | (apply EvH_nbool <;> intro _) | (apply EvH_bool <;> intro _)
    · rw [if_neg g2]
      refine EvB_run (N := 27) Try.func32 rfl rfl fun z hP hO hro hN hQ => ?_
      repeat' first | simp (config := { maxSteps := 2000000 }) (disch := first | omega | (repeat first | assumption | exact Kept.refl _ | refine Kept.set' (by assumption) ?_ ?_ | refine Kept.set (by assumption) ?_ ?_ | omega)) only [go_sem, *, Try.results32, Nat.reduceLT, Nat.reduceAdd, Nat.reduceMul, Nat.reduceSub, Nat.reduceEqDiff, Nat.reduceLeDiff, Int.reduceToNat, Int.reduceLT, Int.reduceLE, Int.reduceEq, Int.reduceNe, Int.reduceAdd, Int.reduceSub, Int.reduceMul, Int.reduceNeg, ↓reduceIte, reduceCtorEq] | (apply EvG_ndec <;> intro _) | (apply EvC_ndec <;> intro _) | (apply EvG_dec <;> intro _) | (apply EvC_dec <;> intro _) | fail | (apply EvH_ndec <;> intro _) | (apply EvH_dec <;> intro _) | (apply EvC_nbool <;> intro _) | (apply EvC_bool <;> intro _) | (apply EvG_nbool <;> intro _) | (apply EvG_bool <;> intro _) | (apply EvH_nbool <;> intro _) | (apply EvH_bool <;> intro _)
      refine EvQ_call ?_ ?_ (by rw [hP, hO]; exact refFind v0 v1 v2 v3 v4 v5 v6 v7 v8 v9 v10 v11 v12 v13 v14 v15 v16 v17 v18 v19 v20 v21 v22 v23 v24 v25 v26 wb W lb2 ro 8 (IntKind.i64.wrap (-1 - r)) 0 h N hW hb hw hn) ?_
      · simp (config := { maxSteps := 2000000 }) (disch := first | omega | (repeat first | assumption | exact Kept.refl _ | refine Kept.set' (by assumption) ?_ ?_ | refine Kept.set (by assumption) ?_ ?_ | omega)) only [go_sem, *, Nat.reduceLT, Nat.reduceAdd, Nat.reduceMul, Nat.reduceSub, Nat.reduceEqDiff, Nat.reduceLeDiff, Int.reduceToNat, Int.reduceLT, Int.reduceLE, Int.reduceEq, Int.reduceNe, Int.reduceAdd, Int.reduceSub, Int.reduceMul, Int.reduceNeg, ↓reduceIte, reduceCtorEq]
      · simp (config := { maxSteps := 2000000 }) (disch := first | omega | (repeat first | assumption | exact Kept.refl _ | refine Kept.set' (by assumption) ?_ ?_ | refine Kept.set (by assumption) ?_ ?_ | omega)) only [go_sem, *, Nat.reduceLT, Nat.reduceAdd, Nat.reduceMul, Nat.reduceSub, Nat.reduceEqDiff, Nat.reduceLeDiff, Int.reduceToNat, Int.reduceLT, Int.reduceLE, Int.reduceEq, Int.reduceNe, Int.reduceAdd, Int.reduceSub, Int.reduceMul, Int.reduceNeg, ↓reduceIte, reduceCtorEq]
      rintro v h2 n2 ⟨rfl, hk⟩
      rw [findV_eq]
      rw [findV_eq] at hQ
      repeat' first | simp (config := { maxSteps := 2000000 }) (disch := first | omega | (repeat first | assumption | exact Kept.refl _ | refine Kept.set' (by assumption) ?_ ?_ | refine Kept.set (by assumption) ?_ ?_ | omega)) only [go_sem, *, Try.results32, Nat.reduceLT, Nat.reduceAdd, Nat.reduceMul, Nat.reduceSub, Nat.reduceEqDiff, Nat.reduceLeDiff, Int.reduceToNat, Int.reduceLT, Int.reduceLE, Int.reduceEq, Int.reduceNe, Int.reduceAdd, Int.reduceSub, Int.reduceMul, Int.reduceNeg, ↓reduceIte, reduceCtorEq] | (apply EvG_ndec <;> intro _) | (apply EvC_ndec <;> intro _) | (apply EvG_dec <;> intro _) | (apply EvC_dec <;> intro _) | fail | (apply EvH_ndec <;> intro _) | (apply EvH_dec <;> intro _) | (apply EvC_nbool <;> intro _) | (apply EvC_bool <;> intro _) | (apply EvG_nbool <;> intro _) | (apply EvG_bool <;> intro _) | (apply EvH_nbool <;> intro _) | (apply EvH_bool <;> intro _)
end Go.Proofs.Ytakfjoelpploeaa

set_option linter.unusedVariables false
set_option linter.unusedSimpArgs false
namespace Go.Proofs.Ytakfjoelpploeaa
open Go.Am

def nxtR (W : List (Int × Int × Int)) (r lv : Int) : Value := if (lv < 0 ∨ 6 ≤ lv) ∨ r = 0 then .tuple ⟨[.int .i64 0, .int .i64 3]⟩ else if 0 < r then findV W (9, r, 5 + lv) else findV W (8, IntKind.i64.wrap (-1 - r), 1 + lv)

set_option maxRecDepth 100000 in
set_option maxHeartbeats 4000000 in
theorem refNext {O : Over} (o54 : ∀ a, O 54 a = none) (v0 v1 v2 v3 v4 v5 v6 v7 v8 v9 v10 v11 v12 v13 v14 v15 v16 v17 v18 v19 v20 v21 v22 v23 v24 v25 v26 : Value) (wb : Nat) (W : List (Int × Int × Int)) (lb2 : Nat) (ro : Bool) (r lv : Int) (h : PT ABlk) (N : Nat) (hW : WfH h N)
    (hb : h.get lb2 = some (.cells (PT.ofList .leaf 0 [v0, v1, v2, v3, v4, v5, v6, v7, v8, v9, v10, v11, v12, v13, v14, v15, v16, v17, v18, v19, v20, v21, v22, v23, v24, v25, v26, .slice (some ⟨wb, 0, none⟩) W.length (capInf + 3)]) ro)) (hw : h.get wb = some (.cells (PT.ofList .leaf 0 (plcs W)) false)) (hn : W.length ≤ 100000) :
    EvB Try.prog O 30 [.pointer (some ⟨lb2, 0, none⟩), .int .i64 r, .int .i64 lv] h N fun v h' n' => v = nxtR W r lv ∧ Kept h h' := by
  unfold nxtR
  by_cases g1 : lv < 0
  · rw [if_pos (.inl (.inl g1))]
    refine EvB_run (N := 41) Try.func30 rfl rfl fun z hP hO hro hN hQ => ?_
    repeat' first | simp (config := { maxSteps := 2000000 }) (disch := first | omega | (repeat first | assumption | exact Kept.refl _ | refine Kept.set' (by assumption) ?_ ?_ | refine Kept.set (by assumption) ?_ ?_ | omega)) only [go_sem, *, Try.results30, Nat.reduceLT, Nat.reduceAdd, Nat.reduceMul, Nat.reduceSub, Nat.reduceEqDiff, Nat.reduceLeDiff, Int.reduceToNat, Int.reduceLT, Int.reduceLE, Int.reduceEq, Int.reduceNe, Int.reduceAdd, Int.reduceSub, Int.reduceMul, Int.reduceNeg, ↓reduceIte, reduceCtorEq] | (apply EvG_ndec <;> intro _) | (apply EvC_ndec <;> intro _) | (apply EvG_dec <;> intro _) | (apply EvC_dec <;> intro _) | fail | (apply EvH_ndec <;> intro _) | (apply EvH_dec <;> intro _) | (apply EvC_nbool <;> intro _) | (apply EvC_bool <;> intro _) | (apply EvG_nbool <;> intro _) | (apply EvG_bool <;> intro _) | (apply EvH_nbool <;> intro _) | (apply EvH_bool <;> intro _)
    all_goals exact Kept.refl _
  · by_cases g2 : 6 ≤ lv
    · rw [if_pos (.inl (.inr g2))]
      refine EvB_run (N := 41) Try.func30 rfl rfl fun z hP hO hro hN hQ => ?_
      repeat' first | simp (config := { maxSteps := 2000000 }) (disch := first | omega | (repeat first | assumption | exact Kept.refl _ | refine Kept.set' (by assumption) ?_ ?_ | refine Kept.set (by assumption) ?_ ?_ | omega)) only [go_sem, *, Try.results30, Nat.reduceLT, Nat.reduceAdd, Nat.reduceMul, Nat.reduceSub, Nat.reduceEqDiff, Nat.reduceLeDiff, Int.reduceToNat, Int.reduceLT, Int.reduceLE, Int.reduceEq, Int.reduceNe, Int.reduceAdd, Int.reduceSub, Int.reduceMul, Int.reduceNeg, ↓reduceIte, reduceCtorEq] | (apply EvG_ndec <;> intro _) | (apply EvC_ndec <;> intro _) | (apply EvG_dec <;> intro _) | (apply EvC_dec <;> intro _) | fail | (apply EvH_ndec <;> intro _) | (apply EvH_dec <;> intro _) | (apply EvC_nbool <;> intro _) | (apply EvC_bool <;> intro _) | (apply EvG_nbool <;> intro _) | (apply EvG_bool <;> intro _) | (apply EvH_nbool <;> intro _) | (apply EvH_bool <;> intro _)
      all_goals exact Kept.refl _
    · by_cases g3 : r = 0
      · rw [if_pos (.inr g3)]
        refine EvB_run (N := 41) Try.func30 rfl rfl fun z hP hO hro hN hQ => ?_
        repeat' first | simp (config := { maxSteps := 2000000 }) (disch := first | omega | (repeat first | assumption | exact Kept.refl _ | refine Kept.set' (by assumption) ?_ ?_ | refine Kept.set (by assumption) ?_ ?_ | omega)) only [go_sem, *, Try.results30, Nat.reduceLT, Nat.reduceAdd, Nat.reduceMul, Nat.reduceSub, Nat.reduceEqDiff, Nat.reduceLeDiff, Int.reduceToNat, Int.reduceLT, Int.reduceLE, Int.reduceEq, Int.reduceNe, Int.reduceAdd, Int.reduceSub, Int.reduceMul, Int.reduceNeg, ↓reduceIte, reduceCtorEq] | (apply EvG_ndec <;> intro _) | (apply EvC_ndec <;> intro _) | (apply EvG_dec <;> intro _) | (apply EvC_dec <;> intro _) | fail | (apply EvH_ndec <;> intro _) | (apply EvH_dec <;> intro _) | (apply EvC_nbool <;> intro _) | (apply EvC_bool <;> intro _) | (apply EvG_nbool <;> intro _) | (apply EvG_bool <;> intro _) | (apply EvH_nbool <;> intro _) | (apply EvH_bool <;> intro _)
        all_goals exact Kept.refl _
      · rw [if_neg (by omega)]
        by_cases g4 : 0 < r
        · rw [if_pos g4]
          refine EvB_run (N := 41) Try.func30 rfl rfl fun z hP hO hro hN hQ => ?_
          repeat' first | simp (config := { maxSteps := 2000000 }) (disch := first | omega | (repeat first | assumption | exact Kept.refl _ | refine Kept.set' (by assumption) ?_ ?_ | refine Kept.set (by assumption) ?_ ?_ | omega)) only [go_sem, *, Try.results30, Nat.reduceLT, Nat.reduceAdd, Nat.reduceMul, Nat.reduceSub, Nat.reduceEqDiff, Nat.reduceLeDiff, Int.reduceToNat, Int.reduceLT, Int.reduceLE, Int.reduceEq, Int.reduceNe, Int.reduceAdd, Int.reduceSub, Int.reduceMul, Int.reduceNeg, ↓reduceIte, reduceCtorEq] | (apply EvG_ndec <;> intro _) | (apply EvC_ndec <;> intro _) | (apply EvG_dec <;> intro _) | (apply EvC_dec <;> intro _) | fail | (apply EvH_ndec <;> intro _) | (apply EvH_dec <;> intro _) | (apply EvC_nbool <;> intro _) | (apply EvC_bool <;> intro _) | (apply EvG_nbool <;> intro _) | (apply EvG_bool <;> intro _) | (apply EvH_nbool <;> intro _) | (apply EvH_bool <;> intro _)
          refine EvQ_call ?_ ?_ (by rw [hP, hO]; exact refFind v0 v1 v2 v3 v4 v5 v6 v7 v8 v9 v10 v11 v12 v13 v14 v15 v16 v17 v18 v19 v20 v21 v22 v23 v24 v25 v26 wb W lb2 ro 9 r (5 + lv) h N hW hb hw hn) ?_
          · simp (config := { maxSteps := 2000000 }) (disch := first | omega | (repeat first | assumption | exact Kept.refl _ | refine Kept.set' (by assumption) ?_ ?_ | refine Kept.set (by assumption) ?_ ?_ | omega)) only [go_sem, *, Nat.reduceLT, Nat.reduceAdd, Nat.reduceMul, Nat.reduceSub, Nat.reduceEqDiff, Nat.reduceLeDiff, Int.reduceToNat, Int.reduceLT, Int.reduceLE, Int.reduceEq, Int.reduceNe, Int.reduceAdd, Int.reduceSub, Int.reduceMul, Int.reduceNeg, ↓reduceIte, reduceCtorEq]
          · simp (config := { maxSteps := 2000000 }) (disch := first | omega | (repeat first | assumption | exact Kept.refl _ | refine Kept.set' (by assumption) ?_ ?_ | refine Kept.set (by assumption) ?_ ?_ | omega)) only [go_sem, *, Nat.reduceLT, Nat.reduceAdd, Nat.reduceMul, Nat.reduceSub, Nat.reduceEqDiff, Nat.reduceLeDiff, Int.reduceToNat, Int.reduceLT, Int.reduceLE, Int.reduceEq, Int.reduceNe, Int.reduceAdd, Int.reduceSub, Int.reduceMul, Int.reduceNeg, ↓reduceIte, reduceCtorEq]
          rintro v h2 n2 ⟨rfl, hk⟩
          rw [findV_eq]
          rw [findV_eq] at hQ
          repeat' first | simp (config := { maxSteps := 2000000 }) (disch := first | omega | (repeat first | assumption | exact Kept.refl _ | refine Kept.set' (by assumption) ?_ ?_ | refine Kept.set (by assumption) ?_ ?_ | omega)) only [go_sem, *, Try.results30, Nat.reduceLT, Nat.reduceAdd, Nat.reduceMul, Nat.reduceSub, Nat.reduceEqDiff, Nat.reduceLeDiff, Int.reduceToNat, Int.reduceLT, Int.reduceLE, Int.reduceEq, Int.reduceNe, Int.reduceAdd, Int.reduceSub, Int.reduceMul, Int.reduceNeg, ↓reduceIte, reduceCtorEq] | (apply EvG_ndec <;> intro _) | (apply EvC_ndec <;> intro _) | (apply EvG_dec <;> intro _) | (apply EvC_dec <;> intro _) | fail | (apply EvH_ndec <;> intro _) | (apply EvH_dec <;> intro _) | (apply EvC_nbool <;> intro _) | (apply EvC_bool <;> intro _) | (apply EvG_nbool <;> intro _) | (apply EvG_bool <;> intro _) | (apply EvH_nbool <;> intro _) | (apply EvH_bool <;> intro _)
        · rw [if_neg g4]
          refine EvB_run (N := 41) Try.func30 rfl rfl fun z hP hO hro hN hQ => ?_
          repeat' first | simp (config := { maxSteps := 2000000 }) (disch := first | omega | (repeat first | assumption | exact Kept.refl _ | refine Kept.set' (by assumption) ?_ ?_ | refine Kept.set (by assumption) ?_ ?_ | omega)) only [go_sem, *, Try.results30, Nat.reduceLT, Nat.reduceAdd, Nat.reduceMul, Nat.reduceSub, Nat.reduceEqDiff, Nat.reduceLeDiff, Int.reduceToNat, Int.reduceLT, Int.reduceLE, Int.reduceEq, Int.reduceNe, Int.reduceAdd, Int.reduceSub, Int.reduceMul, Int.reduceNeg, ↓reduceIte, reduceCtorEq] | (apply EvG_ndec <;> intro _) | (apply EvC_ndec <;> intro _) | (apply EvG_dec <;> intro _) | (apply EvC_dec <;> intro _) | fail | (apply EvH_ndec <;> intro _) | (apply EvH_dec <;> intro _) | (apply EvC_nbool <;> intro _) | (apply EvC_bool <;> intro _) | (apply EvG_nbool <;> intro _) | (apply EvG_bool <;> intro _) | (apply EvH_nbool <;> intro _) | (apply EvH_bool <;> intro _)
          refine EvQ_call ?_ ?_ (by rw [hP, hO]; exact refFind v0 v1 v2 v3 v4 v5 v6 v7 v8 v9 v10 v11 v12 v13 v14 v15 v16 v17 v18 v19 v20 v21 v22 v23 v24 v25 v26 wb W lb2 ro 8 (IntKind.i64.wrap (-1 - r)) (1 + lv) h N hW hb hw hn) ?_
          · simp (config := { maxSteps := 2000000 }) (disch := first | omega | (repeat first | assumption | exact Kept.refl _ | refine Kept.set' (by assumption) ?_ ?_ | refine Kept.set (by assumption) ?_ ?_ | omega)) only [go_sem, *, Nat.reduceLT, Nat.reduceAdd, Nat.reduceMul, Nat.reduceSub, Nat.reduceEqDiff, Nat.reduceLeDiff, Int.reduceToNat, Int.reduceLT, Int.reduceLE, Int.reduceEq, Int.reduceNe, Int.reduceAdd, Int.reduceSub, Int.reduceMul, Int.reduceNeg, ↓reduceIte, reduceCtorEq]
          · simp (config := { maxSteps := 2000000 }) (disch := first | omega | (repeat first | assumption | exact Kept.refl _ | refine Kept.set' (by assumption) ?_ ?_ | refine Kept.set (by assumption) ?_ ?_ | omega)) only [go_sem, *, Nat.reduceLT, Nat.reduceAdd, Nat.reduceMul, Nat.reduceSub, Nat.reduceEqDiff, Nat.reduceLeDiff, Int.reduceToNat, Int.reduceLT, Int.reduceLE, Int.reduceEq, Int.reduceNe, Int.reduceAdd, Int.reduceSub, Int.reduceMul, Int.reduceNeg, ↓reduceIte, reduceCtorEq]
          rintro v h2 n2 ⟨rfl, hk⟩
          rw [findV_eq]
          rw [findV_eq] at hQ
          repeat' first | simp (config := { maxSteps := 2000000 }) (disch := first | omega | (repeat first | assumption | exact Kept.refl _ | refine Kept.set' (by assumption) ?_ ?_ | refine Kept.set (by assumption) ?_ ?_ | omega)) only [go_sem, *, Try.results30, Nat.reduceLT, Nat.reduceAdd, Nat.reduceMul, Nat.reduceSub, Nat.reduceEqDiff, Nat.reduceLeDiff, Int.reduceToNat, Int.reduceLT, Int.reduceLE, Int.reduceEq, Int.reduceNe, Int.reduceAdd, Int.reduceSub, Int.reduceMul, Int.reduceNeg, ↓reduceIte, reduceCtorEq] | (apply EvG_ndec <;> intro _) | (apply EvC_ndec <;> intro _) | (apply EvG_dec <;> intro _) | (apply EvC_dec <;> intro _) | fail | (apply EvH_ndec <;> intro _) | (apply EvH_dec <;> intro _) | (apply EvC_nbool <;> intro _) | (apply EvC_bool <;> intro _) | (apply EvG_nbool <;> intro _) | (apply EvG_bool <;> intro _) | (apply EvH_nbool <;> intro _) | (apply EvH_bool <;> intro _)
end Go.Proofs.Ytakfjoelpploeaa

set_option linter.unusedVariables false
set_option linter.unusedSimpArgs false
namespace Go.Proofs.Ytakfjoelpploeaa
open Go.Am

theorem fnd_append : ∀ (A B : List (Int × Int × Int)) (x : Int × Int × Int) (b : Int), fnd (A ++ B) x b = (fnd A x b).or (fnd B x (b + A.length))
  | [], B, x, b => by simp [fnd]
  | y :: A, B, x, b => by
    rw [List.cons_append, fnd, fnd, fnd_append A B x (b + 1)]
    by_cases e : y = x
    · simp [e]
    · simp only [if_neg e, List.length_cons]
      congr 2
      omega
theorem fnd_none : ∀ (A : List (Int × Int × Int)) (x : Int × Int × Int) (b : Int), ¬ x ∈ A → fnd A x b = none
  | [], _, _, _ => rfl
  | y :: A, x, b, h => by
    simp only [List.mem_cons, not_or] at h
    rw [fnd, if_neg (fun e => h.1 e.symm), fnd_none A x (b + 1) h.2]
/-- The first of a row that is given by its entries. -/
theorem fnd_at : ∀ (A : List (Int × Int × Int)) (x : Int × Int × Int) (b : Int) (i : Nat), A[i]? = some x → (∀ j, j < i → A[j]? ≠ some x) → fnd A x b = some (b + i)
  | [], x, b, i, h, _ => by simp at h
  | y :: A, x, b, 0, h, _ => by
    simp at h; subst h; simp [fnd]
  | y :: A, x, b, i + 1, h, hn => by
    have h0 := hn 0 (by omega)
    simp only [List.getElem?_cons_zero, ne_eq, Option.some.injEq] at h0
    rw [fnd, if_neg h0, fnd_at A x (b + 1) i (by simpa using h) fun j hj => by have := hn (j + 1) (by omega); simpa using this]
    congr 1; omega
theorem grp_get {kind first : Int} {p n i : Nat} (hi : i < n) : (grp kind first p n)[i]? = some (kind, first + ((i / p : Nat) : Int), ((i % p : Nat) : Int)) := by
  simp [grp, hi]
theorem fnd_grp_in {kind first a c b : Int} {p n u v : Nat} (hp : 0 < p) (ha : a = first + (u : Int)) (hc : c = (v : Int)) (hv : v < p) (hn : u * p + v < n) : fnd (grp kind first p n) (kind, a, c) b = some (b + ((u * p + v : Nat) : Int)) := by
  have e1 : (u * p + v) / p = u := by
    rw [Nat.add_comm, Nat.add_mul_div_right _ _ hp, Nat.div_eq_of_lt hv, Nat.zero_add]
  have e2 : (u * p + v) % p = v := by
    rw [Nat.add_comm, Nat.add_mul_mod_self_right, Nat.mod_eq_of_lt hv]
  refine fnd_at _ _ _ _ ?_ fun j hj => ?_
  · rw [grp_get hn, e1, e2, ha, hc]
  · rw [grp_get (by omega)]
    intro e
    simp only [Option.some.injEq, Prod.mk.injEq, true_and] at e
    have h1 : j / p = u := by omega
    have h2 : j % p = v := by omega
    have := Nat.div_add_mod j p
    rw [h1, h2, Nat.mul_comm] at this
    omega
theorem fnd_grp_out {kind first b k a c : Int} {p n : Nat} (h : ∀ u v : Nat, v < p → u * p + v < n → ¬ (k = kind ∧ a = first + (u : Int) ∧ c = (v : Int))) (hp : 0 < p) : fnd (grp kind first p n) (k, a, c) b = none := by
  refine fnd_none _ _ _ fun hm => ?_
  obtain ⟨i, hi⟩ := List.getElem?_of_mem hm
  have hin : i < n := by
    have := (List.getElem?_eq_some_iff.1 hi).1
    rwa [grp_length] at this
  rw [grp_get hin] at hi
  simp only [Option.some.injEq, Prod.mk.injEq] at hi
  have hd := Nat.div_add_mod i p
  refine h (i / p) (i % p) (Nat.mod_lt _ hp) (by rw [Nat.mul_comm]; omega) ⟨hi.1.symm, hi.2.1.symm, hi.2.2.symm⟩
theorem fnd_grp_kind {kind first b k a c : Int} {p n : Nat} (h : k ≠ kind) : fnd (grp kind first p n) (k, a, c) b = none := by
  refine fnd_none _ _ _ fun hm => ?_
  simp only [grp, List.mem_map, Prod.mk.injEq] at hm
  obtain ⟨i, _, hi, _⟩ := hm
  exact h hi.symm
theorem twrs_tag : ∀ (H : List Int) (t : Int) (y : Int × Int × Int), y ∈ twrs t H → y.1 = 9 ∧ t ≤ y.2.1 ∧ y.2.1 < t + H.length
  | [], t, y, h => by simp [twrs] at h
  | x :: r, t, y, h => by
    rw [twrs, List.mem_append] at h
    rcases h with h | h
    · simp only [grp, List.mem_map, List.mem_range] at h
      obtain ⟨i, hi, rfl⟩ := h
      rw [Nat.div_eq_of_lt hi]
      refine ⟨rfl, by simp, ?_⟩
      simp only [List.length_cons]; omega
    · have := twrs_tag r (t + 1) y h
      simp only [List.length_cons]
      omega
theorem fnd_twrs_in : ∀ (H : List Int) (t b w : Int) (i : Nat), i < H.length → 0 ≤ w → w < 5 + H.getD i 0 → (∀ j, j < H.length → 1 ≤ H.getD j 0) → fnd (twrs t H) (9, t + (i : Int), w) b = some ((adr b H).getD i 0 + w)
  | [], t, b, w, i, hi, _, _, _ => by simp at hi
  | x :: r, t, b, w, 0, _, h0, h1, hb => by
    simp only [List.getD_cons_zero] at h1
    have hx := hb 0 (by simp)
    simp only [List.getD_cons_zero] at hx
    rw [twrs, fnd_append, fnd_grp_in (u := 0) (v := w.toNat) (by omega) (by simp) (by omega) (by omega) (by omega)]
    simp only [adr, Option.some_or, List.getD_cons_zero, Option.some.injEq]
    omega
  | x :: r, t, b, w, i + 1, hi, h0, h1, hb => by
    have hx := hb 0 (by simp)
    simp only [List.getD_cons_zero] at hx
    simp only [List.getD_cons_succ] at h1
    have hr := fnd_twrs_in r (t + 1) (b + (5 + x)) w i (by simpa using hi) h0 h1 (fun j hj => by have := hb (j + 1) (by simpa using hj); simpa using this)
    have e1 : t + ((i + 1 : Nat) : Int) = t + 1 + (i : Int) := by omega
    have e2 : fnd (grp 9 t (5 + x).toNat (5 + x).toNat) (9, t + 1 + (i : Int), w) b = none := by
      refine fnd_grp_out (fun u v hv hn => ?_) (by omega)
      rintro ⟨_, ha, _⟩
      have : u = i + 1 := by omega
      subst this
      have : (i + 1) * (5 + x).toNat ≥ (5 + x).toNat := Nat.le_mul_of_pos_left _ (by omega)
      omega
    rw [twrs, fnd_append, e1, e2, grp_length, Option.none_or, show b + (((5 + x).toNat : Nat) : Int) = b + (5 + x) by omega, hr]
    simp only [adr, List.getD_cons_succ]
theorem fnd_what9 {sl en bu lo V t w : Int} {H : List Int} (h1 : 0 ≤ sl) (h2 : 0 ≤ engW en sl bu) (h3 : 0 ≤ lo) (h4 : 0 ≤ V) : fnd (whatOf sl en bu lo V H) (9, t, w) 0 = fnd (twrs 1 H) (9, t, w) (p7Of sl en bu lo H + V * 7) := by
  unfold whatOf
  simp only [fnd_append, fnd_grp_kind (show (9 : Int) ≠ 1 by omega), fnd_grp_kind (show (9 : Int) ≠ 2 by omega), fnd_grp_kind (show (9 : Int) ≠ 3 by omega), fnd_grp_kind (show (9 : Int) ≠ 4 by omega), fnd_grp_kind (show (9 : Int) ≠ 5 by omega), fnd_grp_kind (show (9 : Int) ≠ 6 by omega), fnd_grp_kind (show (9 : Int) ≠ 7 by omega), fnd_grp_kind (show (9 : Int) ≠ 8 by omega), Option.none_or, List.length_append, grp_length]
  congr 1
  unfold p7Of
  omega
theorem fnd_what8 {sl en bu lo V v c : Int} {H : List Int} (h1 : 0 ≤ sl) (h2 : 0 ≤ engW en sl bu) (h3 : 0 ≤ lo) (h4 : 0 ≤ V) : fnd (whatOf sl en bu lo V H) (8, v, c) 0 = if (0 ≤ v ∧ v < V) ∧ 0 ≤ c ∧ c < 7 then some (p7Of sl en bu lo H + v * 7 + c) else none := by
  have ht : fnd (twrs 1 H) (8, v, c) = fun _ => none := by
    funext b
    exact fnd_none _ _ _ fun hm => absurd (twrs_tag H 1 _ hm).1 (by simp)
  have e : fnd (whatOf sl en bu lo V H) (8, v, c) 0 = fnd (grp 8 0 7 (V * 7).toNat) (8, v, c) (p7Of sl en bu lo H) := by
    unfold whatOf
    simp only [fnd_append, ht, fnd_grp_kind (show (8 : Int) ≠ 1 by omega), fnd_grp_kind (show (8 : Int) ≠ 2 by omega), fnd_grp_kind (show (8 : Int) ≠ 3 by omega), fnd_grp_kind (show (8 : Int) ≠ 4 by omega), fnd_grp_kind (show (8 : Int) ≠ 5 by omega), fnd_grp_kind (show (8 : Int) ≠ 6 by omega), fnd_grp_kind (show (8 : Int) ≠ 7 by omega), Option.none_or, Option.or_none, List.length_append, grp_length]
    congr 1
    unfold p7Of
    omega
  rw [e]
  split
  · rename_i hc
    rw [fnd_grp_in (u := v.toNat) (v := c.toNat) (by omega) (by omega) (by omega) (by omega) (by omega)]
    simp only [Option.some.injEq]
    omega
  · rename_i hc
    refine fnd_grp_out (fun u w hw hn => ?_) (by omega)
    rintro ⟨_, rfl, rfl⟩
    exact hc ⟨⟨by omega, by omega⟩, by omega, by omega⟩
end Go.Proofs.Ytakfjoelpploeaa

set_option linter.unusedVariables false
set_option linter.unusedSimpArgs false
namespace Go.Proofs.Ytakfjoelpploeaa
open Go.Am

theorem adr_le : ∀ (H : List Int) (a : Int) (i : Nat), i < H.length → (∀ j, j < H.length → 1 ≤ H.getD j 0 ∧ H.getD j 0 ≤ 6) → a ≤ (adr a H).getD i 0 ∧ (adr a H).getD i 0 ≤ a + 11 * (i : Int)
  | [], a, i, hi, _ => by simp at hi
  | x :: r, a, 0, _, _ => by simp [adr]
  | x :: r, a, i + 1, hi, hb => by
    have hx := hb 0 (by simp)
    simp only [List.getD_cons_zero] at hx
    have hr := adr_le r (a + (5 + x)) i (by simpa using hi) (fun j hj => by have := hb (j + 1) (by simpa using hj); simpa using this)
    simp only [adr, List.getD_cons_succ]
    omega

/-- Word: the same of both sides. -/
theorem word_same {l : LayV} {sl en bu lo V t w : Int} {H : List Int} (h1 : 0 ≤ sl) (h2 : 0 ≤ engW en sl bu) (h3 : 0 ≤ lo) (h4 : 0 ≤ V) (hH : l.H = H) (hT : l.T = adr (p7Of sl en bu lo H + V * 7) H) (hb : ∀ j, j < H.length → 1 ≤ H.getD j 0 ∧ H.getD j 0 ≤ 6)
    (hp : 0 ≤ p7Of sl en bu lo H + V * 7 ∧ p7Of sl en bu lo H + V * 7 ≤ 100000) (hn : H.length ≤ 100000) : wordV l t w = wrdR (whatOf sl en bu lo V H) t w := by
  unfold wordV wrdA wrdE wrdR
  rw [hH, hT]
  by_cases hw : w < 0 ∨ 4 < w
  · rw [if_pos hw, if_neg (by omega), if_neg (by omega)]
  · rw [if_neg hw]
    unfold findV
    rw [fnd_what9 h1 h2 h3 h4]
    by_cases ht : 1 ≤ t ∧ t ≤ H.length
    · have hi : (t - 1).toNat < H.length := by omega
      have e : t = 1 + (((t - 1).toNat : Nat) : Int) := by omega
      have hbi := hb _ hi
      have hf := fnd_twrs_in H 1 (p7Of sl en bu lo H + V * 7) w _ hi (by omega) (by omega) fun j hj => (hb j hj).1
      rw [← e] at hf
      have hal := adr_le H (p7Of sl en bu lo H + V * 7) _ hi hb
      rw [if_pos (by omega), if_pos (by omega), hf, wrap_i64 (by omega) (by omega)]
    · rw [if_neg (by omega), if_neg (by omega), fnd_none]
      intro hm
      have := twrs_tag H 1 _ hm
      simp only at this
      omega

/-- Latch: the same of both sides. -/
theorem latch_same {l : LayV} {sl en bu lo V r : Int} {H : List Int} (h1 : 0 ≤ sl) (h2 : 0 ≤ engW en sl bu) (h3 : 0 ≤ lo) (h4 : 0 ≤ V) (hH : l.H = H) (hT : l.T = adr (p7Of sl en bu lo H + V * 7) H) (hV : l.V = V) (hP : l.P.getD 7 0 = p7Of sl en bu lo H) (hb : ∀ j, j < H.length → 1 ≤ H.getD j 0 ∧ H.getD j 0 ≤ 6)
    (hp : 0 ≤ p7Of sl en bu lo H ∧ p7Of sl en bu lo H ≤ 90000) (hV2 : V ≤ 100) (hn : H.length ≤ 100000) (hr : -9223372036854775808 ≤ r ∧ r ≤ 9223372036854775807) : latchV l r = ltcR (whatOf sl en bu lo V H) r := by
  by_cases h0 : 0 < r
  · have hw := word_same (t := r) (w := 3) h1 h2 h3 h4 hH hT hb (by omega) hn
    unfold wrdR at hw
    rw [if_neg (by omega)] at hw
    unfold ltcR latchV ltcA ltcE
    have hnh : ¬ isHead l r := fun h => absurd h.1 (by omega)
    have h00' : ¬ r = 0 := by omega
    rw [if_neg hnh, if_neg hnh, if_neg h00', if_pos h0, ← hw]
    rfl
  · by_cases h00 : r = 0
    · subst h00
      have hnh : ¬ isHead l 0 := fun h => absurd h.1 (by omega)
      unfold ltcR latchV ltcA ltcE
      rw [if_pos rfl, if_neg hnh, if_neg hnh]
      unfold wrdA wrdE
      rw [if_neg (by omega), if_neg (by omega)]
    · have hwr : IntKind.i64.wrap (-1 - r) = -1 - r := wrap_i64 (by omega) (by omega)
      unfold ltcR latchV ltcA ltcE
      rw [if_neg h00, if_neg h0, hwr]
      unfold findV
      rw [fnd_what8 h1 h2 h3 h4]
      by_cases hin : -1 - r < V
      · have hih : isHead l r := ⟨by omega, by rw [hwr, hV]; exact hin⟩
        have hc : (0 ≤ -1 - r ∧ -1 - r < V) ∧ (0 : Int) ≤ 0 ∧ (0 : Int) < 7 := by omega
        rw [if_pos hih, if_pos hih, if_pos hc]
        unfold headA
        have hi : IntKind.i64.wrap ((-1 - r) * 7) = (-1 - r) * 7 := wrap_i64 (by omega) (by omega)
        rw [hwr, hP, hi, wrap_i64 (by omega) (by omega)]
        simp
      · have hih : ¬ isHead l r := fun h => hin (by have := h.2; rwa [hwr, hV] at this)
        have hc : ¬ ((0 ≤ -1 - r ∧ -1 - r < V) ∧ (0 : Int) ≤ 0 ∧ (0 : Int) < 7) := by omega
        have hd : ¬ ((1 ≤ r ∧ r ≤ l.H.length) ∧ (0 : Int) ≤ 3 ∧ (3 : Int) ≤ 4) := by omega
        rw [if_neg hih, if_neg hih, if_neg hc]
        unfold wrdA wrdE
        rw [if_neg hd, if_neg hd]
end Go.Proofs.Ytakfjoelpploeaa

set_option linter.unusedVariables false
set_option linter.unusedSimpArgs false
namespace Go.Proofs.Ytakfjoelpploeaa
open Go.Am

theorem twrs_word : ∀ (H : List Int) (t : Int) (y : Int × Int × Int), y ∈ twrs t H → (∀ j, j < H.length → 1 ≤ H.getD j 0) → y.2.2 < 5 + H.getD (y.2.1 - t).toNat 0
  | [], t, y, h, _ => by simp [twrs] at h
  | x :: r, t, y, h, hb => by
    have hx := hb 0 (by simp)
    simp only [List.getD_cons_zero] at hx
    rw [twrs, List.mem_append] at h
    rcases h with h | h
    · simp only [grp, List.mem_map, List.mem_range] at h
      obtain ⟨i, hi, rfl⟩ := h
      rw [Nat.div_eq_of_lt hi, Nat.mod_eq_of_lt hi]
      simp only [Int.natCast_zero, Int.add_zero, Int.sub_self, Int.toNat_zero, List.getD_cons_zero]
      omega
    · have h1 := twrs_tag r (t + 1) y h
      have h2 := twrs_word r (t + 1) y h fun j hj => by have := hb (j + 1) (by simpa using hj); simpa using this
      have e : (y.2.1 - t).toNat = (y.2.1 - (t + 1)).toNat + 1 := by omega
      rw [e, List.getD_cons_succ]
      exact h2
theorem fnd_twrs_out (H : List Int) (t b w : Int) (i : Nat) (hw : 5 + H.getD i 0 ≤ w) (hb : ∀ j, j < H.length → 1 ≤ H.getD j 0) : fnd (twrs t H) (9, t + (i : Int), w) b = none := by
  refine fnd_none _ _ _ fun hm => ?_
  have := twrs_word H t _ hm hb
  simp only [show t + (i : Int) - t = (i : Int) by omega, Int.toNat_natCast] at this
  omega

/-- Next: the same of both sides. -/
theorem next_same {l : LayV} {sl en bu lo V r lv : Int} {H : List Int} (h1 : 0 ≤ sl) (h2 : 0 ≤ engW en sl bu) (h3 : 0 ≤ lo) (h4 : 0 ≤ V) (hH : l.H = H) (hT : l.T = adr (p7Of sl en bu lo H + V * 7) H) (hV : l.V = V) (hP : l.P.getD 7 0 = p7Of sl en bu lo H) (hb : ∀ j, j < H.length → 1 ≤ H.getD j 0 ∧ H.getD j 0 ≤ 6)
    (hp : 0 ≤ p7Of sl en bu lo H ∧ p7Of sl en bu lo H ≤ 90000) (hV2 : V ≤ 100) (hn : H.length ≤ 100000) (hr : -9223372036854775808 ≤ r ∧ r ≤ 9223372036854775807) : nextV l r lv = nxtR (whatOf sl en bu lo V H) r lv := by
  have hd : ∀ i, i < H.length → ∀ q, q ∈ [H.getD i 0 - 1] → IntKind.i64.wrap q = q := fun i hi q hq => by
    have := hb i hi
    simp only [List.mem_singleton] at hq
    subst hq
    exact wrap_i64 (by omega) (by omega)
  by_cases hlv : lv < 0 ∨ 6 ≤ lv
  · have c1 : ¬ (isHead l r ∧ (0 ≤ lv ∧ lv ≤ 5)) := fun h => by have := h.2; omega
    have c2 : ¬ nxtH l r lv := by
      rintro ⟨g1, g2⟩
      rw [hH] at g1 g2
      have := hb (r - 1).toNat (by omega)
      rw [hd (r - 1).toNat (by omega) _ (by simp)] at g2
      omega
    unfold nextV nxtA nxtE nxtR
    rw [if_neg c1, if_neg c1, if_neg c2, if_neg c2, if_pos (.inl hlv)]
  · by_cases h0 : 0 < r
    · have c1 : ¬ (isHead l r ∧ (0 ≤ lv ∧ lv ≤ 5)) := fun h => by have := h.1.1; omega
      unfold nextV nxtA nxtE nxtR
      have c3 : ¬ ((lv < 0 ∨ 6 ≤ lv) ∨ r = 0) := by omega
      rw [if_neg c1, if_neg c1, if_neg c3, if_pos h0]
      unfold findV
      rw [fnd_what9 h1 h2 h3 h4]
      by_cases ht : 1 ≤ r ∧ r ≤ H.length
      · have hi : (r - 1).toNat < H.length := by omega
        have e : r = 1 + (((r - 1).toNat : Nat) : Int) := by omega
        have hbi := hb _ hi
        have hal := adr_le H (p7Of sl en bu lo H + V * 7) _ hi hb
        have hw := hd _ hi _ (List.mem_singleton_self _)
        by_cases hh : lv < H.getD (r - 1).toNat 0
        · have hf := fnd_twrs_in H 1 (p7Of sl en bu lo H + V * 7) (5 + lv) _ hi (by omega) (by omega) fun j hj => (hb j hj).1
          rw [← e] at hf
          have c2 : nxtH l r lv := by
            unfold nxtH
            rw [hH, hw]
            omega
          rw [if_pos c2, if_pos c2, hf, hT, wrap_i64 (x := _ + 5) (by omega) (by omega), wrap_i64 (by omega) (by omega), Int.add_assoc]
        · have c2 : ¬ nxtH l r lv := by
            unfold nxtH
            rw [hH, hw]
            omega
          have hf := fnd_twrs_out H 1 (p7Of sl en bu lo H + V * 7) (5 + lv) (r - 1).toNat (by omega) fun j hj => (hb j hj).1
          rw [← e] at hf
          rw [if_neg c2, if_neg c2, hf]
      · have c2 : ¬ nxtH l r lv := by
          unfold nxtH
          rw [hH]
          omega
        rw [if_neg c2, if_neg c2, fnd_none]
        intro hm
        have := twrs_tag H 1 _ hm
        simp only at this
        omega
    · have c2 : ¬ nxtH l r lv := by
        unfold nxtH
        omega
      unfold nextV nxtA nxtE nxtR
      rw [if_neg c2, if_neg c2]
      by_cases h00 : r = 0
      · have c1 : ¬ (isHead l r ∧ (0 ≤ lv ∧ lv ≤ 5)) := fun h => by have := h.1.1; omega
        rw [if_neg c1, if_neg c1, if_pos (.inr h00)]
      · have hwr : IntKind.i64.wrap (-1 - r) = -1 - r := wrap_i64 (by omega) (by omega)
        rw [if_neg (by omega : ¬ ((lv < 0 ∨ 6 ≤ lv) ∨ r = 0)), if_neg h0, hwr]
        unfold findV
        rw [fnd_what8 h1 h2 h3 h4]
        by_cases hin : -1 - r < V
        · have hih : isHead l r := ⟨by omega, by rw [hwr, hV]; exact hin⟩
          have c1 : isHead l r ∧ (0 ≤ lv ∧ lv ≤ 5) := ⟨hih, by omega⟩
          have hc : (0 ≤ -1 - r ∧ -1 - r < V) ∧ (0 : Int) ≤ 1 + lv ∧ 1 + lv < 7 := by omega
          rw [if_pos c1, if_pos c1, if_pos hc]
          unfold headA
          have hi : IntKind.i64.wrap ((-1 - r) * 7) = (-1 - r) * 7 := wrap_i64 (by omega) (by omega)
          rw [hwr, hP, hi, wrap_i64 (x := p7Of sl en bu lo H + (-1 - r) * 7) (by omega) (by omega), wrap_i64 (x := _ + 1) (by omega) (by omega), wrap_i64 (by omega) (by omega), Int.add_assoc (_ + _) 1 lv]
        · have c1 : ¬ (isHead l r ∧ (0 ≤ lv ∧ lv ≤ 5)) := fun h => hin (by have := h.1.2; rwa [hwr, hV] at this)
          have hc : ¬ ((0 ≤ -1 - r ∧ -1 - r < V) ∧ (0 : Int) ≤ 1 + lv ∧ 1 + lv < 7) := by omega
          rw [if_neg c1, if_neg c1, if_neg hc]
end Go.Proofs.Ytakfjoelpploeaa

set_option linter.unusedVariables false
set_option linter.unusedSimpArgs false
namespace Go.Proofs.Ytakfjoelpploeaa
open Go.Am

/-- How many numbers at the beginning are at most a. -/
def cntL : List Int → Int → Nat
  | [], _ => 0
  | x :: r, a => if x ≤ a then cntL r a + 1 else 0
theorem cntL_eq : ∀ (T : List Int) (a : Int) (t : Nat), t ≤ T.length → (∀ j, j < t → T.getD j 0 ≤ a) → (t = T.length ∨ a < T.getD t 0) → cntL T a = t
  | [], a, t, h, _, _ => by simp at h; subst h; rfl
  | x :: r, a, 0, _, _, h => by
    rcases h with h | h
    · simp at h
    · simp only [List.getD_cons_zero] at h
      rw [cntL, if_neg (by omega)]
  | x :: r, a, t + 1, h1, h2, h3 => by
    have h0 := h2 0 (by omega)
    simp only [List.getD_cons_zero] at h0
    rw [cntL, if_pos h0, cntL_eq r a t (by simpa using h1) (fun j hj => by have := h2 (j + 1) (by omega); simpa using this) (by simpa using h3)]
/-- What an address belongs to, by the groups. -/
def gOf : List (Int × Int × Int × Int) → Int → Int × Int × Int
  | [], _ => (0, 0, 0)
  | (k, f, m, w) :: r, a => if 0 < w ∧ a - f < m * w then (k, if k = 7 then (a - f).tdiv w + 1 else (a - f).tdiv w, (a - f).tmod w) else gOf r a
/-- What an address belongs to: the first word of the towers, the end, the groups, the towers. -/
def ofL (p8 p9 : Int) (G : List (Int × Int × Int × Int)) (T : List Int) (a : Int) : Int × Int × Int :=
  if a < 0 ∨ p9 ≤ a then (0, 0, 0) else if p8 ≤ a then (9, (cntL T a : Int), a - T.getD (cntL T a - 1) 0) else gOf G a
def ofR (W : List (Int × Int × Int)) (a : Int) : Int × Int × Int := if a < 0 ∨ (W.length : Int) ≤ a then (0, 0, 0) else W.getD a.toNat (0, 0, 0)

theorem cntL_adr0 : ∀ (H : List Int) (b a : Int), a < b → cntL (adr b H) a = 0
  | [], b, a, _ => rfl
  | x :: r, b, a, h => by rw [adr, cntL, if_neg (by omega)]
theorem adrEnd_ge : ∀ (H : List Int) (b : Int), (∀ j, j < H.length → 1 ≤ H.getD j 0) → b ≤ adrEnd b H
  | [], b, _ => by simp [adrEnd]
  | x :: r, b, h => by
    have hx := h 0 (by simp)
    simp only [List.getD_cons_zero] at hx
    have := adrEnd_ge r (b + (5 + x)) fun j hj => by have := h (j + 1) (by simpa using hj); simpa using this
    simp only [adrEnd]; omega
theorem twrs_length : ∀ (H : List Int) (t b : Int), (∀ j, j < H.length → 1 ≤ H.getD j 0) → b + ((twrs t H).length : Int) = adrEnd b H
  | [], t, b, _ => by simp [twrs, adrEnd]
  | x :: r, t, b, h => by
    have hx := h 0 (by simp)
    simp only [List.getD_cons_zero] at hx
    have := twrs_length r (t + 1) (b + (5 + x)) fun j hj => by have := h (j + 1) (by simpa using hj); simpa using this
    rw [twrs, List.length_append, grp_length, adrEnd, ← this]
    omega
theorem twrs_at : ∀ (H : List Int) (t b a : Int), (∀ j, j < H.length → 1 ≤ H.getD j 0) → b ≤ a → a < adrEnd b H → (twrs t H)[(a - b).toNat]? = some (9, t - 1 + (cntL (adr b H) a : Int), a - (adr b H).getD (cntL (adr b H) a - 1) 0) ∧ 1 ≤ cntL (adr b H) a
  | [], t, b, a, _, h1, h2 => by simp [adrEnd] at h2; omega
  | x :: r, t, b, a, h, h1, h2 => by
    have hx := h 0 (by simp)
    simp only [List.getD_cons_zero] at hx
    have hr : ∀ j, j < r.length → 1 ≤ r.getD j 0 := fun j hj => by have := h (j + 1) (by simpa using hj); simpa using this
    rw [twrs, adr, cntL, if_pos h1]
    refine ⟨?_, by omega⟩
    by_cases hin : a < b + (5 + x)
    · rw [cntL_adr0 _ _ _ hin, List.getElem?_append_left (by rw [grp_length]; omega), grp_get (by omega), Nat.div_eq_of_lt (by omega), Nat.mod_eq_of_lt (by omega)]
      simp only [Option.some.injEq, Prod.mk.injEq, true_and, Nat.zero_add, Nat.sub_self, List.getD_cons_zero]
      omega
    · rw [List.getElem?_append_right (by rw [grp_length]; omega), grp_length]
      simp only [adrEnd] at h2
      obtain ⟨e, e1⟩ := twrs_at r (t + 1) (b + (5 + x)) a hr (by omega) h2
      rw [show (a - b).toNat - (5 + x).toNat = (a - (b + (5 + x))).toNat by omega, e]
      obtain ⟨c, hc⟩ : ∃ c, cntL (adr (b + (5 + x)) r) a = c + 1 := ⟨cntL (adr (b + (5 + x)) r) a - 1, by omega⟩
      rw [hc]
      simp only [Option.some.injEq, Prod.mk.injEq, true_and, Nat.add_sub_cancel, List.getD_cons_succ, and_true]
      omega

/-- The groups one behind the other: their entries in the program, and the words. -/
def gTab : Int → List (Int × Int × Int) → List (Int × Int × Int × Int)
  | _, [] => []
  | f, (k, m, w) :: r => (k, f, m, w) :: gTab (f + m * w) r
def gWds : List (Int × Int × Int) → List (Int × Int × Int)
  | [] => []
  | (k, m, w) :: r => grp k (if k = 7 then 1 else 0) w.toNat (m * w).toNat ++ gWds r
theorem gOf_at : ∀ (L : List (Int × Int × Int)) (f a : Int), (∀ x ∈ L, 0 ≤ x.2.1 ∧ 0 ≤ x.2.2) → f ≤ a → a - f < (gWds L).length → (gWds L)[(a - f).toNat]? = some (gOf (gTab f L) a)
  | [], f, a, _, h1, h2 => by simp [gWds] at h2; omega
  | (k, m, w) :: r, f, a, h, h1, h2 => by
    obtain ⟨hm, hw⟩ := h (k, m, w) (by simp)
    simp only at hm hw
    have hmw : 0 ≤ m * w := Int.mul_nonneg hm hw
    rw [gWds, gTab, gOf]
    by_cases hin : a - f < m * w
    · have hw0 : 0 < w := by
        rcases Int.lt_or_eq_of_le hw with q | q
        · exact q
        · rw [← q, Int.mul_zero] at hin; omega
      have hc : 0 < w ∧ a - f < m * w := ⟨hw0, hin⟩
      rw [if_pos hc, List.getElem?_append_left (by rw [grp_length]; omega), grp_get (by omega)]
      have e1 : (((a - f).toNat / w.toNat : Nat) : Int) = (a - f).tdiv w := by
        rw [Int.natCast_ediv, Int.toNat_of_nonneg (by omega), Int.toNat_of_nonneg (by omega), Int.tdiv_eq_ediv_of_nonneg (by omega)]
      have e2 : (((a - f).toNat % w.toNat : Nat) : Int) = (a - f).tmod w := by
        rw [Int.natCast_emod, Int.toNat_of_nonneg (by omega), Int.toNat_of_nonneg (by omega), Int.tmod_eq_emod_of_nonneg (by omega)]
      rw [e1, e2]
      by_cases hk : k = 7
      · rw [if_pos hk, if_pos hk, Int.add_comm]
      · rw [if_neg hk, if_neg hk, Int.zero_add]
    · have hc : ¬ (0 < w ∧ a - f < m * w) := fun q => hin q.2
      rw [if_neg hc, List.getElem?_append_right (by rw [grp_length]; omega), grp_length]
      rw [gWds, List.length_append, grp_length] at h2
      have := gOf_at r (f + m * w) a (fun x hx => h x (List.mem_cons_of_mem _ hx)) (by omega) (by omega)
      rw [← this]
      congr 1
      omega
theorem gWds_length : ∀ (L : List (Int × Int × Int)) (f : Int), (∀ x ∈ L, 0 ≤ x.2.1 ∧ 0 ≤ x.2.2) → f + ((gWds L).length : Int) = L.foldl (fun f x => f + x.2.1 * x.2.2) f
  | [], f, _ => by simp [gWds]
  | (k, m, w) :: r, f, h => by
    obtain ⟨hm, hw⟩ := h (k, m, w) (by simp)
    simp only at hm hw
    have hmw : 0 ≤ m * w := Int.mul_nonneg hm hw
    rw [gWds, List.length_append, grp_length, List.foldl_cons, ← gWds_length r _ fun x hx => h x (List.mem_cons_of_mem _ hx)]
    simp only
    omega

def gList (sl en bu lo V : Int) (H : List Int) : List (Int × Int × Int) := [(1, sl, 1), (2, 1, engW en sl bu), (3, 1, 1), (4, lo, 3), (5, lo, 1), (6, 6, 1), (7, (H.length : Int), 1), (8, V, 7)]
theorem whatOf_eq {sl en bu lo V : Int} {H : List Int} : whatOf sl en bu lo V H = gWds (gList sl en bu lo V H) ++ twrs 1 H := by
  unfold whatOf gList
  simp only [gWds, List.append_nil, List.append_assoc, Int.mul_one, Int.one_mul, Int.mul_comm lo 3]
  simp [show ¬ ((1 : Int) = 7) by omega]
theorem gTab_eq {sl en bu lo V : Int} {H : List Int} : gTab 0 (gList sl en bu lo V H) = [(1, 0, sl, 1), (2, 0 + sl * 1, 1, engW en sl bu), (3, 0 + sl * 1 + 1 * engW en sl bu, 1, 1), (4, 0 + sl * 1 + 1 * engW en sl bu + 1, lo, 3), (5, 0 + sl * 1 + 1 * engW en sl bu + 1 + lo * 3, lo, 1), (6, 0 + sl * 1 + 1 * engW en sl bu + 1 + lo * 3 + lo * 1, 6, 1), (7, 0 + sl * 1 + 1 * engW en sl bu + 1 + lo * 3 + lo * 1 + 6, (H.length : Int), 1), (8, p7Of sl en bu lo H, V, 7)] := rfl
/-- Of: the same of both sides. -/
theorem of_same {sl en bu lo V a : Int} {H : List Int} (h1 : 0 ≤ sl) (h2 : 0 ≤ engW en sl bu) (h3 : 0 ≤ lo) (h4 : 0 ≤ V) (hb : ∀ j, j < H.length → 1 ≤ H.getD j 0 ∧ H.getD j 0 ≤ 6) :
    ofL (p7Of sl en bu lo H + V * 7) (adrEnd (p7Of sl en bu lo H + V * 7) H) (gTab 0 (gList sl en bu lo V H)) (adr (p7Of sl en bu lo H + V * 7) H) a = ofR (whatOf sl en bu lo V H) a := by
  have hall : ∀ x ∈ gList sl en bu lo V H, 0 ≤ x.2.1 ∧ 0 ≤ x.2.2 := by
    intro x hx
    simp only [gList, List.mem_cons, List.not_mem_nil, or_false] at hx
    rcases hx with rfl | rfl | rfl | rfl | rfl | rfl | rfl | rfl <;> simp only <;> omega
  have hg : ((gWds (gList sl en bu lo V H)).length : Int) = p7Of sl en bu lo H + V * 7 := by
    have := gWds_length (gList sl en bu lo V H) 0 hall
    rw [Int.zero_add] at this
    rw [this]
    rfl
  have hb1 : ∀ j, j < H.length → 1 ≤ H.getD j 0 := fun j hj => (hb j hj).1
  have hl : ((whatOf sl en bu lo V H).length : Int) = adrEnd (p7Of sl en bu lo H + V * 7) H := by
    rw [whatOf_eq, List.length_append, Int.natCast_add, hg]
    exact twrs_length H 1 _ hb1
  unfold ofL ofR
  rw [hl]
  by_cases c : a < 0 ∨ adrEnd (p7Of sl en bu lo H + V * 7) H ≤ a
  · rw [if_pos c, if_pos c]
  · rw [if_neg c, if_neg c, whatOf_eq, show (gWds (gList sl en bu lo V H) ++ twrs 1 H).getD a.toNat (0, 0, 0) = ((gWds (gList sl en bu lo V H) ++ twrs 1 H)[a.toNat]?).getD (0, 0, 0) from List.getD_eq_getElem?_getD ..]
    by_cases c2 : p7Of sl en bu lo H + V * 7 ≤ a
    · obtain ⟨e, -⟩ := twrs_at H 1 (p7Of sl en bu lo H + V * 7) a hb1 c2 (by omega)
      rw [if_pos c2, List.getElem?_append_right (by omega), show a.toNat - (gWds (gList sl en bu lo V H)).length = (a - (p7Of sl en bu lo H + V * 7)).toNat by omega, e]
      simp
    · have e := gOf_at (gList sl en bu lo V H) 0 a hall (by omega) (by omega)
      rw [Int.sub_zero] at e
      rw [if_neg c2, List.getElem?_append_left (by omega), e]
      rfl
end Go.Proofs.Ytakfjoelpploeaa

set_option linter.unusedVariables false
set_option linter.unusedSimpArgs false
namespace Go.Proofs.Ytakfjoelpploeaa
open Go.Am

@[go_sem] theorem guardQ_undef {b : Bool} : guardQ (some undefV) b = false := rfl
theorem fdiv_half (a : Nat) : Int.fdiv (a : Int) 2 = ((a / 2 : Nat) : Int) := by
  rw [Int.fdiv_eq_ediv_of_nonneg _ (by omega)]; rfl
theorem isNan61 {O : Over} (a : Int) (h : PT ABlk) (n : Nat) : EvB Try.prog O 61 [.int .i64 a] h n fun v h' n' => v = .bool false ∧ h' = h ∧ n' = n := by
  refine EvB_run (N := 6) Try.func61 rfl rfl ?_
  intro z hP hO hro hN hQ
  repeat' first | simp (config := { maxSteps := 2000000 }) (disch := first | omega | (repeat first | assumption | exact Kept.refl _ | refine Kept.set' (by assumption) ?_ ?_ | refine Kept.set (by assumption) ?_ ?_ | omega)) only [go_sem, *, Try.results61, Nat.reduceLT, Nat.reduceAdd, Nat.reduceMul, Nat.reduceSub, Nat.reduceEqDiff, Nat.reduceLeDiff, Int.reduceToNat, Int.reduceLT, Int.reduceLE, Int.reduceEq, Int.reduceNe, Int.reduceAdd, Int.reduceSub, Int.reduceMul, Int.reduceNeg, ↓reduceIte, reduceCtorEq] | (apply EvG_ndec <;> intro _) | (apply EvC_ndec <;> intro _) | (apply EvG_dec <;> intro _) | (apply EvC_dec <;> intro _) | refine EvK_draw (by cbv) (by first | rfl | cbv) ?_ | (apply EvH_ndec <;> intro _) | (apply EvH_dec <;> intro _) | (apply EvC_nbool <;> intro _) | (apply EvC_bool <;> intro _) | (apply EvG_nbool <;> intro _) | (apply EvG_bool <;> intro _) | (apply EvH_nbool <;> intro _) | (apply EvH_bool <;> intro _)
theorem isNan60 {O : Over} (a : Int) (h : PT ABlk) (n : Nat) : EvB Try.prog O 60 [.int .i64 a] h n fun v h' n' => v = .bool false ∧ h' = h ∧ n' = n := by
  refine EvB_run (N := 6) Try.func60 rfl rfl ?_
  intro z hP hO hro hN hQ
  repeat' first | simp (config := { maxSteps := 2000000 }) (disch := first | omega | (repeat first | assumption | exact Kept.refl _ | refine Kept.set' (by assumption) ?_ ?_ | refine Kept.set (by assumption) ?_ ?_ | omega)) only [go_sem, *, Try.results60, Nat.reduceLT, Nat.reduceAdd, Nat.reduceMul, Nat.reduceSub, Nat.reduceEqDiff, Nat.reduceLeDiff, Int.reduceToNat, Int.reduceLT, Int.reduceLE, Int.reduceEq, Int.reduceNe, Int.reduceAdd, Int.reduceSub, Int.reduceMul, Int.reduceNeg, ↓reduceIte, reduceCtorEq] | (apply EvG_ndec <;> intro _) | (apply EvC_ndec <;> intro _) | (apply EvG_dec <;> intro _) | (apply EvC_dec <;> intro _) | refine EvK_draw (by cbv) (by first | rfl | cbv) ?_ | (apply EvH_ndec <;> intro _) | (apply EvH_dec <;> intro _) | (apply EvC_nbool <;> intro _) | (apply EvC_bool <;> intro _) | (apply EvG_nbool <;> intro _) | (apply EvG_bool <;> intro _) | (apply EvH_nbool <;> intro _) | (apply EvH_bool <;> intro _)
theorem less59 {O : Over} (o61 : O 61 = fun _ => none) (a b : Int) (h : PT ABlk) (n : Nat) : EvB Try.prog O 59 [.int .i64 a, .int .i64 b] h n fun v h' n' => v = .bool (decide (a < b)) ∧ h' = h ∧ n' = n := by
  refine EvB_run (N := 17) Try.func59 rfl rfl ?_
  intro z hP hO hro hN hQ
  repeat' first | simp (config := { maxSteps := 2000000 }) (disch := first | omega | (repeat first | assumption | exact Kept.refl _ | refine Kept.set' (by assumption) ?_ ?_ | refine Kept.set (by assumption) ?_ ?_ | omega)) only [go_sem, *, Try.results59, Nat.reduceLT, Nat.reduceAdd, Nat.reduceMul, Nat.reduceSub, Nat.reduceEqDiff, Nat.reduceLeDiff, Int.reduceToNat, Int.reduceLT, Int.reduceLE, Int.reduceEq, Int.reduceNe, Int.reduceAdd, Int.reduceSub, Int.reduceMul, Int.reduceNeg, ↓reduceIte, reduceCtorEq] | (apply EvG_ndec <;> intro _) | (apply EvC_ndec <;> intro _) | (apply EvG_dec <;> intro _) | (apply EvC_dec <;> intro _) | refine EvK_draw (by cbv) (by first | rfl | cbv) ?_ | (apply EvH_ndec <;> intro _) | (apply EvH_dec <;> intro _) | (apply EvC_nbool <;> intro _) | (apply EvC_bool <;> intro _) | (apply EvG_nbool <;> intro _) | (apply EvG_bool <;> intro _) | (apply EvH_nbool <;> intro _) | (apply EvH_bool <;> intro _)
  refine EvQ_call ?_ ?_ (by rw [hP, hO]; exact isNan61 a _ _) ?_
  · simp (config := { maxSteps := 2000000 }) (disch := first | omega | (repeat first | assumption | exact Kept.refl _ | refine Kept.set' (by assumption) ?_ ?_ | refine Kept.set (by assumption) ?_ ?_ | omega)) only [go_sem, *, Nat.reduceLT, Nat.reduceAdd, Nat.reduceMul, Nat.reduceSub, Nat.reduceEqDiff, Nat.reduceLeDiff, Int.reduceToNat, Int.reduceLT, Int.reduceLE, Int.reduceEq, Int.reduceNe, Int.reduceAdd, Int.reduceSub, Int.reduceMul, Int.reduceNeg, ↓reduceIte, reduceCtorEq]
  · simp (config := { maxSteps := 2000000 }) (disch := first | omega | (repeat first | assumption | exact Kept.refl _ | refine Kept.set' (by assumption) ?_ ?_ | refine Kept.set (by assumption) ?_ ?_ | omega)) only [go_sem, *, Nat.reduceLT, Nat.reduceAdd, Nat.reduceMul, Nat.reduceSub, Nat.reduceEqDiff, Nat.reduceLeDiff, Int.reduceToNat, Int.reduceLT, Int.reduceLE, Int.reduceEq, Int.reduceNe, Int.reduceAdd, Int.reduceSub, Int.reduceMul, Int.reduceNeg, ↓reduceIte, reduceCtorEq]
  rintro v h2 n2 ⟨rfl, rfl, rfl⟩
  repeat' first | simp (config := { maxSteps := 2000000 }) (disch := first | omega | (repeat first | assumption | exact Kept.refl _ | refine Kept.set' (by assumption) ?_ ?_ | refine Kept.set (by assumption) ?_ ?_ | omega)) only [go_sem, *, Try.results59, Nat.reduceLT, Nat.reduceAdd, Nat.reduceMul, Nat.reduceSub, Nat.reduceEqDiff, Nat.reduceLeDiff, Int.reduceToNat, Int.reduceLT, Int.reduceLE, Int.reduceEq, Int.reduceNe, Int.reduceAdd, Int.reduceSub, Int.reduceMul, Int.reduceNeg, ↓reduceIte, reduceCtorEq] | (apply EvG_ndec <;> intro _) | (apply EvC_ndec <;> intro _) | (apply EvG_dec <;> intro _) | (apply EvC_dec <;> intro _) | refine EvK_draw (by cbv) (by first | rfl | cbv) ?_ | (apply EvH_ndec <;> intro _) | (apply EvH_dec <;> intro _) | (apply EvC_nbool <;> intro _) | (apply EvC_bool <;> intro _) | (apply EvG_nbool <;> intro _) | (apply EvG_bool <;> intro _) | (apply EvH_nbool <;> intro _) | (apply EvH_bool <;> intro _)

set_option maxRecDepth 100000 in
set_option maxHeartbeats 4000000 in
theorem bsearch {O : Over} (o59 : O 59 = fun _ => none) (o60 : O 60 = fun _ => none) (o61 : O 61 = fun _ => none) (s : Value) (T : List Int) (a : Int) (h : PT ABlk) (N : Nat) (hs : IsInts .i64 h s T) (hsort : ∀ i j, i ≤ j → j < T.length → T.getD i 0 ≤ T.getD j 0) (hn : T.length ≤ 100000) :
    EvB Try.prog O 56 [s, .int .i64 a] h N fun v h' n' => (∃ i : Nat, i ≤ T.length ∧ (∀ j, j < i → T.getD j 0 < a) ∧ (∀ j, i ≤ j → j < T.length → a ≤ T.getD j 0) ∧ v = .tuple ⟨[.int .i64 i, .bool (decide (i < T.length ∧ T.getD i 0 = a))]⟩) ∧ h' = h ∧ n' = N := by
  obtain ⟨ad, cap, rfl, hA⟩ := hs.len
  refine EvB_run (N := 54) Try.func56 rfl rfl fun z hP hO hro hN hQ => ?_
  repeat' first | simp (config := { maxSteps := 2000000 }) (disch := first | omega | (repeat first | assumption | exact Kept.refl _ | refine Kept.set' (by assumption) ?_ ?_ | refine Kept.set (by assumption) ?_ ?_ | omega)) only [go_sem, *, Try.results56, Nat.reduceLT, Nat.reduceAdd, Nat.reduceMul, Nat.reduceSub, Nat.reduceEqDiff, Nat.reduceLeDiff, Int.reduceToNat, Int.reduceLT, Int.reduceLE, Int.reduceEq, Int.reduceNe, Int.reduceAdd, Int.reduceSub, Int.reduceMul, Int.reduceNeg, ↓reduceIte, reduceCtorEq] | (apply EvG_ndec <;> intro _) | (apply EvC_ndec <;> intro _) | (apply EvG_dec <;> intro _) | (apply EvC_dec <;> intro _) | fail | (apply EvH_ndec <;> intro _) | (apply EvH_dec <;> intro _) | (apply EvC_nbool <;> intro _) | (apply EvC_bool <;> intro _) | (apply EvG_nbool <;> intro _) | (apply EvG_bool <;> intro _) | (apply EvH_nbool <;> intro _) | (apply EvH_bool <;> intro _)
  refine ind_loop (fun t m h' n' => ∃ lo hi : Nat, lo ≤ hi ∧ hi ≤ T.length ∧ t = hi - lo ∧ m.n = 54 ∧ m.dfs = [] ∧ m.get 0 = .slice ad T.length cap ∧ m.get 1 = .int .i64 a ∧ m.get 4 = .int .i64 0 ∧ m.get 5 = .bool false ∧ m.get 6 = .int .i64 T.length ∧ m.get 7 = .int .i64 lo ∧ m.get 8 = .int .i64 hi ∧ h' = h ∧ n' = N ∧ (∀ j, j < lo → T.getD j 0 < a) ∧ ∀ j, hi ≤ j → j < T.length → a ≤ T.getD j 0) T.length ?_ ?_
  · refine ⟨0, T.length, by omega, by omega, by omega, ?_⟩
    simp (config := { maxSteps := 2000000 }) (disch := first | omega | (repeat first | assumption | exact Kept.refl _ | refine Kept.set' (by assumption) ?_ ?_ | refine Kept.set (by assumption) ?_ ?_ | omega)) only [go_sem, *, Nat.reduceLT, Nat.reduceAdd, Nat.reduceMul, Nat.reduceSub, Nat.reduceEqDiff, Nat.reduceLeDiff, Int.reduceToNat, Int.reduceLT, Int.reduceLE, Int.reduceEq, Int.reduceNe, Int.reduceAdd, Int.reduceSub, Int.reduceMul, Int.reduceNeg, ↓reduceIte, reduceCtorEq]
    exact ⟨fun j hj => by omega, fun j h1 h2 => by omega⟩
  · rintro t m h' n' ih ⟨lo, hi, hlh, hhi, rfl, m1, m2, m3, m4, m5, m6, m7, m8, m9, rfl, rfl, q1, q2⟩
    by_cases hlt : lo < hi
    · have e7 : (lo : Int) < hi := by omega
      have hmid : lo ≤ (lo + hi) / 2 ∧ (lo + hi) / 2 < hi := by omega
      generalize hmm : (lo + hi) / 2 = mid at hmid
      obtain ⟨bk, off, sp, L, ro, rfl, hbk, hL⟩ := hA mid (by omega)
      have hw : IntKind.u64.wrap ((lo : Int) + hi) = ((lo + hi : Nat) : Int) := by
        have := wrap_u64 (x := (lo : Int) + hi) (by omega) (by omega)
        omega
      have hfd : ((lo + hi : Nat) : Int).fdiv (2 ^ min 1 64) = ((mid : Nat) : Int) := by
        rw [← hmm]; exact fdiv_half (lo + hi)
      have hmT : mid < T.length := by omega
      clear hA
      by_cases hc : T.getD mid 0 < a
      · repeat' first | simp (config := { maxSteps := 2000000 }) (disch := first | omega | (repeat first | assumption | exact Kept.refl _ | refine Kept.set' (by assumption) ?_ ?_ | refine Kept.set (by assumption) ?_ ?_ | omega)) only [go_sem, *, Try.results56, Nat.reduceLT, Nat.reduceAdd, Nat.reduceMul, Nat.reduceSub, Nat.reduceEqDiff, Nat.reduceLeDiff, Int.reduceToNat, Int.reduceLT, Int.reduceLE, Int.reduceEq, Int.reduceNe, Int.reduceAdd, Int.reduceSub, Int.reduceMul, Int.reduceNeg, ↓reduceIte, reduceCtorEq] | (apply EvG_ndec <;> intro _) | (apply EvC_ndec <;> intro _) | (apply EvG_dec <;> intro _) | (apply EvC_dec <;> intro _) | fail | (apply EvH_ndec <;> intro _) | (apply EvH_dec <;> intro _) | (apply EvC_nbool <;> intro _) | (apply EvC_bool <;> intro _) | (apply EvG_nbool <;> intro _) | (apply EvG_bool <;> intro _) | (apply EvH_nbool <;> intro _) | (apply EvH_bool <;> intro _)
        refine EvQ_call ?_ ?_ (by rw [hP, hO]; exact less59 o61 _ a _ _) ?_
        · simp (config := { maxSteps := 2000000 }) (disch := first | omega | (repeat first | assumption | exact Kept.refl _ | refine Kept.set' (by assumption) ?_ ?_ | refine Kept.set (by assumption) ?_ ?_ | omega)) only [go_sem, *, Nat.reduceLT, Nat.reduceAdd, Nat.reduceMul, Nat.reduceSub, Nat.reduceEqDiff, Nat.reduceLeDiff, Int.reduceToNat, Int.reduceLT, Int.reduceLE, Int.reduceEq, Int.reduceNe, Int.reduceAdd, Int.reduceSub, Int.reduceMul, Int.reduceNeg, ↓reduceIte, reduceCtorEq]
        · simp (config := { maxSteps := 2000000 }) (disch := first | omega | (repeat first | assumption | exact Kept.refl _ | refine Kept.set' (by assumption) ?_ ?_ | refine Kept.set (by assumption) ?_ ?_ | omega)) only [go_sem, *, Nat.reduceLT, Nat.reduceAdd, Nat.reduceMul, Nat.reduceSub, Nat.reduceEqDiff, Nat.reduceLeDiff, Int.reduceToNat, Int.reduceLT, Int.reduceLE, Int.reduceEq, Int.reduceNe, Int.reduceAdd, Int.reduceSub, Int.reduceMul, Int.reduceNeg, ↓reduceIte, reduceCtorEq]
        rintro v h2 n2 ⟨rfl, rfl, rfl⟩
        repeat' first | simp (config := { maxSteps := 2000000 }) (disch := first | omega | (repeat first | assumption | exact Kept.refl _ | refine Kept.set' (by assumption) ?_ ?_ | refine Kept.set (by assumption) ?_ ?_ | omega)) only [go_sem, *, Try.results56, Nat.reduceLT, Nat.reduceAdd, Nat.reduceMul, Nat.reduceSub, Nat.reduceEqDiff, Nat.reduceLeDiff, Int.reduceToNat, Int.reduceLT, Int.reduceLE, Int.reduceEq, Int.reduceNe, Int.reduceAdd, Int.reduceSub, Int.reduceMul, Int.reduceNeg, ↓reduceIte, reduceCtorEq] | (apply EvG_ndec <;> intro _) | (apply EvC_ndec <;> intro _) | (apply EvG_dec <;> intro _) | (apply EvC_dec <;> intro _) | fail | (apply EvH_ndec <;> intro _) | (apply EvH_dec <;> intro _) | (apply EvC_nbool <;> intro _) | (apply EvC_bool <;> intro _) | (apply EvG_nbool <;> intro _) | (apply EvG_bool <;> intro _) | (apply EvH_nbool <;> intro _) | (apply EvH_bool <;> intro _)
        refine ih (hi - (mid + 1)) _ _ _ (by omega) ⟨mid + 1, hi, by omega, hhi, rfl, ?_⟩
        have hci : ((mid + 1 : Nat) : Int) = (mid : Int) + 1 := by omega
        rw [hci]
        simp (config := { maxSteps := 2000000 }) (disch := first | omega | (repeat first | assumption | exact Kept.refl _ | refine Kept.set' (by assumption) ?_ ?_ | refine Kept.set (by assumption) ?_ ?_ | omega)) only [go_sem, *, Nat.reduceLT, Nat.reduceAdd, Nat.reduceMul, Nat.reduceSub, Nat.reduceEqDiff, Nat.reduceLeDiff, Int.reduceToNat, Int.reduceLT, Int.reduceLE, Int.reduceEq, Int.reduceNe, Int.reduceAdd, Int.reduceSub, Int.reduceMul, Int.reduceNeg, ↓reduceIte, reduceCtorEq]
        exact ⟨fun j hj => Int.lt_of_le_of_lt (hsort j mid (by omega) hmT) hc, q2⟩
      · repeat' first | simp (config := { maxSteps := 2000000 }) (disch := first | omega | (repeat first | assumption | exact Kept.refl _ | refine Kept.set' (by assumption) ?_ ?_ | refine Kept.set (by assumption) ?_ ?_ | omega)) only [go_sem, *, Try.results56, Nat.reduceLT, Nat.reduceAdd, Nat.reduceMul, Nat.reduceSub, Nat.reduceEqDiff, Nat.reduceLeDiff, Int.reduceToNat, Int.reduceLT, Int.reduceLE, Int.reduceEq, Int.reduceNe, Int.reduceAdd, Int.reduceSub, Int.reduceMul, Int.reduceNeg, ↓reduceIte, reduceCtorEq] | (apply EvG_ndec <;> intro _) | (apply EvC_ndec <;> intro _) | (apply EvG_dec <;> intro _) | (apply EvC_dec <;> intro _) | fail | (apply EvH_ndec <;> intro _) | (apply EvH_dec <;> intro _) | (apply EvC_nbool <;> intro _) | (apply EvC_bool <;> intro _) | (apply EvG_nbool <;> intro _) | (apply EvG_bool <;> intro _) | (apply EvH_nbool <;> intro _) | (apply EvH_bool <;> intro _)
        refine EvQ_call ?_ ?_ (by rw [hP, hO]; exact less59 o61 _ a _ _) ?_
        · simp (config := { maxSteps := 2000000 }) (disch := first | omega | (repeat first | assumption | exact Kept.refl _ | refine Kept.set' (by assumption) ?_ ?_ | refine Kept.set (by assumption) ?_ ?_ | omega)) only [go_sem, *, Nat.reduceLT, Nat.reduceAdd, Nat.reduceMul, Nat.reduceSub, Nat.reduceEqDiff, Nat.reduceLeDiff, Int.reduceToNat, Int.reduceLT, Int.reduceLE, Int.reduceEq, Int.reduceNe, Int.reduceAdd, Int.reduceSub, Int.reduceMul, Int.reduceNeg, ↓reduceIte, reduceCtorEq]
        · simp (config := { maxSteps := 2000000 }) (disch := first | omega | (repeat first | assumption | exact Kept.refl _ | refine Kept.set' (by assumption) ?_ ?_ | refine Kept.set (by assumption) ?_ ?_ | omega)) only [go_sem, *, Nat.reduceLT, Nat.reduceAdd, Nat.reduceMul, Nat.reduceSub, Nat.reduceEqDiff, Nat.reduceLeDiff, Int.reduceToNat, Int.reduceLT, Int.reduceLE, Int.reduceEq, Int.reduceNe, Int.reduceAdd, Int.reduceSub, Int.reduceMul, Int.reduceNeg, ↓reduceIte, reduceCtorEq]
        rintro v h2 n2 ⟨rfl, rfl, rfl⟩
        repeat' first | simp (config := { maxSteps := 2000000 }) (disch := first | omega | (repeat first | assumption | exact Kept.refl _ | refine Kept.set' (by assumption) ?_ ?_ | refine Kept.set (by assumption) ?_ ?_ | omega)) only [go_sem, *, Try.results56, Nat.reduceLT, Nat.reduceAdd, Nat.reduceMul, Nat.reduceSub, Nat.reduceEqDiff, Nat.reduceLeDiff, Int.reduceToNat, Int.reduceLT, Int.reduceLE, Int.reduceEq, Int.reduceNe, Int.reduceAdd, Int.reduceSub, Int.reduceMul, Int.reduceNeg, ↓reduceIte, reduceCtorEq] | (apply EvG_ndec <;> intro _) | (apply EvC_ndec <;> intro _) | (apply EvG_dec <;> intro _) | (apply EvC_dec <;> intro _) | fail | (apply EvH_ndec <;> intro _) | (apply EvH_dec <;> intro _) | (apply EvC_nbool <;> intro _) | (apply EvC_bool <;> intro _) | (apply EvG_nbool <;> intro _) | (apply EvG_bool <;> intro _) | (apply EvH_nbool <;> intro _) | (apply EvH_bool <;> intro _)
        refine ih (mid - lo) _ _ _ (by omega) ⟨lo, mid, by omega, by omega, rfl, ?_⟩
        simp (config := { maxSteps := 2000000 }) (disch := first | omega | (repeat first | assumption | exact Kept.refl _ | refine Kept.set' (by assumption) ?_ ?_ | refine Kept.set (by assumption) ?_ ?_ | omega)) only [go_sem, *, Nat.reduceLT, Nat.reduceAdd, Nat.reduceMul, Nat.reduceSub, Nat.reduceEqDiff, Nat.reduceLeDiff, Int.reduceToNat, Int.reduceLT, Int.reduceLE, Int.reduceEq, Int.reduceNe, Int.reduceAdd, Int.reduceSub, Int.reduceMul, Int.reduceNeg, ↓reduceIte, reduceCtorEq]
        exact ⟨q1, fun j h1 h2 => Int.le_trans (Int.not_lt.1 hc) (hsort mid j h1 h2)⟩
    · have e7 : ¬ (lo : Int) < hi := by omega
      by_cases hl : lo < T.length
      · have e8 : (lo : Int) < T.length := by omega
        obtain ⟨bk, off, sp, L, ro, rfl, hbk, hL⟩ := hA lo hl
        by_cases he : T.getD lo 0 = a
        · clear hA ih
          repeat' first | simp (config := { maxSteps := 2000000 }) (disch := first | omega | (repeat first | assumption | exact Kept.refl _ | refine Kept.set' (by assumption) ?_ ?_ | refine Kept.set (by assumption) ?_ ?_ | omega)) only [go_sem, *, Try.results56, Nat.reduceLT, Nat.reduceAdd, Nat.reduceMul, Nat.reduceSub, Nat.reduceEqDiff, Nat.reduceLeDiff, Int.reduceToNat, Int.reduceLT, Int.reduceLE, Int.reduceEq, Int.reduceNe, Int.reduceAdd, Int.reduceSub, Int.reduceMul, Int.reduceNeg, ↓reduceIte, reduceCtorEq] | (apply EvG_ndec <;> intro _) | (apply EvC_ndec <;> intro _) | (apply EvG_dec <;> intro _) | (apply EvC_dec <;> intro _) | fail | (apply EvH_ndec <;> intro _) | (apply EvH_dec <;> intro _) | (apply EvC_nbool <;> intro _) | (apply EvC_bool <;> intro _) | (apply EvG_nbool <;> intro _) | (apply EvG_bool <;> intro _) | (apply EvH_nbool <;> intro _) | (apply EvH_bool <;> intro _)
          exact ⟨lo, by omega, q1, fun j h1 h2 => q2 j (by omega) h2, by rw [decide_eq_true ⟨hl, he⟩]⟩
        · clear hA ih
          repeat' first | simp (config := { maxSteps := 2000000 }) (disch := first | omega | (repeat first | assumption | exact Kept.refl _ | refine Kept.set' (by assumption) ?_ ?_ | refine Kept.set (by assumption) ?_ ?_ | omega)) only [go_sem, *, Try.results56, Nat.reduceLT, Nat.reduceAdd, Nat.reduceMul, Nat.reduceSub, Nat.reduceEqDiff, Nat.reduceLeDiff, Int.reduceToNat, Int.reduceLT, Int.reduceLE, Int.reduceEq, Int.reduceNe, Int.reduceAdd, Int.reduceSub, Int.reduceMul, Int.reduceNeg, ↓reduceIte, reduceCtorEq] | (apply EvG_ndec <;> intro _) | (apply EvC_ndec <;> intro _) | (apply EvG_dec <;> intro _) | (apply EvC_dec <;> intro _) | fail | (apply EvH_ndec <;> intro _) | (apply EvH_dec <;> intro _) | (apply EvC_nbool <;> intro _) | (apply EvC_bool <;> intro _) | (apply EvG_nbool <;> intro _) | (apply EvG_bool <;> intro _) | (apply EvH_nbool <;> intro _) | (apply EvH_bool <;> intro _)
          refine EvQ_call ?_ ?_ (by rw [hP, hO]; exact isNan60 _ _ _) ?_
          · simp (config := { maxSteps := 2000000 }) (disch := first | omega | (repeat first | assumption | exact Kept.refl _ | refine Kept.set' (by assumption) ?_ ?_ | refine Kept.set (by assumption) ?_ ?_ | omega)) only [go_sem, *, Nat.reduceLT, Nat.reduceAdd, Nat.reduceMul, Nat.reduceSub, Nat.reduceEqDiff, Nat.reduceLeDiff, Int.reduceToNat, Int.reduceLT, Int.reduceLE, Int.reduceEq, Int.reduceNe, Int.reduceAdd, Int.reduceSub, Int.reduceMul, Int.reduceNeg, ↓reduceIte, reduceCtorEq]
          · simp (config := { maxSteps := 2000000 }) (disch := first | omega | (repeat first | assumption | exact Kept.refl _ | refine Kept.set' (by assumption) ?_ ?_ | refine Kept.set (by assumption) ?_ ?_ | omega)) only [go_sem, *, Nat.reduceLT, Nat.reduceAdd, Nat.reduceMul, Nat.reduceSub, Nat.reduceEqDiff, Nat.reduceLeDiff, Int.reduceToNat, Int.reduceLT, Int.reduceLE, Int.reduceEq, Int.reduceNe, Int.reduceAdd, Int.reduceSub, Int.reduceMul, Int.reduceNeg, ↓reduceIte, reduceCtorEq]
          rintro v h2 n2 ⟨rfl, rfl, rfl⟩
          repeat' first | simp (config := { maxSteps := 2000000 }) (disch := first | omega | (repeat first | assumption | exact Kept.refl _ | refine Kept.set' (by assumption) ?_ ?_ | refine Kept.set (by assumption) ?_ ?_ | omega)) only [go_sem, *, Try.results56, Nat.reduceLT, Nat.reduceAdd, Nat.reduceMul, Nat.reduceSub, Nat.reduceEqDiff, Nat.reduceLeDiff, Int.reduceToNat, Int.reduceLT, Int.reduceLE, Int.reduceEq, Int.reduceNe, Int.reduceAdd, Int.reduceSub, Int.reduceMul, Int.reduceNeg, ↓reduceIte, reduceCtorEq] | (apply EvG_ndec <;> intro _) | (apply EvC_ndec <;> intro _) | (apply EvG_dec <;> intro _) | (apply EvC_dec <;> intro _) | fail | (apply EvH_ndec <;> intro _) | (apply EvH_dec <;> intro _) | (apply EvC_nbool <;> intro _) | (apply EvC_bool <;> intro _) | (apply EvG_nbool <;> intro _) | (apply EvG_bool <;> intro _) | (apply EvH_nbool <;> intro _) | (apply EvH_bool <;> intro _)
          exact ⟨lo, by omega, q1, fun j h1 h2 => q2 j (by omega) h2, by rw [decide_eq_false fun q => he q.2]⟩
      · have e8 : ¬ (lo : Int) < T.length := by omega
        clear hA ih
        repeat' first | simp (config := { maxSteps := 2000000 }) (disch := first | omega | (repeat first | assumption | exact Kept.refl _ | refine Kept.set' (by assumption) ?_ ?_ | refine Kept.set (by assumption) ?_ ?_ | omega)) only [go_sem, *, Try.results56, Nat.reduceLT, Nat.reduceAdd, Nat.reduceMul, Nat.reduceSub, Nat.reduceEqDiff, Nat.reduceLeDiff, Int.reduceToNat, Int.reduceLT, Int.reduceLE, Int.reduceEq, Int.reduceNe, Int.reduceAdd, Int.reduceSub, Int.reduceMul, Int.reduceNeg, ↓reduceIte, reduceCtorEq] | (apply EvG_ndec <;> intro _) | (apply EvC_ndec <;> intro _) | (apply EvG_dec <;> intro _) | (apply EvC_dec <;> intro _) | fail | (apply EvH_ndec <;> intro _) | (apply EvH_dec <;> intro _) | (apply EvC_nbool <;> intro _) | (apply EvC_bool <;> intro _) | (apply EvG_nbool <;> intro _) | (apply EvG_bool <;> intro _) | (apply EvH_nbool <;> intro _) | (apply EvH_bool <;> intro _)
        exact ⟨lo, by omega, q1, fun j h1 h2 => q2 j (by omega) h2, by simp [hl]⟩
end Go.Proofs.Ytakfjoelpploeaa

set_option linter.unusedVariables false
set_option linter.unusedSimpArgs false
namespace Go.Proofs.Ytakfjoelpploeaa
open Go.Am

/-- The reference's list of places, as it is read. -/
def decPlcs : List Value → Option (List (Int × Int × Int))
  | [] => some []
  | .int .u8 a :: .int .i64 b :: .int .i64 c :: r => (decPlcs r).map ((a, b, c) :: ·)
  | _ => none
theorem decPlcs_plcs : ∀ W : List (Int × Int × Int), decPlcs (plcs W) = some W
  | [] => rfl
  | (a, b, c) :: W => by
    have := decPlcs_plcs W
    simp only [plcs, List.flatMap_cons, plc, List.cons_append, List.nil_append, decPlcs] at this ⊢
    rw [this]; rfl
theorem decPlcs_eq (L : List Value) : ∀ (W : List (Int × Int × Int)), decPlcs L = some W → L = plcs W := by
  induction L using decPlcs.induct with
  | case1 => intro W h; simp only [decPlcs, Option.some.injEq] at h; subst h; rfl
  | case2 a b c r ih =>
    intro W h
    simp only [decPlcs, Option.map_eq_some_iff] at h
    obtain ⟨V, hV, rfl⟩ := h
    rw [ih V hV]; rfl
  | case3 L h1 h2 =>
    intro W h
    rw [decPlcs] at h
    · simp at h
    · exact h1
    · exact h2

noncomputable def rdW : Value → AP (List (Int × Int × Int))
  | .pointer (some ⟨lb, 0, none⟩) => AP.row lb fun (S : List Value) _ => match (S[27]? : Option Value) with
    | some (.slice (some ⟨wb, 0, none⟩) n _) => AP.row wb fun (L : List Value) _ => match decPlcs L with
      | some W => cond (Nat.beq n W.length && Nat.ble n 100000 && Nat.beq S.length 28) (.pure W) (.fail "")
      | none => .fail ""
    | _ => .fail ""
  | _ => .fail ""
theorem rdW_reads (v : Value) : Reads (rdW v) := by
  unfold rdW
  split
  · refine row_reads fun S ro => ?_
    split
    · refine row_reads fun L ro => ?_
      split
      · exact .cond (.pure _) (.fail _)
      · exact .fail _
    · exact .fail _
  · exact .fail _
theorem rdW_look {v : Value} {h : PT ABlk} {W : List (Int × Int × Int)} (e : (rdW v).look h = some W) : ∃ lb ro S wb c ro', v = .pointer (some ⟨lb, 0, none⟩) ∧ h.get lb = some (.cells (PT.ofList .leaf 0 S) ro) ∧ S[27]? = some (.slice (some ⟨wb, 0, none⟩) W.length c) ∧
    h.get wb = some (.cells (PT.ofList .leaf 0 (plcs W)) ro') ∧ W.length ≤ 100000 ∧ S.length = 28 := by
  unfold rdW at e
  split at e
  · rename_i lb
    obtain ⟨S, ro, hb, e⟩ := look_row e
    split at e
    · rename_i wb n c h27
      obtain ⟨L, ro', hw, e⟩ := look_row e
      split at e
      · rename_i W' hL
        obtain ⟨hc, e⟩ := look_cond e
        rw [look_pure] at e
        obtain rfl := Option.some.inj e
        simp only [Bool.and_eq_true] at hc
        have h1 := Nat.eq_of_beq_eq_true hc.1.1
        subst h1
        rw [decPlcs_eq _ _ hL] at hw
        exact ⟨lb, ro, S, wb, c, ro', rfl, hb, h27, hw, Nat.le_of_ble_eq_true hc.1.2, Nat.eq_of_beq_eq_true hc.2⟩
      · simp [AP.look] at e
    · simp [AP.look] at e
  · simp [AP.look] at e
theorem rdW_mk {h : PT ABlk} {lb wb c : Nat} {S : List Value} {ro ro' : Bool} {W : List (Int × Int × Int)} (hb : h.get lb = some (.cells (PT.ofList .leaf 0 S) ro)) (h27 : S[27]? = some (.slice (some ⟨wb, 0, none⟩) W.length c)) (hw : h.get wb = some (.cells (PT.ofList .leaf 0 (plcs W)) ro')) (h1 : W.length ≤ 100000) (h2 : S.length = 28) :
    (rdW (.pointer (some ⟨lb, 0, none⟩))).look h = some W := by
  unfold rdW
  simp only [AP.row, look_get, hb, rowB_row, h27, hw, decPlcs_plcs]
  simp only [Nat.ble_eq_true_of_le h1, h2, show ∀ n, Nat.beq n n = true from Nat.beq_refl, Bool.and_self, cond_true, look_pure]

noncomputable def refOfS : List Value → Option (AP Value)
  | [.pointer (some p), .int .i64 a] => some ((rdW (.pointer (some p))).bind fun W => .pure (.agg ⟨plc (ofR W a)⟩))
  | _ => none
set_option maxRecDepth 100000 in
set_option maxHeartbeats 4000000 in
theorem refOfF : SoundF Try.prog 34 refOfS := by
  refine soundF_look (tab_sound .nil) orders ?_ ?_ ?_
  · intro args m hm
    unfold refOfS at hm
    split at hm
    · obtain rfl := Option.some.inj hm; exact (rdW_reads _).bind fun l => .pure _
    · simp at hm
  · intro args m h v hm e
    unfold refOfS at hm
    split at hm
    · obtain rfl := Option.some.inj hm
      obtain ⟨l, hl, e⟩ := look_bind_some e
      rw [look_pure] at e; obtain rfl := Option.some.inj e
      exact .agg _ (by simp [plc]; exact ⟨.int _ _, .int _ _, .int _ _⟩)
    · simp at hm
  · intro args m h N v hm hR hlt e
    unfold refOfS at hm
    split at hm
    · rename_i p a
      obtain rfl := Option.some.inj hm
      obtain ⟨W, hl, e⟩ := look_bind_some e
      rw [look_pure] at e; obtain rfl := Option.some.inj e
      have hW := WfH.of_lt hlt
      obtain ⟨lb, ro, S, wb, c, ro', hp, hb, h27, hw, hWl, hSl⟩ := rdW_look hl
      cases hp
      have hbN := hlt _ _ hb
      have hwN := hlt _ _ hw
      clear hm hl
      unfold ofR
      by_cases g1 : a < 0
      · rw [if_pos (.inl g1)]
        refine EvB_run (N := 28) Try.func34 rfl rfl fun z hP hO hro hN hQ => ?_
        repeat' first | simp (config := { maxSteps := 2000000 }) (disch := first | omega | (repeat first | assumption | exact Kept.refl _ | refine Kept.set' (by assumption) ?_ ?_ | refine Kept.set (by assumption) ?_ ?_ | omega)) only [go_sem, *, Try.results34, plc, Nat.reduceLT, Nat.reduceAdd, Nat.reduceMul, Nat.reduceSub, Nat.reduceEqDiff, Nat.reduceLeDiff, Int.reduceToNat, Int.reduceLT, Int.reduceLE, Int.reduceEq, Int.reduceNe, Int.reduceAdd, Int.reduceSub, Int.reduceMul, Int.reduceNeg, ↓reduceIte, reduceCtorEq] | (apply EvG_ndec <;> intro _) | (apply EvC_ndec <;> intro _) | (apply EvG_dec <;> intro _) | (apply EvC_dec <;> intro _) | fail | (apply EvH_ndec <;> intro _) | (apply EvH_dec <;> intro _) | (apply EvC_nbool <;> intro _) | (apply EvC_bool <;> intro _) | (apply EvG_nbool <;> intro _) | (apply EvG_bool <;> intro _) | (apply EvH_nbool <;> intro _) | (apply EvH_bool <;> intro _)
        all_goals exact fun i hi => by simp (disch := omega) only [heap_ne]
      · by_cases g2 : (W.length : Int) ≤ a
        · rw [if_pos (.inr g2)]
          refine EvB_run (N := 28) Try.func34 rfl rfl fun z hP hO hro hN hQ => ?_
          repeat' first | simp (config := { maxSteps := 2000000 }) (disch := first | omega | (repeat first | assumption | exact Kept.refl _ | refine Kept.set' (by assumption) ?_ ?_ | refine Kept.set (by assumption) ?_ ?_ | omega)) only [go_sem, *, Try.results34, plc, Nat.reduceLT, Nat.reduceAdd, Nat.reduceMul, Nat.reduceSub, Nat.reduceEqDiff, Nat.reduceLeDiff, Int.reduceToNat, Int.reduceLT, Int.reduceLE, Int.reduceEq, Int.reduceNe, Int.reduceAdd, Int.reduceSub, Int.reduceMul, Int.reduceNeg, ↓reduceIte, reduceCtorEq] | (apply EvG_ndec <;> intro _) | (apply EvC_ndec <;> intro _) | (apply EvG_dec <;> intro _) | (apply EvC_dec <;> intro _) | fail | (apply EvH_ndec <;> intro _) | (apply EvH_dec <;> intro _) | (apply EvC_nbool <;> intro _) | (apply EvC_bool <;> intro _) | (apply EvG_nbool <;> intro _) | (apply EvG_bool <;> intro _) | (apply EvH_nbool <;> intro _) | (apply EvH_bool <;> intro _)
          all_goals exact fun i hi => by simp (disch := omega) only [heap_ne]
        · rw [if_neg (by omega)]
          obtain ⟨i, rfl⟩ : ∃ i : Nat, a = i := ⟨a.toNat, by omega⟩
          have hlt2 : i < W.length := by omega
          obtain ⟨⟨k', x', y'⟩, hwi⟩ : ∃ w, W[i] = w := ⟨_, rfl⟩
          have hrow : ((plcs W).drop (i * 3)).take 3 = [.int .u8 k', .int .i64 x', .int .i64 y'] := by
            rw [plcs_drop, List.drop_eq_getElem_cons hlt2, hwi]; simp [plcs, plc]
          have hpl : (plcs W).length = W.length * 3 := plcs_length W
          have hgd : W.getD i (0, 0, 0) = (k', x', y') := by rw [List.getD_eq_getElem?_getD, List.getElem?_eq_getElem hlt2, hwi]; rfl
          rw [Int.toNat_natCast, hgd]
          refine EvB_run (N := 28) Try.func34 rfl rfl fun z hP hO hro hN hQ => ?_
          repeat' first | simp (config := { maxSteps := 2000000 }) (disch := first | omega | (repeat first | assumption | exact Kept.refl _ | refine Kept.set' (by assumption) ?_ ?_ | refine Kept.set (by assumption) ?_ ?_ | omega)) only [go_sem, *, Try.results34, plc, Nat.reduceLT, Nat.reduceAdd, Nat.reduceMul, Nat.reduceSub, Nat.reduceEqDiff, Nat.reduceLeDiff, Int.reduceToNat, Int.reduceLT, Int.reduceLE, Int.reduceEq, Int.reduceNe, Int.reduceAdd, Int.reduceSub, Int.reduceMul, Int.reduceNeg, ↓reduceIte, reduceCtorEq] | (apply EvG_ndec <;> intro _) | (apply EvC_ndec <;> intro _) | (apply EvG_dec <;> intro _) | (apply EvC_dec <;> intro _) | fail | (apply EvH_ndec <;> intro _) | (apply EvH_dec <;> intro _) | (apply EvC_nbool <;> intro _) | (apply EvC_bool <;> intro _) | (apply EvG_nbool <;> intro _) | (apply EvG_bool <;> intro _) | (apply EvH_nbool <;> intro _) | (apply EvH_bool <;> intro _)
          all_goals exact fun i hi => by simp (disch := omega) only [heap_ne]
    · simp at hm
end Go.Proofs.Ytakfjoelpploeaa

set_option linter.unusedVariables false
set_option linter.unusedSimpArgs false
namespace Go.Proofs.Ytakfjoelpploeaa
open Go.Am

/-- The groups, as they are read. -/
def grpC (g : Int × Int × Int × Int) : List Value := [.int .u8 g.1, .int .i64 g.2.1, .int .i64 g.2.2.1, .int .i64 g.2.2.2]
def grpCs (G : List (Int × Int × Int × Int)) : List Value := G.flatMap grpC
def decGrp : List Value → Option (List (Int × Int × Int × Int))
  | [] => some []
  | .int .u8 a :: .int .i64 b :: .int .i64 c :: .int .i64 d :: r => (decGrp r).map ((a, b, c, d) :: ·)
  | _ => none
theorem decGrp_cs : ∀ W : List (Int × Int × Int × Int), decGrp (grpCs W) = some W
  | [] => rfl
  | (a, b, c, d) :: W => by
    have := decGrp_cs W
    simp only [grpCs, List.flatMap_cons, grpC, List.cons_append, List.nil_append, decGrp] at this ⊢
    rw [this]; rfl
theorem decGrp_eq (L : List Value) : ∀ (W : List (Int × Int × Int × Int)), decGrp L = some W → L = grpCs W := by
  induction L using decGrp.induct with
  | case1 => intro W h; simp only [decGrp, Option.some.injEq] at h; subst h; rfl
  | case2 a b c d r ih =>
    intro W h
    simp only [decGrp, Option.map_eq_some_iff] at h
    obtain ⟨V, hV, rfl⟩ := h
    rw [ih V hV]; rfl
  | case3 L h1 h2 =>
    intro W h
    rw [decGrp] at h
    · simp at h
    · exact h1
    · exact h2
theorem grpCs_length : ∀ W : List (Int × Int × Int × Int), (grpCs W).length = W.length * 4
  | [] => rfl
  | x :: W => by
    have := grpCs_length W
    unfold grpCs at *
    rw [List.flatMap_cons, List.length_append, this]
    simp only [grpC, List.length_cons, List.length_nil]; omega
theorem grpCs_drop : ∀ (W : List (Int × Int × Int × Int)) (i : Nat), (grpCs W).drop (i * 4) = grpCs (W.drop i)
  | W, 0 => by simp
  | [], i + 1 => by simp [grpCs]
  | y :: ys, i + 1 => by
    have : (i + 1) * 4 = i * 4 + 4 := by omega
    rw [this]
    simp only [List.drop_succ_cons]
    rw [← grpCs_drop ys i]
    simp [grpCs, grpC]

structure OfV where
  p8 : Int
  p9 : Int
  G : List (Int × Int × Int × Int)
  T : List Int
structure OfOk (o : OfV) : Prop where
  p8 : 0 ≤ o.p8 ∧ o.p8 ≤ 1000000
  p9 : 0 ≤ o.p9 ∧ o.p9 ≤ 1000000
  G : ∀ g ∈ o.G, (0 ≤ g.1 ∧ g.1 < 256) ∧ (0 ≤ g.2.1 ∧ g.2.1 ≤ 1000000) ∧ (0 ≤ g.2.2.1 ∧ g.2.2.1 ≤ 1000000) ∧ 0 ≤ g.2.2.2 ∧ g.2.2.2 ≤ 1000000
  lenG : o.G.length ≤ 100
  lenT : o.T.length ≤ 100000
  T : ∀ i, i < o.T.length → 0 ≤ o.T.getD i 0 ∧ o.T.getD i 0 ≤ 1000000
  sort : ∀ i j, i ≤ j → j < o.T.length → o.T.getD i 0 ≤ o.T.getD j 0
  strict : ∀ i j, i < j → j < o.T.length → o.T.getD i 0 < o.T.getD j 0
  first : o.p8 < o.p9 → 0 < o.T.length ∧ o.T.getD 0 0 ≤ o.p8
noncomputable def rdO : Value → AP OfV
  | .pointer (some ⟨lb, 0, none⟩) => AP.row lb fun (S : List Value) _ => match (S[24]? : Option Value), (S[25]? : Option Value), (S[26]? : Option Value), (S[28]? : Option Value) with
    | some (.int .i64 p8), some (.int .i64 p9), some (.slice (some ⟨gb, 0, none⟩) n _), some tv => AP.row gb fun (L : List Value) _ => match decGrp L with
      | some G => (rdInts .i64 tv).bind fun T => cond (@decide (OfOk ⟨p8, p9, G, T⟩) (Classical.propDecidable _) && Nat.beq n G.length && Nat.beq S.length 30) (.pure ⟨p8, p9, G, T⟩) (.fail "")
      | none => .fail ""
    | _, _, _, _ => .fail ""
  | _ => .fail ""
theorem rdO_reads (v : Value) : Reads (rdO v) := by
  unfold rdO
  split
  · refine row_reads fun S ro => ?_
    split
    · refine row_reads fun L ro => ?_
      split
      · exact rdInts_reads.bind fun T => .cond (.pure _) (.fail _)
      · exact .fail _
    · exact .fail _
  · exact .fail _
theorem rdO_look {v : Value} {h : PT ABlk} {o : OfV} (hR : Am.Rows h) (e : (rdO v).look h = some o) : ∃ lb ro S gb c ro' tv, v = .pointer (some ⟨lb, 0, none⟩) ∧ h.get lb = some (.cells (PT.ofList .leaf 0 S) ro) ∧ S[24]? = some (.int .i64 o.p8) ∧ S[25]? = some (.int .i64 o.p9) ∧ S[26]? = some (.slice (some ⟨gb, 0, none⟩) o.G.length c) ∧ S[28]? = some tv ∧
    h.get gb = some (.cells (PT.ofList .leaf 0 (grpCs o.G)) ro') ∧ IsInts .i64 h tv o.T ∧ OfOk o ∧ S.length = 30 := by
  unfold rdO at e
  split at e
  · rename_i lb
    obtain ⟨S, ro, hb, e⟩ := look_row e
    split at e
    · rename_i p8 p9 gb n c tv h24 h25 h26 h28
      obtain ⟨L, ro', hw, e⟩ := look_row e
      split at e
      · rename_i G hL
        obtain ⟨T, e2, e⟩ := look_bind_some e
        obtain ⟨hc, e⟩ := look_cond e
        rw [look_pure] at e
        obtain rfl := Option.some.inj e
        simp only [Bool.and_eq_true] at hc
        have h1 := Nat.eq_of_beq_eq_true hc.1.2
        subst h1
        rw [decGrp_eq _ _ hL] at hw
        exact ⟨lb, ro, S, gb, c, ro', tv, rfl, hb, h24, h25, h26, h28, hw, isInts_look e2 hR, @of_decide_eq_true _ (Classical.propDecidable _) hc.1.1, Nat.eq_of_beq_eq_true hc.2⟩
      · simp [AP.look] at e
    · simp [AP.look] at e
  · simp [AP.look] at e
theorem rdO_mk {h : PT ABlk} {lb gb c : Nat} {S : List Value} {ro ro' : Bool} {o : OfV} {tv : Value} (hb : h.get lb = some (.cells (PT.ofList .leaf 0 S) ro)) (h24 : S[24]? = some (.int .i64 o.p8)) (h25 : S[25]? = some (.int .i64 o.p9)) (h26 : S[26]? = some (.slice (some ⟨gb, 0, none⟩) o.G.length c)) (h28 : S[28]? = some tv)
    (hw : h.get gb = some (.cells (PT.ofList .leaf 0 (grpCs o.G)) ro')) (hT : IsInts .i64 h tv o.T) (h1 : OfOk o) (h2 : S.length = 30) : (rdO (.pointer (some ⟨lb, 0, none⟩))).look h = some o := by
  unfold rdO
  simp only [AP.row, look_get, hb, rowB_row, h24, h25, h26, h28, hw, decGrp_cs]
  rw [look_bind, hT.look, Option.bind_some]
  have hd : @decide (OfOk ⟨o.p8, o.p9, o.G, o.T⟩) (Classical.propDecidable _) = true := @decide_eq_true _ (Classical.propDecidable _) h1
  simp only [hd, h2, show ∀ n, Nat.beq n n = true from Nat.beq_refl, Bool.and_self, cond_true, look_pure]

def ofA (o : OfV) (a : Int) : Int × Int × Int := ofL o.p8 o.p9 o.G o.T a
noncomputable def layOfS : List Value → Option (AP Value)
  | [.pointer (some p), .int .i64 a] => some ((rdO (.pointer (some p))).bind fun o => .pure (.agg ⟨plc (ofA o a)⟩))
  | _ => none
noncomputable abbrev Oof : Over := tabO [(49, withinS)]
theorem Oofok : SoundO Try.prog Oof := tab_sound (.cons withinF .nil)
theorem gOf_drop {G : List (Int × Int × Int × Int)} {i : Nat} (hi : i < G.length) (a : Int) : gOf (G.drop i) a = if 0 < G[i].2.2.2 ∧ a - G[i].2.1 < G[i].2.2.1 * G[i].2.2.2 then (G[i].1, if G[i].1 = 7 then (a - G[i].2.1).tdiv G[i].2.2.2 + 1 else (a - G[i].2.1).tdiv G[i].2.2.2, (a - G[i].2.1).tmod G[i].2.2.2) else gOf (G.drop (i + 1)) a := by
  rw [List.drop_eq_getElem_cons hi, gOf]
theorem ofA_tower {o : OfV} (hk : OfOk o) {a : Int} (h1 : 0 ≤ a) (h2 : a < o.p9) (h3 : o.p8 ≤ a) {i : Nat} (hi : i ≤ o.T.length) (q1 : ∀ j, j < i → o.T.getD j 0 < a) (q2 : ∀ j, i ≤ j → j < o.T.length → a ≤ o.T.getD j 0) :
    ∃ t : Nat, t + 1 = (if i < o.T.length ∧ o.T.getD i 0 = a then i + 1 else i) ∧ t < o.T.length ∧ ofA o a = (9, (t : Int) + 1, a - o.T.getD t 0) := by
  obtain ⟨f1, f2⟩ := hk.first (by omega)
  have hu : ofA o a = (9, (cntL o.T a : Int), a - o.T.getD (cntL o.T a - 1) 0) := by
    unfold ofA ofL
    rw [if_neg (by omega), if_pos h3]
  by_cases hf : i < o.T.length ∧ o.T.getD i 0 = a
  · have hc : cntL o.T a = i + 1 := by
      refine cntL_eq _ _ _ (by omega) (fun j hj => ?_) ?_
      · rcases Nat.lt_or_ge j i with q | q
        · have := q1 j q; omega
        · have : j = i := by omega
          subst this; omega
      · by_cases hl : i + 1 = o.T.length
        · exact .inl hl
        · have := hk.strict i (i + 1) (by omega) (by omega)
          exact .inr (by omega)
    refine ⟨i, by rw [if_pos hf], hf.1, ?_⟩
    rw [hu, hc]
    simp
  · have hi0 : 0 < i := by
      rcases Nat.eq_zero_or_pos i with q | q
      · subst q
        have := q2 0 (by omega) f1
        exact absurd ⟨f1, by omega⟩ hf
      · exact q
    have hc : cntL o.T a = i := by
      refine cntL_eq _ _ _ hi (fun j hj => by have := q1 j hj; omega) ?_
      by_cases hl : i = o.T.length
      · exact .inl hl
      · have := q2 i (by omega) (by omega)
        have hne : ¬ o.T.getD i 0 = a := fun q => hf ⟨by omega, q⟩
        exact .inr (by omega)
    refine ⟨i - 1, by rw [if_neg hf]; omega, by omega, ?_⟩
    rw [hu, hc]
    congr 2
    omega
theorem tdiv_bound {x w : Int} (h1 : -1000000 ≤ x) (h2 : x ≤ 1000000) : -1000000 ≤ x.tdiv w ∧ x.tdiv w ≤ 1000000 := by
  have e : (x.tdiv w).natAbs ≤ x.natAbs := by rw [Int.natAbs_tdiv]; exact Nat.div_le_self _ _
  omega
theorem mul_bound {m w : Int} (h1 : 0 ≤ m ∧ m ≤ 1000000) (h2 : 0 ≤ w ∧ w ≤ 1000000) : 0 ≤ m * w ∧ m * w ≤ 1000000000000 := by
  have a := Int.mul_nonneg h1.1 h2.1
  have b := Int.mul_le_mul h1.2 h2.2 h2.1 (by omega)
  omega

set_option maxRecDepth 100000 in
set_option maxHeartbeats 4000000 in
theorem layOfF : SoundF Try.prog 33 layOfS := by
  refine soundF_look Oofok orders ?_ ?_ ?_
  · intro args m hm
    unfold layOfS at hm
    split at hm
    · obtain rfl := Option.some.inj hm; exact (rdO_reads _).bind fun l => .pure _
    · simp at hm
  · intro args m h v hm e
    unfold layOfS at hm
    split at hm
    · obtain rfl := Option.some.inj hm
      obtain ⟨l, hl, e⟩ := look_bind_some e
      rw [look_pure] at e; obtain rfl := Option.some.inj e
      exact .agg _ (by simp [plc]; exact ⟨.int _ _, .int _ _, .int _ _⟩)
    · simp at hm
  · intro args m h N v hm hR hlt e
    unfold layOfS at hm
    split at hm
    · rename_i p a
      obtain rfl := Option.some.inj hm
      obtain ⟨o, hl, e⟩ := look_bind_some e
      rw [look_pure] at e; obtain rfl := Option.some.inj e
      have hW := WfH.of_lt hlt
      obtain ⟨lb, ro, S, gb, c, ro', tv, hp, hb, h24, h25, h26, h28, hg, hT, hk, hSl⟩ := rdO_look hR hl
      cases hp
      have hbN := hlt _ _ hb
      have hgN := hlt _ _ hg
      clear hm hl hR
      have b8 := hk.p8
      have b9 := hk.p9
      by_cases g1 : a < 0
      · have hv : ofA o a = (0, 0, 0) := by unfold ofA ofL; rw [if_pos (.inl g1)]
        have g4 : ¬ 0 ≤ a := by omega
        rw [hv]
        refine EvB_run (N := 102) Try.func33 rfl rfl fun z hP hO hro hN hQ => ?_
        repeat' first | simp (config := { maxSteps := 2000000 }) (disch := first | omega | (repeat first | assumption | exact Kept.refl _ | refine Kept.set' (by assumption) ?_ ?_ | refine Kept.set (by assumption) ?_ ?_ | omega)) only [go_sem, *, Try.results33, plc, withinS, Nat.reduceLT, Nat.reduceAdd, Nat.reduceMul, Nat.reduceSub, Nat.reduceEqDiff, Nat.reduceLeDiff, Int.reduceToNat, Int.reduceLT, Int.reduceLE, Int.reduceEq, Int.reduceNe, Int.reduceAdd, Int.reduceSub, Int.reduceMul, Int.reduceNeg, ↓reduceIte, reduceCtorEq] | (apply EvG_ndec <;> intro _) | (apply EvC_ndec <;> intro _) | (apply EvG_dec <;> intro _) | (apply EvC_dec <;> intro _) | refine EvK_draw (id := 13) (L := [(0, 2), (1, 2), (0, 3), (1, 3), (2, 3), (0, 4), (1, 4), (2, 4), (0, 5), (1, 5), (0, 6), (1, 6), (2, 6), (3, 6), (4, 6), (5, 6), (0, 7), (1, 7), (2, 7), (3, 7), (4, 7), (5, 7), (6, 7), (0, 8), (1, 8), (2, 8), (3, 8), (4, 8), (5, 8), (6, 8), (0, 9), (1, 9), (2, 9), (3, 9), (4, 9), (5, 9), (0, 11), (1, 11), (2, 11), (3, 11), (4, 11), (5, 11), (6, 11), (7, 11), (8, 11), (9, 11), (10, 11)]) (by kernel_rfl) (by kernel_rfl) ?_ | (apply EvH_ndec <;> intro _) | (apply EvH_dec <;> intro _) | (apply EvC_nbool <;> intro _) | (apply EvC_bool <;> intro _) | (apply EvG_nbool <;> intro _) | (apply EvG_bool <;> intro _) | (apply EvH_nbool <;> intro _) | (apply EvH_bool <;> intro _)
        all_goals exact fun i hi => by simp (disch := omega) only [heap_ne]
      · by_cases g2 : o.p9 ≤ a
        · have hv : ofA o a = (0, 0, 0) := by unfold ofA ofL; rw [if_pos (.inr g2)]
          have g3 : ¬ a ≤ o.p9 - 1 := by omega
          have g4 : 0 ≤ a := by omega
          rw [hv]
          refine EvB_run (N := 102) Try.func33 rfl rfl fun z hP hO hro hN hQ => ?_
          repeat' first | simp (config := { maxSteps := 2000000 }) (disch := first | omega | (repeat first | assumption | exact Kept.refl _ | refine Kept.set' (by assumption) ?_ ?_ | refine Kept.set (by assumption) ?_ ?_ | omega)) only [go_sem, *, Try.results33, plc, withinS, Nat.reduceLT, Nat.reduceAdd, Nat.reduceMul, Nat.reduceSub, Nat.reduceEqDiff, Nat.reduceLeDiff, Int.reduceToNat, Int.reduceLT, Int.reduceLE, Int.reduceEq, Int.reduceNe, Int.reduceAdd, Int.reduceSub, Int.reduceMul, Int.reduceNeg, ↓reduceIte, reduceCtorEq] | (apply EvG_ndec <;> intro _) | (apply EvC_ndec <;> intro _) | (apply EvG_dec <;> intro _) | (apply EvC_dec <;> intro _) | refine EvK_draw (id := 13) (L := [(0, 2), (1, 2), (0, 3), (1, 3), (2, 3), (0, 4), (1, 4), (2, 4), (0, 5), (1, 5), (0, 6), (1, 6), (2, 6), (3, 6), (4, 6), (5, 6), (0, 7), (1, 7), (2, 7), (3, 7), (4, 7), (5, 7), (6, 7), (0, 8), (1, 8), (2, 8), (3, 8), (4, 8), (5, 8), (6, 8), (0, 9), (1, 9), (2, 9), (3, 9), (4, 9), (5, 9), (0, 11), (1, 11), (2, 11), (3, 11), (4, 11), (5, 11), (6, 11), (7, 11), (8, 11), (9, 11), (10, 11)]) (by kernel_rfl) (by kernel_rfl) ?_ | (apply EvH_ndec <;> intro _) | (apply EvH_dec <;> intro _) | (apply EvC_nbool <;> intro _) | (apply EvC_bool <;> intro _) | (apply EvG_nbool <;> intro _) | (apply EvG_bool <;> intro _) | (apply EvH_nbool <;> intro _) | (apply EvH_bool <;> intro _)
          all_goals exact fun i hi => by simp (disch := omega) only [heap_ne]
        · have g3 : a ≤ o.p9 - 1 := by omega
          have g4 : 0 ≤ a := by omega
          obtain ⟨ta, tc, rfl, hA⟩ := hT.len
          by_cases g5 : o.p8 ≤ a
          · have htow := fun {i} => @ofA_tower o hk a g4 (by omega) g5 i
            refine EvB_run (N := 102) Try.func33 rfl rfl fun z hP hO hro hN hQ => ?_
            repeat' first | simp (config := { maxSteps := 2000000 }) (disch := first | omega | (repeat first | assumption | exact Kept.refl _ | refine Kept.set' (by assumption) ?_ ?_ | refine Kept.set (by assumption) ?_ ?_ | omega)) only [go_sem, *, Try.results33, plc, withinS, Nat.reduceLT, Nat.reduceAdd, Nat.reduceMul, Nat.reduceSub, Nat.reduceEqDiff, Nat.reduceLeDiff, Int.reduceToNat, Int.reduceLT, Int.reduceLE, Int.reduceEq, Int.reduceNe, Int.reduceAdd, Int.reduceSub, Int.reduceMul, Int.reduceNeg, ↓reduceIte, reduceCtorEq] | (apply EvG_ndec <;> intro _) | (apply EvC_ndec <;> intro _) | (apply EvG_dec <;> intro _) | (apply EvC_dec <;> intro _) | refine EvK_draw (id := 13) (L := [(0, 2), (1, 2), (0, 3), (1, 3), (2, 3), (0, 4), (1, 4), (2, 4), (0, 5), (1, 5), (0, 6), (1, 6), (2, 6), (3, 6), (4, 6), (5, 6), (0, 7), (1, 7), (2, 7), (3, 7), (4, 7), (5, 7), (6, 7), (0, 8), (1, 8), (2, 8), (3, 8), (4, 8), (5, 8), (6, 8), (0, 9), (1, 9), (2, 9), (3, 9), (4, 9), (5, 9), (0, 11), (1, 11), (2, 11), (3, 11), (4, 11), (5, 11), (6, 11), (7, 11), (8, 11), (9, 11), (10, 11)]) (by kernel_rfl) (by kernel_rfl) ?_ | (apply EvH_ndec <;> intro _) | (apply EvH_dec <;> intro _) | (apply EvC_nbool <;> intro _) | (apply EvC_bool <;> intro _) | (apply EvG_nbool <;> intro _) | (apply EvG_bool <;> intro _) | (apply EvH_nbool <;> intro _) | (apply EvH_bool <;> intro _)
            generalize hh2 : h.set N _ = h2
            have e2 := get_of_set hh2
            have hk2 : Kept h h2 := by rw [← hh2]; exact hW.kept (Nat.le_refl _)
            have hfr : ∀ i, i < N → h2.get i = h.get i := fun i hi => by rw [← hh2]; exact heap_ne (by omega)
            have hT2 := hT.keep hk2
            have hb2 := hk2 _ _ hb
            have hg2 := hk2 _ _ hg
            clear hh2
            refine EvQ_call ?_ ?_ (by rw [hP, hO]; exact bsearch rfl rfl rfl _ _ a _ _ hT2 hk.sort hk.lenT) ?_
            · simp (config := { maxSteps := 2000000 }) (disch := first | omega | (repeat first | assumption | exact Kept.refl _ | refine Kept.set' (by assumption) ?_ ?_ | refine Kept.set (by assumption) ?_ ?_ | omega)) only [go_sem, *, Nat.reduceLT, Nat.reduceAdd, Nat.reduceMul, Nat.reduceSub, Nat.reduceEqDiff, Nat.reduceLeDiff, Int.reduceToNat, Int.reduceLT, Int.reduceLE, Int.reduceEq, Int.reduceNe, Int.reduceAdd, Int.reduceSub, Int.reduceMul, Int.reduceNeg, ↓reduceIte, reduceCtorEq]
            · simp (config := { maxSteps := 2000000 }) (disch := first | omega | (repeat first | assumption | exact Kept.refl _ | refine Kept.set' (by assumption) ?_ ?_ | refine Kept.set (by assumption) ?_ ?_ | omega)) only [go_sem, *, Nat.reduceLT, Nat.reduceAdd, Nat.reduceMul, Nat.reduceSub, Nat.reduceEqDiff, Nat.reduceLeDiff, Int.reduceToNat, Int.reduceLT, Int.reduceLE, Int.reduceEq, Int.reduceNe, Int.reduceAdd, Int.reduceSub, Int.reduceMul, Int.reduceNeg, ↓reduceIte, reduceCtorEq]
            rintro v h3 n3 ⟨⟨i, hi, q1, q2, rfl⟩, rfl, rfl⟩
            obtain ⟨t, ht1, ht2, ht3⟩ := htow hi q1 q2
            obtain ⟨bk, off, sp, L, ro2, rfl, hbk, hL⟩ := hA t ht2
            have hbk2 := hk2 _ _ hbk
            have hbkN := hlt _ _ hbk
            have hTt := hk.T t ht2
            have hti : ((t + 1 : Nat) : Int) = (t : Int) + 1 := by omega
            have htl := hk.lenT
            have hsub : ((t : Int) + 1 - 1).toNat = t := by omega
            clear htow hA q1 q2 hbk2 hb2 hg2 hT hT2 hk2 hk
            by_cases hf : i < o.T.length ∧ o.T.getD i 0 = a
            · rw [if_pos hf] at ht1
              have hii : (i : Int) + 1 = (t : Int) + 1 := by omega
              have hdf : decide (i < o.T.length ∧ o.T.getD i 0 = a) = true := decide_eq_true hf
              rw [hdf]
              repeat' first | simp (config := { maxSteps := 2000000 }) (disch := first | omega | (repeat first | assumption | exact Kept.refl _ | refine Kept.set' (by assumption) ?_ ?_ | refine Kept.set (by assumption) ?_ ?_ | omega)) only [go_sem, *, Try.results33, plc, Nat.reduceLT, Nat.reduceAdd, Nat.reduceMul, Nat.reduceSub, Nat.reduceEqDiff, Nat.reduceLeDiff, Int.reduceToNat, Int.reduceLT, Int.reduceLE, Int.reduceEq, Int.reduceNe, Int.reduceAdd, Int.reduceSub, Int.reduceMul, Int.reduceNeg, ↓reduceIte, reduceCtorEq] | (apply EvG_ndec <;> intro _) | (apply EvC_ndec <;> intro _) | (apply EvG_dec <;> intro _) | (apply EvC_dec <;> intro _) | refine EvK_draw (id := 13) (L := [(0, 2), (1, 2), (0, 3), (1, 3), (2, 3), (0, 4), (1, 4), (2, 4), (0, 5), (1, 5), (0, 6), (1, 6), (2, 6), (3, 6), (4, 6), (5, 6), (0, 7), (1, 7), (2, 7), (3, 7), (4, 7), (5, 7), (6, 7), (0, 8), (1, 8), (2, 8), (3, 8), (4, 8), (5, 8), (6, 8), (0, 9), (1, 9), (2, 9), (3, 9), (4, 9), (5, 9), (0, 11), (1, 11), (2, 11), (3, 11), (4, 11), (5, 11), (6, 11), (7, 11), (8, 11), (9, 11), (10, 11)]) (by kernel_rfl) (by kernel_rfl) ?_ | (apply EvH_ndec <;> intro _) | (apply EvH_dec <;> intro _) | (apply EvC_nbool <;> intro _) | (apply EvC_bool <;> intro _) | (apply EvG_nbool <;> intro _) | (apply EvG_bool <;> intro _) | (apply EvH_nbool <;> intro _) | (apply EvH_bool <;> intro _)
              exact fun i hi => by rw [heap_ne (by omega)]; exact hfr i hi
            · rw [if_neg hf] at ht1
              have hii : (i : Int) = (t : Int) + 1 := by omega
              have hdf : decide (i < o.T.length ∧ o.T.getD i 0 = a) = false := decide_eq_false hf
              rw [hdf, hii]
              repeat' first | simp (config := { maxSteps := 2000000 }) (disch := first | omega | (repeat first | assumption | exact Kept.refl _ | refine Kept.set' (by assumption) ?_ ?_ | refine Kept.set (by assumption) ?_ ?_ | omega)) only [go_sem, *, Try.results33, plc, Nat.reduceLT, Nat.reduceAdd, Nat.reduceMul, Nat.reduceSub, Nat.reduceEqDiff, Nat.reduceLeDiff, Int.reduceToNat, Int.reduceLT, Int.reduceLE, Int.reduceEq, Int.reduceNe, Int.reduceAdd, Int.reduceSub, Int.reduceMul, Int.reduceNeg, ↓reduceIte, reduceCtorEq] | (apply EvG_ndec <;> intro _) | (apply EvC_ndec <;> intro _) | (apply EvG_dec <;> intro _) | (apply EvC_dec <;> intro _) | refine EvK_draw (id := 13) (L := [(0, 2), (1, 2), (0, 3), (1, 3), (2, 3), (0, 4), (1, 4), (2, 4), (0, 5), (1, 5), (0, 6), (1, 6), (2, 6), (3, 6), (4, 6), (5, 6), (0, 7), (1, 7), (2, 7), (3, 7), (4, 7), (5, 7), (6, 7), (0, 8), (1, 8), (2, 8), (3, 8), (4, 8), (5, 8), (6, 8), (0, 9), (1, 9), (2, 9), (3, 9), (4, 9), (5, 9), (0, 11), (1, 11), (2, 11), (3, 11), (4, 11), (5, 11), (6, 11), (7, 11), (8, 11), (9, 11), (10, 11)]) (by kernel_rfl) (by kernel_rfl) ?_ | (apply EvH_ndec <;> intro _) | (apply EvH_dec <;> intro _) | (apply EvC_nbool <;> intro _) | (apply EvC_bool <;> intro _) | (apply EvG_nbool <;> intro _) | (apply EvG_bool <;> intro _) | (apply EvH_nbool <;> intro _) | (apply EvH_bool <;> intro _)
              exact fun i hi => by rw [heap_ne (by omega)]; exact hfr i hi
          · refine EvB_run (N := 102) Try.func33 rfl rfl fun z hP hO hro hN hQ => ?_
            repeat' first | simp (config := { maxSteps := 2000000 }) (disch := first | omega | (repeat first | assumption | exact Kept.refl _ | refine Kept.set' (by assumption) ?_ ?_ | refine Kept.set (by assumption) ?_ ?_ | omega)) only [go_sem, *, Try.results33, plc, withinS, Nat.reduceLT, Nat.reduceAdd, Nat.reduceMul, Nat.reduceSub, Nat.reduceEqDiff, Nat.reduceLeDiff, Int.reduceToNat, Int.reduceLT, Int.reduceLE, Int.reduceEq, Int.reduceNe, Int.reduceAdd, Int.reduceSub, Int.reduceMul, Int.reduceNeg, ↓reduceIte, reduceCtorEq] | (apply EvG_ndec <;> intro _) | (apply EvC_ndec <;> intro _) | (apply EvG_dec <;> intro _) | (apply EvC_dec <;> intro _) | refine EvK_draw (id := 13) (L := [(0, 2), (1, 2), (0, 3), (1, 3), (2, 3), (0, 4), (1, 4), (2, 4), (0, 5), (1, 5), (0, 6), (1, 6), (2, 6), (3, 6), (4, 6), (5, 6), (0, 7), (1, 7), (2, 7), (3, 7), (4, 7), (5, 7), (6, 7), (0, 8), (1, 8), (2, 8), (3, 8), (4, 8), (5, 8), (6, 8), (0, 9), (1, 9), (2, 9), (3, 9), (4, 9), (5, 9), (0, 11), (1, 11), (2, 11), (3, 11), (4, 11), (5, 11), (6, 11), (7, 11), (8, 11), (9, 11), (10, 11)]) (by kernel_rfl) (by kernel_rfl) ?_ | (apply EvH_ndec <;> intro _) | (apply EvH_dec <;> intro _) | (apply EvC_nbool <;> intro _) | (apply EvC_bool <;> intro _) | (apply EvG_nbool <;> intro _) | (apply EvG_bool <;> intro _) | (apply EvH_nbool <;> intro _) | (apply EvH_bool <;> intro _)
            refine ind_loop (fun t m h' n' => ∃ i : Nat, i ≤ o.G.length ∧ t = o.G.length - i ∧ m.n = 102 ∧ m.dfs = [] ∧ m.get 1 = .int .i64 a ∧ m.get 4 = .pointer (some ⟨N, 0, none⟩) ∧ m.get 59 = .slice (some ⟨gb, 0, none⟩) o.G.length c ∧ m.get 60 = .int .i64 o.G.length ∧ m.get 61 = .int .i64 i ∧ WfH h' n' ∧ N + 1 ≤ n' ∧ (∀ i, i < N → h'.get i = h.get i) ∧ h'.get N = some (.cells (PT.ofList .leaf 0 [.int .u8 0, .int .i64 0, .int .i64 0]) false) ∧ ofA o a = gOf (o.G.drop i) a) o.G.length ?_ ?_
            · refine ⟨0, by omega, by omega, ?_⟩
              simp (config := { maxSteps := 2000000 }) (disch := first | omega | (repeat first | assumption | exact Kept.refl _ | refine Kept.set' (by assumption) ?_ ?_ | refine Kept.set (by assumption) ?_ ?_ | omega)) only [go_sem, *, Nat.reduceLT, Nat.reduceAdd, Nat.reduceMul, Nat.reduceSub, Nat.reduceEqDiff, Nat.reduceLeDiff, Int.reduceToNat, Int.reduceLT, Int.reduceLE, Int.reduceEq, Int.reduceNe, Int.reduceAdd, Int.reduceSub, Int.reduceMul, Int.reduceNeg, ↓reduceIte, reduceCtorEq]
              exact ⟨hW.set (by omega) (by omega), Nat.le_refl _, fun i hi => heap_ne (by omega), by unfold ofA ofL; rw [if_neg (by omega), if_neg g5]⟩
            · rintro t m h' n' ih ⟨i, hi, rfl, m1, m2, m3, m4, m5, m6, m7, q1, q2, q3, q4, q5⟩
              have hbk : Kept h h' := fun i B e => by rw [q3 i (hlt i B e)]; exact e
              have hb2 := hbk _ _ hb
              have hg2 := hbk _ _ hg
              have hNn := q1.lt q4
              rcases Nat.lt_or_ge i o.G.length with hil | hge
              · have e7 : (i : Int) < o.G.length := by omega
                rw [gOf_drop hil] at q5
                have hgk := hk.G _ (List.getElem_mem hil)
                obtain ⟨⟨k', f', m', w'⟩, hwi⟩ : ∃ w, o.G[i] = w := ⟨_, rfl⟩
                rw [hwi] at q5 hgk
                simp only at q5 hgk
                obtain ⟨k1, k2, k3, k4⟩ := hgk
                have hmw := mul_bound k3 k4
                have hrow : ((grpCs o.G).drop (i * 4)).take 4 = [.int .u8 k', .int .i64 f', .int .i64 m', .int .i64 w'] := by
                  rw [grpCs_drop, List.drop_eq_getElem_cons hil, hwi]; simp [grpCs, grpC]
                have hpl : (grpCs o.G).length = o.G.length * 4 := grpCs_length o.G
                have hlG := hk.lenG
                clear hbk hb2 hg2 hk hA hT
                by_cases c1 : 0 < w'
                · by_cases c2 : a - f' < m' * w'
                  · rw [if_pos ⟨c1, c2⟩] at q5
                    have hw0 : ¬ w' = 0 := by omega
                    obtain ⟨d1, d2⟩ := tdiv_bound (x := a - f') (w := w') (by omega) (by omega)
                    by_cases c3 : k' = 7
                    · rw [if_pos c3] at q5
                      subst c3
                      repeat' first | simp (config := { maxSteps := 2000000 }) (disch := first | omega | (repeat first | assumption | exact Kept.refl _ | refine Kept.set' (by assumption) ?_ ?_ | refine Kept.set (by assumption) ?_ ?_ | omega)) only [go_sem, *, Try.results33, plc, Nat.reduceLT, Nat.reduceAdd, Nat.reduceMul, Nat.reduceSub, Nat.reduceEqDiff, Nat.reduceLeDiff, Int.reduceToNat, Int.reduceLT, Int.reduceLE, Int.reduceEq, Int.reduceNe, Int.reduceAdd, Int.reduceSub, Int.reduceMul, Int.reduceNeg, ↓reduceIte, reduceCtorEq] | (apply EvG_ndec <;> intro _) | (apply EvC_ndec <;> intro _) | (apply EvG_dec <;> intro _) | (apply EvC_dec <;> intro _) | refine EvK_draw (id := 13) (L := [(0, 2), (1, 2), (0, 3), (1, 3), (2, 3), (0, 4), (1, 4), (2, 4), (0, 5), (1, 5), (0, 6), (1, 6), (2, 6), (3, 6), (4, 6), (5, 6), (0, 7), (1, 7), (2, 7), (3, 7), (4, 7), (5, 7), (6, 7), (0, 8), (1, 8), (2, 8), (3, 8), (4, 8), (5, 8), (6, 8), (0, 9), (1, 9), (2, 9), (3, 9), (4, 9), (5, 9), (0, 11), (1, 11), (2, 11), (3, 11), (4, 11), (5, 11), (6, 11), (7, 11), (8, 11), (9, 11), (10, 11)]) (by kernel_rfl) (by kernel_rfl) ?_ | (apply EvH_ndec <;> intro _) | (apply EvH_dec <;> intro _) | (apply EvC_nbool <;> intro _) | (apply EvC_bool <;> intro _) | (apply EvG_nbool <;> intro _) | (apply EvG_bool <;> intro _) | (apply EvH_nbool <;> intro _) | (apply EvH_bool <;> intro _)
                      exact fun i hi => by simp (disch := omega) only [heap_ne]; exact q3 i hi
                    · rw [if_neg c3] at q5
                      repeat' first | simp (config := { maxSteps := 2000000 }) (disch := first | omega | (repeat first | assumption | exact Kept.refl _ | refine Kept.set' (by assumption) ?_ ?_ | refine Kept.set (by assumption) ?_ ?_ | omega)) only [go_sem, *, Try.results33, plc, Nat.reduceLT, Nat.reduceAdd, Nat.reduceMul, Nat.reduceSub, Nat.reduceEqDiff, Nat.reduceLeDiff, Int.reduceToNat, Int.reduceLT, Int.reduceLE, Int.reduceEq, Int.reduceNe, Int.reduceAdd, Int.reduceSub, Int.reduceMul, Int.reduceNeg, ↓reduceIte, reduceCtorEq] | (apply EvG_ndec <;> intro _) | (apply EvC_ndec <;> intro _) | (apply EvG_dec <;> intro _) | (apply EvC_dec <;> intro _) | refine EvK_draw (id := 13) (L := [(0, 2), (1, 2), (0, 3), (1, 3), (2, 3), (0, 4), (1, 4), (2, 4), (0, 5), (1, 5), (0, 6), (1, 6), (2, 6), (3, 6), (4, 6), (5, 6), (0, 7), (1, 7), (2, 7), (3, 7), (4, 7), (5, 7), (6, 7), (0, 8), (1, 8), (2, 8), (3, 8), (4, 8), (5, 8), (6, 8), (0, 9), (1, 9), (2, 9), (3, 9), (4, 9), (5, 9), (0, 11), (1, 11), (2, 11), (3, 11), (4, 11), (5, 11), (6, 11), (7, 11), (8, 11), (9, 11), (10, 11)]) (by kernel_rfl) (by kernel_rfl) ?_ | (apply EvH_ndec <;> intro _) | (apply EvH_dec <;> intro _) | (apply EvC_nbool <;> intro _) | (apply EvC_bool <;> intro _) | (apply EvG_nbool <;> intro _) | (apply EvG_bool <;> intro _) | (apply EvH_nbool <;> intro _) | (apply EvH_bool <;> intro _)
                      exact fun i hi => by simp (disch := omega) only [heap_ne]; exact q3 i hi
                  · rw [if_neg (fun q => c2 q.2)] at q5
                    repeat' first | simp (config := { maxSteps := 2000000 }) (disch := first | omega | (repeat first | assumption | exact Kept.refl _ | refine Kept.set' (by assumption) ?_ ?_ | refine Kept.set (by assumption) ?_ ?_ | omega)) only [go_sem, *, Try.results33, plc, Nat.reduceLT, Nat.reduceAdd, Nat.reduceMul, Nat.reduceSub, Nat.reduceEqDiff, Nat.reduceLeDiff, Int.reduceToNat, Int.reduceLT, Int.reduceLE, Int.reduceEq, Int.reduceNe, Int.reduceAdd, Int.reduceSub, Int.reduceMul, Int.reduceNeg, ↓reduceIte, reduceCtorEq] | (apply EvG_ndec <;> intro _) | (apply EvC_ndec <;> intro _) | (apply EvG_dec <;> intro _) | (apply EvC_dec <;> intro _) | refine EvK_draw (id := 13) (L := [(0, 2), (1, 2), (0, 3), (1, 3), (2, 3), (0, 4), (1, 4), (2, 4), (0, 5), (1, 5), (0, 6), (1, 6), (2, 6), (3, 6), (4, 6), (5, 6), (0, 7), (1, 7), (2, 7), (3, 7), (4, 7), (5, 7), (6, 7), (0, 8), (1, 8), (2, 8), (3, 8), (4, 8), (5, 8), (6, 8), (0, 9), (1, 9), (2, 9), (3, 9), (4, 9), (5, 9), (0, 11), (1, 11), (2, 11), (3, 11), (4, 11), (5, 11), (6, 11), (7, 11), (8, 11), (9, 11), (10, 11)]) (by kernel_rfl) (by kernel_rfl) ?_ | (apply EvH_ndec <;> intro _) | (apply EvH_dec <;> intro _) | (apply EvC_nbool <;> intro _) | (apply EvC_bool <;> intro _) | (apply EvG_nbool <;> intro _) | (apply EvG_bool <;> intro _) | (apply EvH_nbool <;> intro _) | (apply EvH_bool <;> intro _)
                    refine ih (o.G.length - (i + 1)) _ _ _ (by omega) ⟨i + 1, by omega, rfl, ?_⟩
                    have hci : ((i + 1 : Nat) : Int) = (i : Int) + 1 := by omega
                    rw [hci]
                    simp (config := { maxSteps := 2000000 }) (disch := first | omega | (repeat first | assumption | exact Kept.refl _ | refine Kept.set' (by assumption) ?_ ?_ | refine Kept.set (by assumption) ?_ ?_ | omega)) only [go_sem, *, Nat.reduceLT, Nat.reduceAdd, Nat.reduceMul, Nat.reduceSub, Nat.reduceEqDiff, Nat.reduceLeDiff, Int.reduceToNat, Int.reduceLT, Int.reduceLE, Int.reduceEq, Int.reduceNe, Int.reduceAdd, Int.reduceSub, Int.reduceMul, Int.reduceNeg, ↓reduceIte, reduceCtorEq]
                    exact ⟨WfH.set' (by omega) (q1.set (Nat.le_succ _) (Nat.lt_succ_self _)), by omega, fun i hi => by simp (disch := omega) only [heap_ne]; exact q3 i hi⟩
                · rw [if_neg (fun q => c1 q.1)] at q5
                  repeat' first | simp (config := { maxSteps := 2000000 }) (disch := first | omega | (repeat first | assumption | exact Kept.refl _ | refine Kept.set' (by assumption) ?_ ?_ | refine Kept.set (by assumption) ?_ ?_ | omega)) only [go_sem, *, Try.results33, plc, Nat.reduceLT, Nat.reduceAdd, Nat.reduceMul, Nat.reduceSub, Nat.reduceEqDiff, Nat.reduceLeDiff, Int.reduceToNat, Int.reduceLT, Int.reduceLE, Int.reduceEq, Int.reduceNe, Int.reduceAdd, Int.reduceSub, Int.reduceMul, Int.reduceNeg, ↓reduceIte, reduceCtorEq] | (apply EvG_ndec <;> intro _) | (apply EvC_ndec <;> intro _) | (apply EvG_dec <;> intro _) | (apply EvC_dec <;> intro _) | refine EvK_draw (id := 13) (L := [(0, 2), (1, 2), (0, 3), (1, 3), (2, 3), (0, 4), (1, 4), (2, 4), (0, 5), (1, 5), (0, 6), (1, 6), (2, 6), (3, 6), (4, 6), (5, 6), (0, 7), (1, 7), (2, 7), (3, 7), (4, 7), (5, 7), (6, 7), (0, 8), (1, 8), (2, 8), (3, 8), (4, 8), (5, 8), (6, 8), (0, 9), (1, 9), (2, 9), (3, 9), (4, 9), (5, 9), (0, 11), (1, 11), (2, 11), (3, 11), (4, 11), (5, 11), (6, 11), (7, 11), (8, 11), (9, 11), (10, 11)]) (by kernel_rfl) (by kernel_rfl) ?_ | (apply EvH_ndec <;> intro _) | (apply EvH_dec <;> intro _) | (apply EvC_nbool <;> intro _) | (apply EvC_bool <;> intro _) | (apply EvG_nbool <;> intro _) | (apply EvG_bool <;> intro _) | (apply EvH_nbool <;> intro _) | (apply EvH_bool <;> intro _)
                  refine ih (o.G.length - (i + 1)) _ _ _ (by omega) ⟨i + 1, by omega, rfl, ?_⟩
                  have hci : ((i + 1 : Nat) : Int) = (i : Int) + 1 := by omega
                  rw [hci]
                  simp (config := { maxSteps := 2000000 }) (disch := first | omega | (repeat first | assumption | exact Kept.refl _ | refine Kept.set' (by assumption) ?_ ?_ | refine Kept.set (by assumption) ?_ ?_ | omega)) only [go_sem, *, Nat.reduceLT, Nat.reduceAdd, Nat.reduceMul, Nat.reduceSub, Nat.reduceEqDiff, Nat.reduceLeDiff, Int.reduceToNat, Int.reduceLT, Int.reduceLE, Int.reduceEq, Int.reduceNe, Int.reduceAdd, Int.reduceSub, Int.reduceMul, Int.reduceNeg, ↓reduceIte, reduceCtorEq]
                  exact ⟨WfH.set' (by omega) (q1.set (Nat.le_succ _) (Nat.lt_succ_self _)), by omega, fun i hi => by simp (disch := omega) only [heap_ne]; exact q3 i hi⟩
              · have e7 : ¬ (i : Int) < o.G.length := by omega
                rw [List.drop_eq_nil_of_le hge] at q5
                clear hbk hb2 hg2 hk hA hT
                repeat' first | simp (config := { maxSteps := 2000000 }) (disch := first | omega | (repeat first | assumption | exact Kept.refl _ | refine Kept.set' (by assumption) ?_ ?_ | refine Kept.set (by assumption) ?_ ?_ | omega)) only [go_sem, *, Try.results33, gOf, plc, Nat.reduceLT, Nat.reduceAdd, Nat.reduceMul, Nat.reduceSub, Nat.reduceEqDiff, Nat.reduceLeDiff, Int.reduceToNat, Int.reduceLT, Int.reduceLE, Int.reduceEq, Int.reduceNe, Int.reduceAdd, Int.reduceSub, Int.reduceMul, Int.reduceNeg, ↓reduceIte, reduceCtorEq] | (apply EvG_ndec <;> intro _) | (apply EvC_ndec <;> intro _) | (apply EvG_dec <;> intro _) | (apply EvC_dec <;> intro _) | refine EvK_draw (id := 13) (L := [(0, 2), (1, 2), (0, 3), (1, 3), (2, 3), (0, 4), (1, 4), (2, 4), (0, 5), (1, 5), (0, 6), (1, 6), (2, 6), (3, 6), (4, 6), (5, 6), (0, 7), (1, 7), (2, 7), (3, 7), (4, 7), (5, 7), (6, 7), (0, 8), (1, 8), (2, 8), (3, 8), (4, 8), (5, 8), (6, 8), (0, 9), (1, 9), (2, 9), (3, 9), (4, 9), (5, 9), (0, 11), (1, 11), (2, 11), (3, 11), (4, 11), (5, 11), (6, 11), (7, 11), (8, 11), (9, 11), (10, 11)]) (by kernel_rfl) (by kernel_rfl) ?_ | (apply EvH_ndec <;> intro _) | (apply EvH_dec <;> intro _) | (apply EvC_nbool <;> intro _) | (apply EvC_bool <;> intro _) | (apply EvG_nbool <;> intro _) | (apply EvG_bool <;> intro _) | (apply EvH_nbool <;> intro _) | (apply EvH_bool <;> intro _)
                exact fun i hi => by rw [heap_ne (by omega)]; exact q3 i hi
    · simp at hm
end Go.Proofs.Ytakfjoelpploeaa

set_option linter.unusedVariables false
set_option linter.unusedSimpArgs false
namespace Go.Proofs.Ytakfjoelpploeaa
open Go.Am

theorem adrEnd_le : ∀ (H : List Int) (b : Int), (∀ j, j < H.length → 1 ≤ H.getD j 0 ∧ H.getD j 0 ≤ 6) → b ≤ adrEnd b H ∧ adrEnd b H ≤ b + 11 * (H.length : Int)
  | [], b, _ => by simp [adrEnd]
  | x :: r, b, h => by
    have hx := h 0 (by simp)
    simp only [List.getD_cons_zero] at hx
    have := adrEnd_le r (b + (5 + x)) fun j hj => by have := h (j + 1) (by simpa using hj); simpa using this
    simp only [adrEnd, List.length_cons]; omega
theorem adr_lt : ∀ (H : List Int) (b : Int) (i j : Nat), (∀ j, j < H.length → 1 ≤ H.getD j 0 ∧ H.getD j 0 ≤ 6) → i < j → j < H.length → (adr b H).getD i 0 < (adr b H).getD j 0
  | [], b, i, j, _, _, hj => by simp at hj
  | x :: r, b, i, 0, _, h1, _ => by omega
  | x :: r, b, 0, j + 1, h, _, hj => by
    have hx := h 0 (by simp)
    simp only [List.getD_cons_zero] at hx
    have := adr_le r (b + (5 + x)) j (by simpa using hj) fun j hj => by have := h (j + 1) (by simpa using hj); simpa using this
    simp only [adr, List.getD_cons_zero, List.getD_cons_succ]; omega
  | x :: r, b, i + 1, j + 1, h, h1, hj => by
    have := adr_lt r (b + (5 + x)) i j (fun j hj => by have := h (j + 1) (by simpa using hj); simpa using this) (by omega) (by simpa using hj)
    simp only [adr, List.getD_cons_succ]; exact this
theorem what_len9 {sl en bu lo V : Int} {H : List Int} (h1 : 0 ≤ sl) (h2 : 0 ≤ engW en sl bu) (h3 : 0 ≤ lo) (h4 : 0 ≤ V) (hb : ∀ j, j < H.length → 1 ≤ H.getD j 0 ∧ H.getD j 0 ≤ 6) : ((whatOf sl en bu lo V H).length : Int) = adrEnd (p7Of sl en bu lo H + V * 7) H := by
  have hall : ∀ x ∈ gList sl en bu lo V H, 0 ≤ x.2.1 ∧ 0 ≤ x.2.2 := by
    intro x hx
    simp only [gList, List.mem_cons, List.not_mem_nil, or_false] at hx
    rcases hx with rfl | rfl | rfl | rfl | rfl | rfl | rfl | rfl <;> simp only <;> omega
  have hg : ((gWds (gList sl en bu lo V H)).length : Int) = p7Of sl en bu lo H + V * 7 := by
    have := gWds_length (gList sl en bu lo V H) 0 hall
    rw [Int.zero_add] at this
    rw [this]
    rfl
  rw [whatOf_eq, List.length_append, Int.natCast_add, hg]
  exact twrs_length H 1 _ fun j hj => (hb j hj).1
theorem hts_at {ts : List Int} {j : Nat} (h : ts.length = 6) (hj : j < (hts 1 ts).length) : 1 ≤ (hts 1 ts).getD j 0 ∧ (hts 1 ts).getD j 0 ≤ 6 := by
  have hm : (hts 1 ts).getD j 0 ∈ hts 1 ts := by
    rw [List.getD_eq_getElem?_getD, List.getElem?_eq_getElem hj]
    exact List.getElem_mem hj
  exact hts_bound ts 1 1 6 (by omega) (by omega) _ hm
def ofNew (sl en bu lo V : Int) (H : List Int) : OfV := ⟨p7Of sl en bu lo H + V * 7, adrEnd (p7Of sl en bu lo H + V * 7) H, gTab 0 (gList sl en bu lo V H), adr (p7Of sl en bu lo H + V * 7) H⟩
theorem ofNew_ok {sl en bu lo V : Int} {H : List Int} (hs : 1 ≤ sl ∧ sl ≤ 64) (he : 0 ≤ engW en sl bu ∧ engW en sl bu ≤ 200) (hl : 1 ≤ lo ∧ lo ≤ 16) (hV : 0 ≤ V ∧ V ≤ 64) (hp : 12 ≤ p7Of sl en bu lo H ∧ p7Of sl en bu lo H ≤ 2000) (hn : H.length ≤ 1024) (hb : ∀ j, j < H.length → 1 ≤ H.getD j 0 ∧ H.getD j 0 ≤ 6) : OfOk (ofNew sl en bu lo V H) := by
  have he2 := adrEnd_le H (p7Of sl en bu lo H + V * 7) hb
  refine ⟨?_, ?_, ?_, ?_, ?_, ?_, ?_, ?_, ?_⟩
  · simp only [ofNew]; omega
  · simp only [ofNew]; omega
  · intro g hg
    simp only [ofNew, gTab_eq, List.mem_cons, List.not_mem_nil, or_false] at hg
    rcases hg with rfl | rfl | rfl | rfl | rfl | rfl | rfl | rfl <;> simp only <;> omega
  · simp only [ofNew, gTab_eq, List.length_cons, List.length_nil]; omega
  · simp only [ofNew, adr_length]; omega
  · intro i hi
    simp only [ofNew, adr_length] at hi ⊢
    have := adr_le H (p7Of sl en bu lo H + V * 7) i hi hb
    omega
  · intro i j hij hj
    simp only [ofNew, adr_length] at hj ⊢
    rcases Nat.lt_or_eq_of_le hij with q | q
    · have := adr_lt H (p7Of sl en bu lo H + V * 7) i j hb q hj
      omega
    · subst q; omega
  · intro i j hij hj
    simp only [ofNew, adr_length] at hj ⊢
    exact adr_lt H (p7Of sl en bu lo H + V * 7) i j hb hij hj
  · intro h
    simp only [ofNew, adr_length] at h ⊢
    cases H with
    | nil => simp [adrEnd] at h
    | cons x r => exact ⟨by simp, by simp [adr]⟩
theorem ofA_same {sl en bu lo V : Int} {H : List Int} (h1 : 0 ≤ sl) (h2 : 0 ≤ engW en sl bu) (h3 : 0 ≤ lo) (h4 : 0 ≤ V) (hb : ∀ j, j < H.length → 1 ≤ H.getD j 0 ∧ H.getD j 0 ≤ 6) (a : Int) : ofA (ofNew sl en bu lo V H) a = ofR (whatOf sl en bu lo V H) a := of_same h1 h2 h3 h4 hb

theorem ne63 (x y : Int × Int × Int) (cx cy : Bool) : binV Try.prog .neq 63 cx cy (.agg ⟨plc x⟩) (.agg ⟨plc y⟩) = .pure (.value (.bool (!decide (x = y)))) := by
  have h := aEqual63 x y
  simp only [binV, aBinOp, eqGuardOk, guard63, Bool.not_false, cond_true, h, eqPlc_eq, AP.bind]
theorem ndec_self {x : Int} : decide (x ≠ x) = false := by simp
end Go.Proofs.Ytakfjoelpploeaa

set_option linter.unusedVariables false
set_option linter.unusedSimpArgs false
namespace Go.Proofs.Ytakfjoelpploeaa
open Go.Am

noncomputable abbrev OP : Over := tabO [(16, layCheckS), (46, engineS), (44, valuesS), (45, placeS), (17, refCheckS), (47, refValuesS), (48, groupS), (25, heightS), (27, wordS), (29, nextS), (31, latchS), (33, layOfS), (34, refOfS)]
theorem OPok : SoundO Try.prog OP := tab_sound (.cons layCheckF (.cons engineF (.cons valuesF (.cons placeF (.cons refCheckF (.cons refValuesF (.cons groupF (.cons heightF (.cons wordF (.cons nextF (.cons latchF (.cons layOfF (.cons refOfF .nil)))))))))))))

set_option maxRecDepth 100000 in
set_option maxHeartbeats 1000000 in
theorem places (th sl en bu kd dn t0 t1 t2 t3 t4 t5 lo tr ba : Int) (s s2 : Value) (xs : List Int) (A : List Ask5) (h : PT ABlk) (N : Nat) (hW : WfH h N) (hs : IsInts .u64 h s xs) (hl : xs.length < 1000000000000000) (hlA : A.length < 1000000000000000) (hpos : ∀ x ∈ xs, 0 ≤ x)
    (hA : (s2 = .slice none 0 0 ∧ A = []) ∨ ∃ q cap, s2 = .slice (some ⟨q, 0, none⟩) A.length cap ∧ h.get q = some (.cells (PT.ofList .leaf 0 (askCs A)) true)) (hwf : ∀ x ∈ A, ∀ n ∈ [x.1, x.2.1, x.2.2.1, x.2.2.2.1, x.2.2.2.2], -9223372036854775808 ≤ n ∧ n ≤ 9223372036854775807) :
    EvB Try.prog OP 6 [.agg ⟨[.int .i64 th, .int .i64 sl, .int .u8 en, .int .i64 bu, .int .u8 kd, .int .i64 dn, s, .int .i64 t0, .int .i64 t1, .int .i64 t2, .int .i64 t3, .int .i64 t4, .int .i64 t5, .int .i64 lo, .int .i64 tr, .int .i64 ba]⟩, s2] h N fun v _ _ => v = .bool true := by
  obtain ⟨ca, cc, rfl, -⟩ := hs.len
  obtain ⟨a2, cp2, rfl⟩ : ∃ a2 c2, s2 = .slice a2 A.length c2 := by
    rcases hA with ⟨rfl, rfl⟩ | ⟨q, cap, rfl, -⟩
    · exact ⟨_, _, rfl⟩
    · exact ⟨_, _, rfl⟩
  by_cases g1 : 50 < A.length
  · have g1' : (50 : Int) < A.length := by omega
    clear hA hwf
    refine EvB_run (N := 163) Try.func6 rfl rfl fun z hP hO hro hN hQ => ?_
    repeat' first | simp (config := { maxSteps := 2000000 }) (disch := first | omega | (repeat first | assumption | exact Kept.refl _ | refine Kept.set' (by assumption) ?_ ?_ | refine Kept.set (by assumption) ?_ ?_ | omega)) only [go_sem, *, Try.results6, Nat.reduceLT, Nat.reduceAdd, Nat.reduceMul, Nat.reduceSub, Nat.reduceEqDiff, Nat.reduceLeDiff, Int.reduceToNat, Int.reduceLT, Int.reduceLE, Int.reduceEq, Int.reduceNe, Int.reduceAdd, Int.reduceSub, Int.reduceMul, Int.reduceNeg, ↓reduceIte, reduceCtorEq] | (apply EvG_ndec <;> intro _) | (apply EvC_ndec <;> intro _) | (apply EvG_dec <;> intro _) | (apply EvC_dec <;> intro _) | refine EvK_draw (id := 27) (L := [(0, 1), (4, 5), (9, 10), (9, 11), (9, 13), (10, 13), (11, 13), (12, 13), (9, 14), (10, 14), (11, 14), (12, 14), (13, 14), (9, 15), (10, 15), (11, 15), (12, 15), (13, 15)]) (by kernel_rfl) (by kernel_rfl) ?_ | (apply EvH_ndec <;> intro _) | (apply EvH_dec <;> intro _) | (apply EvC_nbool <;> intro _) | (apply EvC_bool <;> intro _) | (apply EvG_nbool <;> intro _) | (apply EvG_bool <;> intro _) | (apply EvH_nbool <;> intro _) | (apply EvH_bool <;> intro _)
  · have g1' : ¬ (50 : Int) < A.length := by omega
    by_cases g2 : 100 < xs.length
    · have g2' : (100 : Int) < xs.length := by omega
      clear hA hwf
      refine EvB_run (N := 163) Try.func6 rfl rfl fun z hP hO hro hN hQ => ?_
      repeat' first | simp (config := { maxSteps := 2000000 }) (disch := first | omega | (repeat first | assumption | exact Kept.refl _ | refine Kept.set' (by assumption) ?_ ?_ | refine Kept.set (by assumption) ?_ ?_ | omega)) only [go_sem, *, Try.results6, Nat.reduceLT, Nat.reduceAdd, Nat.reduceMul, Nat.reduceSub, Nat.reduceEqDiff, Nat.reduceLeDiff, Int.reduceToNat, Int.reduceLT, Int.reduceLE, Int.reduceEq, Int.reduceNe, Int.reduceAdd, Int.reduceSub, Int.reduceMul, Int.reduceNeg, ↓reduceIte, reduceCtorEq] | (apply EvG_ndec <;> intro _) | (apply EvC_ndec <;> intro _) | (apply EvG_dec <;> intro _) | (apply EvC_dec <;> intro _) | refine EvK_draw (id := 27) (L := [(0, 1), (4, 5), (9, 10), (9, 11), (9, 13), (10, 13), (11, 13), (12, 13), (9, 14), (10, 14), (11, 14), (12, 14), (13, 14), (9, 15), (10, 15), (11, 15), (12, 15), (13, 15)]) (by kernel_rfl) (by kernel_rfl) ?_ | (apply EvH_ndec <;> intro _) | (apply EvH_dec <;> intro _) | (apply EvC_nbool <;> intro _) | (apply EvC_bool <;> intro _) | (apply EvG_nbool <;> intro _) | (apply EvG_bool <;> intro _) | (apply EvH_nbool <;> intro _) | (apply EvH_bool <;> intro _)
    · have g2' : ¬ (100 : Int) < xs.length := by omega
      have hnn : nonneg xs = true := nonneg_of (by omega) hpos
      refine EvB_run (N := 163) Try.func6 rfl rfl fun z hP hO hro hN hQ => ?_
      have hA0 := hA
      clear hA
      have hx := hwf
      clear hwf
      repeat' first | simp (config := { maxSteps := 2000000 }) (disch := first | omega | (repeat first | assumption | exact Kept.refl _ | refine Kept.set' (by assumption) ?_ ?_ | refine Kept.set (by assumption) ?_ ?_ | omega)) only [go_sem, *, Try.results6, Nat.reduceLT, Nat.reduceAdd, Nat.reduceMul, Nat.reduceSub, Nat.reduceEqDiff, Nat.reduceLeDiff, Int.reduceToNat, Int.reduceLT, Int.reduceLE, Int.reduceEq, Int.reduceNe, Int.reduceAdd, Int.reduceSub, Int.reduceMul, Int.reduceNeg, ↓reduceIte, reduceCtorEq] | (apply EvG_ndec <;> intro _) | (apply EvC_ndec <;> intro _) | (apply EvG_dec <;> intro _) | (apply EvC_dec <;> intro _) | refine EvK_draw (id := 27) (L := [(0, 1), (4, 5), (9, 10), (9, 11), (9, 13), (10, 13), (11, 13), (12, 13), (9, 14), (10, 14), (11, 14), (12, 14), (13, 14), (9, 15), (10, 15), (11, 15), (12, 15), (13, 15)]) (by kernel_rfl) (by kernel_rfl) ?_ | (apply EvH_ndec <;> intro _) | (apply EvH_dec <;> intro _) | (apply EvC_nbool <;> intro _) | (apply EvC_bool <;> intro _) | (apply EvG_nbool <;> intro _) | (apply EvG_bool <;> intro _) | (apply EvH_nbool <;> intro _) | (apply EvH_bool <;> intro _)
      generalize hh3 : h.set N _ = h3
      have e1 := get_of_set hh3
      have hW3 : WfH h3 (N + 1) := by rw [← hh3]; exact hW.set (by omega) (by omega)
      have hk3 : Kept h h3 := by rw [← hh3]; exact hW.kept (Nat.le_refl _)
      have hs3 := hs.keep hk3
      clear hh3
      refine EvQ_call ?_ ?_ (by rw [hP, hO]; exact (layNew rfl rfl rfl rfl (fun _ => rfl) th sl en bu kd dn t0 t1 t2 t3 t4 t5 lo tr ba _ xs _ _ hW3 hs3 (by omega)).wf hW3) ?_
      · simp (config := { maxSteps := 2000000 }) (disch := first | omega | (repeat first | assumption | exact Kept.refl _ | refine Kept.set' (by assumption) ?_ ?_ | refine Kept.set (by assumption) ?_ ?_ | omega)) only [go_sem, *, Nat.reduceLT, Nat.reduceAdd, Nat.reduceMul, Nat.reduceSub, Nat.reduceEqDiff, Nat.reduceLeDiff, Int.reduceToNat, Int.reduceLT, Int.reduceLE, Int.reduceEq, Int.reduceNe, Int.reduceAdd, Int.reduceSub, Int.reduceMul, Int.reduceNeg, ↓reduceIte, reduceCtorEq]
      · simp (config := { maxSteps := 2000000 }) (disch := first | omega | (repeat first | assumption | exact Kept.refl _ | refine Kept.set' (by assumption) ?_ ?_ | refine Kept.set (by assumption) ?_ ?_ | omega)) only [go_sem, *, Nat.reduceLT, Nat.reduceAdd, Nat.reduceMul, Nat.reduceSub, Nat.reduceEqDiff, Nat.reduceLeDiff, Int.reduceToNat, Int.reduceLT, Int.reduceLE, Int.reduceEq, Int.reduceNe, Int.reduceAdd, Int.reduceSub, Int.reduceMul, Int.reduceNeg, ↓reduceIte, reduceCtorEq]
      rintro v h4 n4 ⟨⟨c1, rfl, hk4⟩ | ⟨c1, lb, cv, hv, tv, gb, rfl, hk4, hlb, hb, hg, hcv, hH, hT⟩, hn4, hW4⟩
      · have e2 := hk4 N _ e1
        have hs4 := hs3.keep hk4
        repeat' first | simp (config := { maxSteps := 2000000 }) (disch := first | omega | (repeat first | assumption | exact Kept.refl _ | refine Kept.set' (by assumption) ?_ ?_ | refine Kept.set (by assumption) ?_ ?_ | omega)) only [go_sem, *, Try.results6, Nat.reduceLT, Nat.reduceAdd, Nat.reduceMul, Nat.reduceSub, Nat.reduceEqDiff, Nat.reduceLeDiff, Int.reduceToNat, Int.reduceLT, Int.reduceLE, Int.reduceEq, Int.reduceNe, Int.reduceAdd, Int.reduceSub, Int.reduceMul, Int.reduceNeg, ↓reduceIte, reduceCtorEq] | (apply EvG_ndec <;> intro _) | (apply EvC_ndec <;> intro _) | (apply EvG_dec <;> intro _) | (apply EvC_dec <;> intro _) | refine EvK_draw (id := 27) (L := [(0, 1), (4, 5), (9, 10), (9, 11), (9, 13), (10, 13), (11, 13), (12, 13), (9, 14), (10, 14), (11, 14), (12, 14), (13, 14), (9, 15), (10, 15), (11, 15), (12, 15), (13, 15)]) (by kernel_rfl) (by kernel_rfl) ?_ | (apply EvH_ndec <;> intro _) | (apply EvH_dec <;> intro _) | (apply EvC_nbool <;> intro _) | (apply EvC_bool <;> intro _) | (apply EvG_nbool <;> intro _) | (apply EvG_bool <;> intro _) | (apply EvH_nbool <;> intro _) | (apply EvH_bool <;> intro _)
        refine EvQ_call ?_ ?_ (by rw [hP, hO]; exact (refNew rfl rfl rfl th sl en bu kd dn t0 t1 t2 t3 t4 t5 lo tr ba _ xs _ _ hW4 hs4 hnn).wf hW4) ?_
        · simp (config := { maxSteps := 2000000 }) (disch := first | omega | (repeat first | assumption | exact Kept.refl _ | refine Kept.set' (by assumption) ?_ ?_ | refine Kept.set (by assumption) ?_ ?_ | omega)) only [go_sem, *, Nat.reduceLT, Nat.reduceAdd, Nat.reduceMul, Nat.reduceSub, Nat.reduceEqDiff, Nat.reduceLeDiff, Int.reduceToNat, Int.reduceLT, Int.reduceLE, Int.reduceEq, Int.reduceNe, Int.reduceAdd, Int.reduceSub, Int.reduceMul, Int.reduceNeg, ↓reduceIte, reduceCtorEq]
        · simp (config := { maxSteps := 2000000 }) (disch := first | omega | (repeat first | assumption | exact Kept.refl _ | refine Kept.set' (by assumption) ?_ ?_ | refine Kept.set (by assumption) ?_ ?_ | omega)) only [go_sem, *, Nat.reduceLT, Nat.reduceAdd, Nat.reduceMul, Nat.reduceSub, Nat.reduceEqDiff, Nat.reduceLeDiff, Int.reduceToNat, Int.reduceLT, Int.reduceLE, Int.reduceEq, Int.reduceNe, Int.reduceAdd, Int.reduceSub, Int.reduceMul, Int.reduceNeg, ↓reduceIte, reduceCtorEq]
        rintro v h5 n5 ⟨⟨c2, rfl, hk5⟩ | ⟨c2, _⟩, hn5, hW5⟩
        · repeat' first | simp (config := { maxSteps := 2000000 }) (disch := first | omega | (repeat first | assumption | exact Kept.refl _ | refine Kept.set' (by assumption) ?_ ?_ | refine Kept.set (by assumption) ?_ ?_ | omega)) only [go_sem, *, Try.results6, Nat.reduceLT, Nat.reduceAdd, Nat.reduceMul, Nat.reduceSub, Nat.reduceEqDiff, Nat.reduceLeDiff, Int.reduceToNat, Int.reduceLT, Int.reduceLE, Int.reduceEq, Int.reduceNe, Int.reduceAdd, Int.reduceSub, Int.reduceMul, Int.reduceNeg, ↓reduceIte, reduceCtorEq] | (apply EvG_ndec <;> intro _) | (apply EvC_ndec <;> intro _) | (apply EvG_dec <;> intro _) | (apply EvC_dec <;> intro _) | refine EvK_draw (id := 27) (L := [(0, 1), (4, 5), (9, 10), (9, 11), (9, 13), (10, 13), (11, 13), (12, 13), (9, 14), (10, 14), (11, 14), (12, 14), (13, 14), (9, 15), (10, 15), (11, 15), (12, 15), (13, 15)]) (by kernel_rfl) (by kernel_rfl) ?_ | (apply EvH_ndec <;> intro _) | (apply EvH_dec <;> intro _) | (apply EvC_nbool <;> intro _) | (apply EvC_bool <;> intro _) | (apply EvG_nbool <;> intro _) | (apply EvG_bool <;> intro _) | (apply EvH_nbool <;> intro _) | (apply EvH_bool <;> intro _)
        · rw [c1] at c2; simp at c2
      · have e2 := hk4 N _ e1
        have hs4 := hs3.keep hk4
        repeat' first | simp (config := { maxSteps := 2000000 }) (disch := first | omega | (repeat first | assumption | exact Kept.refl _ | refine Kept.set' (by assumption) ?_ ?_ | refine Kept.set (by assumption) ?_ ?_ | omega)) only [go_sem, *, Try.results6, Nat.reduceLT, Nat.reduceAdd, Nat.reduceMul, Nat.reduceSub, Nat.reduceEqDiff, Nat.reduceLeDiff, Int.reduceToNat, Int.reduceLT, Int.reduceLE, Int.reduceEq, Int.reduceNe, Int.reduceAdd, Int.reduceSub, Int.reduceMul, Int.reduceNeg, ↓reduceIte, reduceCtorEq] | (apply EvG_ndec <;> intro _) | (apply EvC_ndec <;> intro _) | (apply EvG_dec <;> intro _) | (apply EvC_dec <;> intro _) | refine EvK_draw (id := 27) (L := [(0, 1), (4, 5), (9, 10), (9, 11), (9, 13), (10, 13), (11, 13), (12, 13), (9, 14), (10, 14), (11, 14), (12, 14), (13, 14), (9, 15), (10, 15), (11, 15), (12, 15), (13, 15)]) (by kernel_rfl) (by kernel_rfl) ?_ | (apply EvH_ndec <;> intro _) | (apply EvH_dec <;> intro _) | (apply EvC_nbool <;> intro _) | (apply EvC_bool <;> intro _) | (apply EvG_nbool <;> intro _) | (apply EvG_bool <;> intro _) | (apply EvH_nbool <;> intro _) | (apply EvH_bool <;> intro _)
        refine EvQ_call ?_ ?_ (by rw [hP, hO]; exact (refNew rfl rfl rfl th sl en bu kd dn t0 t1 t2 t3 t4 t5 lo tr ba _ xs _ _ hW4 hs4 hnn).wf hW4) ?_
        · simp (config := { maxSteps := 2000000 }) (disch := first | omega | (repeat first | assumption | exact Kept.refl _ | refine Kept.set' (by assumption) ?_ ?_ | refine Kept.set (by assumption) ?_ ?_ | omega)) only [go_sem, *, Nat.reduceLT, Nat.reduceAdd, Nat.reduceMul, Nat.reduceSub, Nat.reduceEqDiff, Nat.reduceLeDiff, Int.reduceToNat, Int.reduceLT, Int.reduceLE, Int.reduceEq, Int.reduceNe, Int.reduceAdd, Int.reduceSub, Int.reduceMul, Int.reduceNeg, ↓reduceIte, reduceCtorEq]
        · simp (config := { maxSteps := 2000000 }) (disch := first | omega | (repeat first | assumption | exact Kept.refl _ | refine Kept.set' (by assumption) ?_ ?_ | refine Kept.set (by assumption) ?_ ?_ | omega)) only [go_sem, *, Nat.reduceLT, Nat.reduceAdd, Nat.reduceMul, Nat.reduceSub, Nat.reduceEqDiff, Nat.reduceLeDiff, Int.reduceToNat, Int.reduceLT, Int.reduceLE, Int.reduceEq, Int.reduceNe, Int.reduceAdd, Int.reduceSub, Int.reduceMul, Int.reduceNeg, ↓reduceIte, reduceCtorEq]
        rintro v h5 n5 ⟨⟨c2, _⟩ | ⟨c2, lb2, cv2, hv2, wv, rfl, hk5, hlb2, hb2, hcv2, hH2, hw2⟩, hn5, hW5⟩
        · rw [c1] at c2; simp at c2
        · have hk05 : Kept h h5 := hk3.trans (hk4.trans hk5)
          have hb5 := hk5 _ _ hb
          have hg5 := hk5 _ _ hg
          have hH5 := hH.keep hk5
          have hT5 := hT.keep hk5
          clear hb hcv hH hT hg hcv2 hs4 hs3 e1 e2 hk4 hk5 hW3 hW4 hk3 hs
          obtain ⟨hva, hvc, rfl, -⟩ := hH2.len
          have hlen6 := hts_length6 ⟨(cfgOk_facts c1).2.2.2.2.2.1, (cfgOk_facts c1).2.2.2.2.2.2.1⟩
          have hV := domCount_pos (cfgOk_facts c1).1
          have hP7 := p7_bound c1
          obtain ⟨-, ⟨f2, f2'⟩, ⟨f3, f3'⟩, ⟨f4, f4'⟩, ⟨f5, f5'⟩, -, -, -⟩ := cfgOk_facts c1
          have hE := engW_bound (en := en) f3 f3' f4 f4'
          have hbd : ∀ i, i < (hts 1 [t0, t1, t2, t3, t4, t5]).length → 1 ≤ (hts 1 [t0, t1, t2, t3, t4, t5]).getD i 0 ∧ (hts 1 [t0, t1, t2, t3, t4, t5]).getD i 0 ≤ 6 := fun i hi => hts_at rfl hi
          have hl0 := rdL_mk hb5 rfl rfl rfl hH5 hT5 (decInts_map (xs := placesOf sl en bu lo (domCount kd dn xs) (hts 1 [t0, t1, t2, t3, t4, t5]))) (by omega) (adr_length _ _) rfl
          have ho0 := rdO_mk (o := ofNew sl en bu lo (domCount kd dn xs) (hts 1 [t0, t1, t2, t3, t4, t5])) hb5 rfl rfl rfl rfl hg5 hT5 (ofNew_ok ⟨f3, f3'⟩ hE ⟨f5, f5'⟩ (by omega) hP7 hlen6 hbd) rfl
          have hlw := what_len9 (sl := sl) (en := en) (bu := bu) (lo := lo) (V := domCount kd dn xs) (H := hts 1 [t0, t1, t2, t3, t4, t5]) (by omega) hE.1 (by omega) (by omega) hbd
          have hae := adrEnd_le (hts 1 [t0, t1, t2, t3, t4, t5]) (p7Of sl en bu lo (hts 1 [t0, t1, t2, t3, t4, t5]) + domCount kd dn xs * 7) hbd
          have hof := ofA_same (sl := sl) (en := en) (bu := bu) (lo := lo) (V := domCount kd dn xs) (H := hts 1 [t0, t1, t2, t3, t4, t5]) (by omega) hE.1 (by omega) (by omega) hbd
          obtain ⟨l, hlk, hlH, hlT, hlV, hlP⟩ : ∃ l : LayV, (rdL (.pointer (some ⟨lb, 0, none⟩))).look h5 = some l ∧ l.H = hts 1 [t0, t1, t2, t3, t4, t5] ∧ l.T = adr (p7Of sl en bu lo (hts 1 [t0, t1, t2, t3, t4, t5]) + domCount kd dn xs * 7) (hts 1 [t0, t1, t2, t3, t4, t5]) ∧ l.V = domCount kd dn xs ∧ l.P.getD 7 0 = p7Of sl en bu lo (hts 1 [t0, t1, t2, t3, t4, t5]) :=
            ⟨_, hl0, rfl, rfl, rfl, rfl⟩
          have hws : ∀ t w, wrdR (whatOf sl en bu lo (domCount kd dn xs) (hts 1 [t0, t1, t2, t3, t4, t5])) t w = wordV l t w := fun t w => (word_same (l := l) (sl := sl) (en := en) (bu := bu) (lo := lo) (V := domCount kd dn xs) (H := hts 1 [t0, t1, t2, t3, t4, t5]) (by omega) hE.1 (by omega) (by omega) hlH hlT hbd (by omega) (by omega)).symm
          have hns : ∀ r lv, -9223372036854775808 ≤ r ∧ r ≤ 9223372036854775807 → nxtR (whatOf sl en bu lo (domCount kd dn xs) (hts 1 [t0, t1, t2, t3, t4, t5])) r lv = nextV l r lv := fun r lv hr => (next_same (l := l) (sl := sl) (en := en) (bu := bu) (lo := lo) (V := domCount kd dn xs) (H := hts 1 [t0, t1, t2, t3, t4, t5]) (by omega) hE.1 (by omega) (by omega) hlH hlT hlV hlP hbd (by omega) (by omega) (by omega) hr).symm
          have hls : ∀ r, -9223372036854775808 ≤ r ∧ r ≤ 9223372036854775807 → ltcR (whatOf sl en bu lo (domCount kd dn xs) (hts 1 [t0, t1, t2, t3, t4, t5])) r = latchV l r := fun r hr => (latch_same (l := l) (sl := sl) (en := en) (bu := bu) (lo := lo) (V := domCount kd dn xs) (H := hts 1 [t0, t1, t2, t3, t4, t5]) (by omega) hE.1 (by omega) (by omega) hlH hlT hlV hlP hbd (by omega) (by omega) (by omega) hr).symm
          rcases hw2 with ⟨_, _, hk0⟩ | ⟨wb, rfl, hwb, -⟩
          · exfalso; rw [hk0] at hlw; omega
          have hwl : (whatOf sl en bu lo (domCount kd dn xs) (hts 1 [t0, t1, t2, t3, t4, t5])).length ≤ 100000 := by omega
          have hw0 := rdW_mk hb2 rfl hwb hwl rfl
          generalize ofNew sl en bu lo (domCount kd dn xs) (hts 1 [t0, t1, t2, t3, t4, t5]) = o at *
          generalize whatOf sl en bu lo (domCount kd dn xs) (hts 1 [t0, t1, t2, t3, t4, t5]) = W at *
          generalize hts 1 [t0, t1, t2, t3, t4, t5] = H at *
          have hlb2n := hW5.lt hb2
          have hHl : H.length ≤ 100000 := by omega
          clear hlw hae hl0 hb5 hg5 hH5 hT5 hE hV hP7 f2 f2' f3 f3' f4 f4' f5 f5' hbd hnn hpos c1
          clear hlT hlV hlP
          have hask : ∀ i (hi : i < A.length), ∃ q cap, a2 = some ⟨q, 0, none⟩ ∧ cp2 = cap ∧ h5.get q = some (.cells (PT.ofList .leaf 0 (askCs A)) true) := by
            intro i hi
            rcases hA0 with ⟨e, e'⟩ | ⟨q, cap, e, e'⟩
            · rw [e'] at hi; simp at hi
            · injection e with e1 e2 e3
              exact ⟨q, cap, e1, e3, hk05 _ _ e'⟩
          clear hA0 hk05 h4 hn4 hn5 hlb hlb2
          repeat' first | simp (config := { maxSteps := 2000000 }) (disch := first | omega | (repeat first | assumption | exact Kept.refl _ | refine Kept.set' (by assumption) ?_ ?_ | refine Kept.set (by assumption) ?_ ?_ | omega)) only [go_sem, *, Try.results6, Nat.reduceLT, Nat.reduceAdd, Nat.reduceMul, Nat.reduceSub, Nat.reduceEqDiff, Nat.reduceLeDiff, Int.reduceToNat, Int.reduceLT, Int.reduceLE, Int.reduceEq, Int.reduceNe, Int.reduceAdd, Int.reduceSub, Int.reduceMul, Int.reduceNeg, ↓reduceIte, reduceCtorEq] | (apply EvG_ndec <;> intro _) | (apply EvC_ndec <;> intro _) | (apply EvG_dec <;> intro _) | (apply EvC_dec <;> intro _) | refine EvK_draw (id := 27) (L := [(0, 1), (4, 5), (9, 10), (9, 11), (9, 13), (10, 13), (11, 13), (12, 13), (9, 14), (10, 14), (11, 14), (12, 14), (13, 14), (9, 15), (10, 15), (11, 15), (12, 15), (13, 15)]) (by kernel_rfl) (by kernel_rfl) ?_ | (apply EvH_ndec <;> intro _) | (apply EvH_dec <;> intro _) | (apply EvC_nbool <;> intro _) | (apply EvC_bool <;> intro _) | (apply EvG_nbool <;> intro _) | (apply EvG_bool <;> intro _) | (apply EvH_nbool <;> intro _) | (apply EvH_bool <;> intro _)
          refine ind_loop (fun t m h' n' => ∃ i : Nat, i ≤ A.length ∧ t = A.length - i ∧ m.n = 163 ∧ m.dfs = [] ∧ m.get 1 = .slice a2 A.length cp2 ∧ m.get 5 = .pointer (some ⟨lb, 0, none⟩) ∧ m.get 7 = .pointer (some ⟨lb2, 0, none⟩) ∧ m.get 9 = .int .i64 i ∧ Kept h5 h' ∧ WfH h' n' ∧ n5 ≤ n') A.length ?_ ?_
          · refine ⟨0, by omega, by omega, ?_⟩
            simp (config := { maxSteps := 2000000 }) (disch := first | omega | (repeat first | assumption | exact Kept.refl _ | refine Kept.set' (by assumption) ?_ ?_ | refine Kept.set (by assumption) ?_ ?_ | omega)) only [go_sem, *, Nat.reduceLT, Nat.reduceAdd, Nat.reduceMul, Nat.reduceSub, Nat.reduceEqDiff, Nat.reduceLeDiff, Int.reduceToNat, Int.reduceLT, Int.reduceLE, Int.reduceEq, Int.reduceNe, Int.reduceAdd, Int.reduceSub, Int.reduceMul, Int.reduceNeg, ↓reduceIte, reduceCtorEq]
            exact ⟨Kept.refl _, Nat.le_refl _⟩
          · rintro t m h' n' ih ⟨i, hi, rfl, m1, m2, m3, m4, m5, m6, q1, q2, q3⟩
            rcases Nat.lt_or_ge i A.length with hil | hge
            · have e7 : (i : Int) < A.length := by omega
              obtain ⟨q, cap, rfl, rfl, hq⟩ := hask i hil
              have hq2 := q1 _ _ hq
              obtain ⟨⟨xa, xt, xw, xl, xr⟩, hxi⟩ : ∃ x, A[i] = x := ⟨_, rfl⟩
              have hxx := hx _ (List.getElem_mem hil)
              rw [hxi] at hxx
              simp only [List.mem_cons, List.not_mem_nil, or_false, forall_eq_or_imp, forall_eq] at hxx
              have hrow : ((askCs A).drop (i * 5)).take 5 = [.int .i64 xa, .int .i64 xt, .int .i64 xw, .int .i64 xl, .int .i64 xr] := by
                rw [askCs_drop, List.drop_eq_getElem_cons hil, hxi]; simp [askCs, askC]
              have hpl : (askCs A).length = A.length * 5 := askCs_length A
              have hrl := fun h' hk z f d ops r K m n => @EvV_look _ _ _ _ h' hlk z f d ops r K m n hk
              have hql := q2.lt hq2
              clear hask hx hq
              repeat' first | simp (config := { maxSteps := 2000000 }) (disch := first | omega | (repeat first | assumption | exact Kept.refl _ | refine Kept.set' (by assumption) ?_ ?_ | refine Kept.set (by assumption) ?_ ?_ | omega)) only [go_sem, *, Try.results6, heightS, heightV, Nat.reduceLT, Nat.reduceAdd, Nat.reduceMul, Nat.reduceSub, Nat.reduceEqDiff, Nat.reduceLeDiff, Int.reduceToNat, Int.reduceLT, Int.reduceLE, Int.reduceEq, Int.reduceNe, Int.reduceAdd, Int.reduceSub, Int.reduceMul, Int.reduceNeg, ↓reduceIte, reduceCtorEq] | (apply EvG_ndec <;> intro _) | (apply EvC_ndec <;> intro _) | (apply EvG_dec <;> intro _) | (apply EvC_dec <;> intro _) | refine EvK_draw (id := 27) (L := [(0, 1), (4, 5), (9, 10), (9, 11), (9, 13), (10, 13), (11, 13), (12, 13), (9, 14), (10, 14), (11, 14), (12, 14), (13, 14), (9, 15), (10, 15), (11, 15), (12, 15), (13, 15)]) (by kernel_rfl) (by kernel_rfl) ?_ | (apply EvH_ndec <;> intro _) | (apply EvH_dec <;> intro _) | (apply EvC_nbool <;> intro _) | (apply EvC_bool <;> intro _) | (apply EvG_nbool <;> intro _) | (apply EvG_bool <;> intro _) | (apply EvH_nbool <;> intro _) | (apply EvH_bool <;> intro _)
              generalize hh6 : PT.set (PT.set h' n' _) n' _ = h6
              have e6 : h6.get n' = some (.cells (PT.ofList .leaf 0 [.int .i64 xa, .int .i64 xt, .int .i64 xw, .int .i64 xl, .int .i64 xr]) false) := get_of_set hh6
              have hk6 : Kept h5 h6 := by rw [← hh6]; exact Kept.set' hW5 q3 (Kept.set' hW5 q3 q1)
              have hW6 : WfH h6 (n' + 1) := by rw [← hh6]; exact WfH.set' (by omega) (q2.set (Nat.le_succ _) (Nat.lt_succ_self _))
              clear hh6 hq2 hrow hpl hql q1 q2
              refine EvQ_call ?_ ?_ (by rw [hP, hO]; exact refHeight _ _ _ _ _ _ _ _ _ _ _ _ _ _ _ _ _ _ _ _ _ _ _ _ _ _ _ _ _ _ _ _ _ _ _ hW6 (hk6 _ _ hb2) (hH2.keep hk6) hHl) ?_
              · simp (config := { maxSteps := 2000000 }) (disch := first | omega | (repeat first | assumption | exact Kept.refl _ | refine Kept.set' (by assumption) ?_ ?_ | refine Kept.set (by assumption) ?_ ?_ | omega)) only [go_sem, *, Nat.reduceLT, Nat.reduceAdd, Nat.reduceMul, Nat.reduceSub, Nat.reduceEqDiff, Nat.reduceLeDiff, Int.reduceToNat, Int.reduceLT, Int.reduceLE, Int.reduceEq, Int.reduceNe, Int.reduceAdd, Int.reduceSub, Int.reduceMul, Int.reduceNeg, ↓reduceIte, reduceCtorEq]
              · simp (config := { maxSteps := 2000000 }) (disch := first | omega | (repeat first | assumption | exact Kept.refl _ | refine Kept.set' (by assumption) ?_ ?_ | refine Kept.set (by assumption) ?_ ?_ | omega)) only [go_sem, *, Nat.reduceLT, Nat.reduceAdd, Nat.reduceMul, Nat.reduceSub, Nat.reduceEqDiff, Nat.reduceLeDiff, Int.reduceToNat, Int.reduceLT, Int.reduceLE, Int.reduceEq, Int.reduceNe, Int.reduceAdd, Int.reduceSub, Int.reduceMul, Int.reduceNeg, ↓reduceIte, reduceCtorEq]
              rintro v h7 n7 ⟨rfl, rfl, rfl⟩
              repeat' first | simp (config := { maxSteps := 2000000 }) (disch := first | omega | (repeat first | assumption | exact Kept.refl _ | refine Kept.set' (by assumption) ?_ ?_ | refine Kept.set (by assumption) ?_ ?_ | omega)) only [go_sem, *, Try.results6, heightV, ndec_self, wordS, wordV, Nat.reduceLT, Nat.reduceAdd, Nat.reduceMul, Nat.reduceSub, Nat.reduceEqDiff, Nat.reduceLeDiff, Int.reduceToNat, Int.reduceLT, Int.reduceLE, Int.reduceEq, Int.reduceNe, Int.reduceAdd, Int.reduceSub, Int.reduceMul, Int.reduceNeg, ↓reduceIte, reduceCtorEq] | (apply EvG_ndec <;> intro _) | (apply EvC_ndec <;> intro _) | (apply EvG_dec <;> intro _) | (apply EvC_dec <;> intro _) | refine EvK_draw (id := 27) (L := [(0, 1), (4, 5), (9, 10), (9, 11), (9, 13), (10, 13), (11, 13), (12, 13), (9, 14), (10, 14), (11, 14), (12, 14), (13, 14), (9, 15), (10, 15), (11, 15), (12, 15), (13, 15)]) (by kernel_rfl) (by kernel_rfl) ?_ | (apply EvH_ndec <;> intro _) | (apply EvH_dec <;> intro _) | (apply EvC_nbool <;> intro _) | (apply EvC_bool <;> intro _) | (apply EvG_nbool <;> intro _) | (apply EvG_bool <;> intro _) | (apply EvH_nbool <;> intro _) | (apply EvH_bool <;> intro _)
              refine EvQ_call ?_ ?_ (by rw [hP, hO]; exact (refWord (fun _ => rfl) _ _ _ _ _ _ _ _ _ _ _ _ _ _ _ _ _ _ _ _ _ _ _ _ _ _ _ _ _ _ _ _ _ _ _ hW6 (hk6 _ _ hb2) (hk6 _ _ hwb) hwl).wf hW6) ?_
              · simp (config := { maxSteps := 2000000 }) (disch := first | omega | (repeat first | assumption | exact Kept.refl _ | refine Kept.set' (by assumption) ?_ ?_ | refine Kept.set (by assumption) ?_ ?_ | omega)) only [go_sem, *, Nat.reduceLT, Nat.reduceAdd, Nat.reduceMul, Nat.reduceSub, Nat.reduceEqDiff, Nat.reduceLeDiff, Int.reduceToNat, Int.reduceLT, Int.reduceLE, Int.reduceEq, Int.reduceNe, Int.reduceAdd, Int.reduceSub, Int.reduceMul, Int.reduceNeg, ↓reduceIte, reduceCtorEq]
              · simp (config := { maxSteps := 2000000 }) (disch := first | omega | (repeat first | assumption | exact Kept.refl _ | refine Kept.set' (by assumption) ?_ ?_ | refine Kept.set (by assumption) ?_ ?_ | omega)) only [go_sem, *, Nat.reduceLT, Nat.reduceAdd, Nat.reduceMul, Nat.reduceSub, Nat.reduceEqDiff, Nat.reduceLeDiff, Int.reduceToNat, Int.reduceLT, Int.reduceLE, Int.reduceEq, Int.reduceNe, Int.reduceAdd, Int.reduceSub, Int.reduceMul, Int.reduceNeg, ↓reduceIte, reduceCtorEq]
              rintro v h8 n8 ⟨⟨rfl, hkh8⟩, hnh8, hWh8⟩
              rw [hws]
              have eh8 := hkh8 _ _ e6
              have kh8 : Kept h5 h8 := hk6.trans hkh8
              clear hkh8
              repeat' first | simp (config := { maxSteps := 2000000 }) (disch := first | omega | (repeat first | assumption | exact Kept.refl _ | refine Kept.set' (by assumption) ?_ ?_ | refine Kept.set (by assumption) ?_ ?_ | omega)) only [go_sem, *, Try.results6, ndec_self, wordV, nextS, nextV, Nat.reduceLT, Nat.reduceAdd, Nat.reduceMul, Nat.reduceSub, Nat.reduceEqDiff, Nat.reduceLeDiff, Int.reduceToNat, Int.reduceLT, Int.reduceLE, Int.reduceEq, Int.reduceNe, Int.reduceAdd, Int.reduceSub, Int.reduceMul, Int.reduceNeg, ↓reduceIte, reduceCtorEq] | (apply EvG_ndec <;> intro _) | (apply EvC_ndec <;> intro _) | (apply EvG_dec <;> intro _) | (apply EvC_dec <;> intro _) | refine EvK_draw (id := 27) (L := [(0, 1), (4, 5), (9, 10), (9, 11), (9, 13), (10, 13), (11, 13), (12, 13), (9, 14), (10, 14), (11, 14), (12, 14), (13, 14), (9, 15), (10, 15), (11, 15), (12, 15), (13, 15)]) (by kernel_rfl) (by kernel_rfl) ?_ | (apply EvH_ndec <;> intro _) | (apply EvH_dec <;> intro _) | (apply EvC_nbool <;> intro _) | (apply EvC_bool <;> intro _) | (apply EvG_nbool <;> intro _) | (apply EvG_bool <;> intro _) | (apply EvH_nbool <;> intro _) | (apply EvH_bool <;> intro _)
              refine EvQ_call ?_ ?_ (by rw [hP, hO]; exact (refNext (fun _ => rfl) _ _ _ _ _ _ _ _ _ _ _ _ _ _ _ _ _ _ _ _ _ _ _ _ _ _ _ _ _ _ _ _ _ _ _ hWh8 (kh8 _ _ hb2) (kh8 _ _ hwb) hwl).wf hWh8) ?_
              · simp (config := { maxSteps := 2000000 }) (disch := first | omega | (repeat first | assumption | exact Kept.refl _ | refine Kept.set' (by assumption) ?_ ?_ | refine Kept.set (by assumption) ?_ ?_ | omega)) only [go_sem, *, Nat.reduceLT, Nat.reduceAdd, Nat.reduceMul, Nat.reduceSub, Nat.reduceEqDiff, Nat.reduceLeDiff, Int.reduceToNat, Int.reduceLT, Int.reduceLE, Int.reduceEq, Int.reduceNe, Int.reduceAdd, Int.reduceSub, Int.reduceMul, Int.reduceNeg, ↓reduceIte, reduceCtorEq]
              · simp (config := { maxSteps := 2000000 }) (disch := first | omega | (repeat first | assumption | exact Kept.refl _ | refine Kept.set' (by assumption) ?_ ?_ | refine Kept.set (by assumption) ?_ ?_ | omega)) only [go_sem, *, Nat.reduceLT, Nat.reduceAdd, Nat.reduceMul, Nat.reduceSub, Nat.reduceEqDiff, Nat.reduceLeDiff, Int.reduceToNat, Int.reduceLT, Int.reduceLE, Int.reduceEq, Int.reduceNe, Int.reduceAdd, Int.reduceSub, Int.reduceMul, Int.reduceNeg, ↓reduceIte, reduceCtorEq]
              rintro v h9 n9 ⟨⟨rfl, hkh9⟩, hnh9, hWh9⟩
              rw [hns _ _ hxx.2.2.2.2]
              have eh9 := hkh9 _ _ eh8
              have kh9 : Kept h5 h9 := kh8.trans hkh9
              clear hkh9
              repeat' first | simp (config := { maxSteps := 2000000 }) (disch := first | omega | (repeat first | assumption | exact Kept.refl _ | refine Kept.set' (by assumption) ?_ ?_ | refine Kept.set (by assumption) ?_ ?_ | omega)) only [go_sem, *, Try.results6, ndec_self, nextV, latchS, latchV, Nat.reduceLT, Nat.reduceAdd, Nat.reduceMul, Nat.reduceSub, Nat.reduceEqDiff, Nat.reduceLeDiff, Int.reduceToNat, Int.reduceLT, Int.reduceLE, Int.reduceEq, Int.reduceNe, Int.reduceAdd, Int.reduceSub, Int.reduceMul, Int.reduceNeg, ↓reduceIte, reduceCtorEq] | (apply EvG_ndec <;> intro _) | (apply EvC_ndec <;> intro _) | (apply EvG_dec <;> intro _) | (apply EvC_dec <;> intro _) | refine EvK_draw (id := 27) (L := [(0, 1), (4, 5), (9, 10), (9, 11), (9, 13), (10, 13), (11, 13), (12, 13), (9, 14), (10, 14), (11, 14), (12, 14), (13, 14), (9, 15), (10, 15), (11, 15), (12, 15), (13, 15)]) (by kernel_rfl) (by kernel_rfl) ?_ | (apply EvH_ndec <;> intro _) | (apply EvH_dec <;> intro _) | (apply EvC_nbool <;> intro _) | (apply EvC_bool <;> intro _) | (apply EvG_nbool <;> intro _) | (apply EvG_bool <;> intro _) | (apply EvH_nbool <;> intro _) | (apply EvH_bool <;> intro _)
              refine EvQ_call ?_ ?_ (by rw [hP, hO]; exact (refLatch (fun _ => rfl) _ _ _ _ _ _ _ _ _ _ _ _ _ _ _ _ _ _ _ _ _ _ _ _ _ _ _ _ _ _ _ _ _ _ hWh9 (kh9 _ _ hb2) (kh9 _ _ hwb) hwl).wf hWh9) ?_
              · simp (config := { maxSteps := 2000000 }) (disch := first | omega | (repeat first | assumption | exact Kept.refl _ | refine Kept.set' (by assumption) ?_ ?_ | refine Kept.set (by assumption) ?_ ?_ | omega)) only [go_sem, *, Nat.reduceLT, Nat.reduceAdd, Nat.reduceMul, Nat.reduceSub, Nat.reduceEqDiff, Nat.reduceLeDiff, Int.reduceToNat, Int.reduceLT, Int.reduceLE, Int.reduceEq, Int.reduceNe, Int.reduceAdd, Int.reduceSub, Int.reduceMul, Int.reduceNeg, ↓reduceIte, reduceCtorEq]
              · simp (config := { maxSteps := 2000000 }) (disch := first | omega | (repeat first | assumption | exact Kept.refl _ | refine Kept.set' (by assumption) ?_ ?_ | refine Kept.set (by assumption) ?_ ?_ | omega)) only [go_sem, *, Nat.reduceLT, Nat.reduceAdd, Nat.reduceMul, Nat.reduceSub, Nat.reduceEqDiff, Nat.reduceLeDiff, Int.reduceToNat, Int.reduceLT, Int.reduceLE, Int.reduceEq, Int.reduceNe, Int.reduceAdd, Int.reduceSub, Int.reduceMul, Int.reduceNeg, ↓reduceIte, reduceCtorEq]
              rintro v h10 n10 ⟨⟨rfl, hkh10⟩, hnh10, hWh10⟩
              rw [hls _ hxx.2.2.2.2]
              have eh10 := hkh10 _ _ eh9
              have kh10 : Kept h5 h10 := kh9.trans hkh10
              clear hkh10
              have hxo := fun h' hk z L f d ops r K m n lo rd wr fs => @EvX_look _ _ _ _ h' ho0 z L f d ops r K m n lo rd wr fs hk
              have hxw := fun h' hk z L f d ops r K m n lo rd wr fs => @EvX_look _ _ _ _ h' hw0 z L f d ops r K m n lo rd wr fs hk
              clear hrl hb2 hH2
              repeat' first | simp (config := { maxSteps := 2000000 }) (disch := first | omega | (repeat first | assumption | exact Kept.refl _ | refine Kept.set' (by assumption) ?_ ?_ | refine Kept.set (by assumption) ?_ ?_ | omega)) only [go_sem, *, Try.results6, ndec_self, latchV, layOfS, refOfS, ne63, Nat.reduceLT, Nat.reduceAdd, Nat.reduceMul, Nat.reduceSub, Nat.reduceEqDiff, Nat.reduceLeDiff, Int.reduceToNat, Int.reduceLT, Int.reduceLE, Int.reduceEq, Int.reduceNe, Int.reduceAdd, Int.reduceSub, Int.reduceMul, Int.reduceNeg, ↓reduceIte, reduceCtorEq] | (apply EvG_ndec <;> intro _) | (apply EvC_ndec <;> intro _) | (apply EvG_dec <;> intro _) | (apply EvC_dec <;> intro _) | refine EvK_draw (id := 27) (L := [(0, 1), (4, 5), (9, 10), (9, 11), (9, 13), (10, 13), (11, 13), (12, 13), (9, 14), (10, 14), (11, 14), (12, 14), (13, 14), (9, 15), (10, 15), (11, 15), (12, 15), (13, 15)]) (by kernel_rfl) (by kernel_rfl) ?_ | (apply EvH_ndec <;> intro _) | (apply EvH_dec <;> intro _) | (apply EvC_nbool <;> intro _) | (apply EvC_bool <;> intro _) | (apply EvG_nbool <;> intro _) | (apply EvG_bool <;> intro _) | (apply EvH_nbool <;> intro _) | (apply EvH_bool <;> intro _)
              refine ih (A.length - (i + 1)) _ _ _ (by omega) ⟨i + 1, by omega, rfl, ?_⟩
              have hci : ((i + 1 : Nat) : Int) = (i : Int) + 1 := by omega
              rw [hci]
              simp (config := { maxSteps := 2000000 }) (disch := first | omega | (repeat first | assumption | exact Kept.refl _ | refine Kept.set' (by assumption) ?_ ?_ | refine Kept.set (by assumption) ?_ ?_ | omega)) only [go_sem, *, Nat.reduceLT, Nat.reduceAdd, Nat.reduceMul, Nat.reduceSub, Nat.reduceEqDiff, Nat.reduceLeDiff, Int.reduceToNat, Int.reduceLT, Int.reduceLE, Int.reduceEq, Int.reduceNe, Int.reduceAdd, Int.reduceSub, Int.reduceMul, Int.reduceNeg, ↓reduceIte, reduceCtorEq]
              omega
            · have e7 : ¬ (i : Int) < A.length := by omega
              clear hask hx hwb ih
              repeat' first | simp (config := { maxSteps := 2000000 }) (disch := first | omega | (repeat first | assumption | exact Kept.refl _ | refine Kept.set' (by assumption) ?_ ?_ | refine Kept.set (by assumption) ?_ ?_ | omega)) only [go_sem, *, Try.results6, Nat.reduceLT, Nat.reduceAdd, Nat.reduceMul, Nat.reduceSub, Nat.reduceEqDiff, Nat.reduceLeDiff, Int.reduceToNat, Int.reduceLT, Int.reduceLE, Int.reduceEq, Int.reduceNe, Int.reduceAdd, Int.reduceSub, Int.reduceMul, Int.reduceNeg, ↓reduceIte, reduceCtorEq] | (apply EvG_ndec <;> intro _) | (apply EvC_ndec <;> intro _) | (apply EvG_dec <;> intro _) | (apply EvC_dec <;> intro _) | refine EvK_draw (id := 27) (L := [(0, 1), (4, 5), (9, 10), (9, 11), (9, 13), (10, 13), (11, 13), (12, 13), (9, 14), (10, 14), (11, 14), (12, 14), (13, 14), (9, 15), (10, 15), (11, 15), (12, 15), (13, 15)]) (by kernel_rfl) (by kernel_rfl) ?_ | (apply EvH_ndec <;> intro _) | (apply EvH_dec <;> intro _) | (apply EvC_nbool <;> intro _) | (apply EvC_bool <;> intro _) | (apply EvG_nbool <;> intro _) | (apply EvG_bool <;> intro _) | (apply EvH_nbool <;> intro _) | (apply EvH_bool <;> intro _)
end Go.Proofs.Ytakfjoelpploeaa
