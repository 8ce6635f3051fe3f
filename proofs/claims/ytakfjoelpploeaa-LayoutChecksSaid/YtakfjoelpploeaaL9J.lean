/-
  A part of the proof of the laws of layer 9: contracts of inner functions.
-/
import Derived.Test.YtakfjoelpploeaaL9P4
import Derived.Test.YtakfjoelpploeaaAmY3
import Derived.Test.YtakfjoelpploeaaL9S4
import Derived.Test.YtakfjoelpploeaaAmY7
import Derived.Test.YtakfjoelpploeaaL9C
import Derived.Test.YtakfjoelpploeaaL9P5
import Derived.Test.YtakfjoelpploeaaL9Q1
import Derived.Test.YtakfjoelpploeaaL9S5
set_option linter.unusedVariables false
set_option linter.unusedSimpArgs false
namespace Go.Proofs.Ytakfjoelpploeaa
open Go.Am
variable {O : Over}

theorem take_eq_succ {xs ys : List Int} {i : Nat} (h1 : i < xs.length) (h2 : i < ys.length) (h : xs.take i = ys.take i) (e : xs.getD i 0 = ys.getD i 0) : xs.take (i + 1) = ys.take (i + 1) := by
  rw [List.take_add_one, List.take_add_one, h]
  simp [List.getD, h1, h2] at e
  simp [h1, h2, e]
theorem fresh_no (n a : Nat) : (n.ble a && a.blt n) = false := by
  cases h : n.ble a
  · rfl
  · have := Nat.le_of_ble_eq_true h
    cases h2 : a.blt n
    · rfl
    · have := Nat.le_of_ble_eq_true h2
      omega
theorem getD_ne {xs ys : List Int} {i : Nat} (e : ¬ xs.getD i 0 = ys.getD i 0) : ¬ xs = ys := fun h => e (by rw [h])

set_option maxRecDepth 100000 in
set_option maxHeartbeats 4000000 in
theorem equalUints (xs ys : List Int) (s t : Value) (h : PT ABlk) (n : Nat) (hs : IsInts .u64 h s xs) (ht : IsInts .u64 h t ys) (hl : xs.length < 1000000) (hl2 : ys.length < 1000000) :
    EvB Try.prog O 23 [s, t] h n fun v h' n' => v = .bool (decide (xs = ys)) ∧ h' = h ∧ n' = n := by
  obtain ⟨a, cap, rfl, hA⟩ := hs.len
  obtain ⟨b, cap2, rfl, hB⟩ := ht.len
  clear hs ht
  refine EvB_run (N := 26) Try.func23 rfl rfl ?_
  intro z hP hO hro hN hQ
  by_cases hlen : xs.length = ys.length
  · have hle1 : (xs.length : Int) = ys.length := by omega
    repeat' first | simp (config := { maxSteps := 2000000 }) (disch := first | omega | (repeat first | assumption | exact Kept.refl _ | refine Kept.set' (by assumption) ?_ ?_ | refine Kept.set (by assumption) ?_ ?_ | omega)) only [go_sem, *, Try.results23, Nat.reduceLT, Nat.reduceAdd, Nat.reduceMul, Nat.reduceSub, Nat.reduceEqDiff, Nat.reduceLeDiff, Int.reduceToNat, Int.reduceLT, Int.reduceLE, Int.reduceEq, Int.reduceNe, Int.reduceAdd, Int.reduceSub, Int.reduceMul, Int.reduceNeg, ↓reduceIte, reduceCtorEq] | (apply EvG_ndec <;> intro _) | (apply EvC_ndec <;> intro _) | (apply EvG_dec <;> intro _) | (apply EvC_dec <;> intro _) | refine EvK_draw (id := 6) (L := [(0, 1), (0, 4), (1, 4), (2, 4), (3, 4), (0, 5), (1, 5), (2, 5), (3, 5), (4, 5), (0, 6), (1, 6), (2, 6), (3, 6), (0, 7), (1, 7), (2, 7), (3, 7)]) (by kernel_rfl) (by kernel_rfl) ?_ | (apply EvH_ndec <;> intro _) | (apply EvH_dec <;> intro _) | (apply EvC_nbool <;> intro _) | (apply EvC_bool <;> intro _) | (apply EvG_nbool <;> intro _) | (apply EvG_bool <;> intro _) | (apply EvH_nbool <;> intro _) | (apply EvH_bool <;> intro _)
    refine ind_loop (fun t m h' n' => h' = h ∧ n' = n ∧ ∃ i : Nat, i ≤ xs.length ∧ t = xs.length - i ∧ xs.take i = ys.take i ∧ m.n = 26 ∧ m.dfs = [] ∧ m.get 0 = .slice a xs.length cap ∧ m.get 1 = .slice b ys.length cap2 ∧ m.get 5 = .int .i64 i) xs.length ?_ ?_
    · refine ⟨rfl, rfl, 0, by omega, by omega, rfl, ?_⟩
      simp (config := { maxSteps := 2000000 }) (disch := first | omega | (repeat first | assumption | exact Kept.refl _ | refine Kept.set' (by assumption) ?_ ?_ | refine Kept.set (by assumption) ?_ ?_ | omega)) only [go_sem, *, Nat.reduceLT, Nat.reduceAdd, Nat.reduceMul, Nat.reduceSub, Nat.reduceEqDiff, Nat.reduceLeDiff, Int.reduceToNat, Int.reduceLT, Int.reduceLE, Int.reduceEq, Int.reduceNe, Int.reduceAdd, Int.reduceSub, Int.reduceMul, Int.reduceNeg, ↓reduceIte, reduceCtorEq]
    · rintro t m h n ih ⟨rfl, rfl, i, hi, rfl, htk, m1, m2, m3, m4, m5⟩
      rcases Nat.lt_or_ge i xs.length with hlt | hge
      · obtain ⟨bk, off, sp, L, ro, rfl, hb, hL⟩ := hA i hlt
        obtain ⟨bk2, off2, sp2, L2, ro2, rfl, hb2, hL2⟩ := hB i (by omega)
        have e1 : (i : Int) < xs.length := by omega
        have e2 : (i : Int) < ys.length := by omega
        clear hA hB
        by_cases e3 : xs.getD i 0 = ys.getD i 0
        · rw [e3] at hL
          have htk' := take_eq_succ hlt (by omega) htk e3
          repeat' first | simp (config := { maxSteps := 2000000 }) (disch := first | omega | (repeat first | assumption | exact Kept.refl _ | refine Kept.set' (by assumption) ?_ ?_ | refine Kept.set (by assumption) ?_ ?_ | omega)) only [go_sem, *, Try.results23, fresh_no, Nat.reduceLT, Nat.reduceAdd, Nat.reduceMul, Nat.reduceSub, Nat.reduceEqDiff, Nat.reduceLeDiff, Int.reduceToNat, Int.reduceLT, Int.reduceLE, Int.reduceEq, Int.reduceNe, Int.reduceAdd, Int.reduceSub, Int.reduceMul, Int.reduceNeg, ↓reduceIte, reduceCtorEq] | (apply EvG_ndec <;> intro _) | (apply EvC_ndec <;> intro _) | (apply EvG_dec <;> intro _) | (apply EvC_dec <;> intro _) | refine EvK_draw (id := 6) (L := [(0, 1), (0, 4), (1, 4), (2, 4), (3, 4), (0, 5), (1, 5), (2, 5), (3, 5), (4, 5), (0, 6), (1, 6), (2, 6), (3, 6), (0, 7), (1, 7), (2, 7), (3, 7)]) (by kernel_rfl) (by kernel_rfl) ?_ | (apply EvH_ndec <;> intro _) | (apply EvH_dec <;> intro _) | (apply EvC_nbool <;> intro _) | (apply EvC_bool <;> intro _) | (apply EvG_nbool <;> intro _) | (apply EvG_bool <;> intro _) | (apply EvH_nbool <;> intro _) | (apply EvH_bool <;> intro _)
          refine ih (xs.length - (i + 1)) _ _ _ (by omega) ⟨rfl, rfl, i + 1, by omega, by omega, htk', ?_⟩
          simp (config := { maxSteps := 2000000 }) (disch := first | omega | (repeat first | assumption | exact Kept.refl _ | refine Kept.set' (by assumption) ?_ ?_ | refine Kept.set (by assumption) ?_ ?_ | omega)) only [go_sem, *, Nat.reduceLT, Nat.reduceAdd, Nat.reduceMul, Nat.reduceSub, Nat.reduceEqDiff, Nat.reduceLeDiff, Int.reduceToNat, Int.reduceLT, Int.reduceLE, Int.reduceEq, Int.reduceNe, Int.reduceAdd, Int.reduceSub, Int.reduceMul, Int.reduceNeg, ↓reduceIte, reduceCtorEq]
          simp
        · have hxy := getD_ne e3
          repeat' first | simp (config := { maxSteps := 2000000 }) (disch := first | omega | (repeat first | assumption | exact Kept.refl _ | refine Kept.set' (by assumption) ?_ ?_ | refine Kept.set (by assumption) ?_ ?_ | omega)) only [go_sem, *, Try.results23, fresh_no, Nat.reduceLT, Nat.reduceAdd, Nat.reduceMul, Nat.reduceSub, Nat.reduceEqDiff, Nat.reduceLeDiff, Int.reduceToNat, Int.reduceLT, Int.reduceLE, Int.reduceEq, Int.reduceNe, Int.reduceAdd, Int.reduceSub, Int.reduceMul, Int.reduceNeg, ↓reduceIte, reduceCtorEq] | (apply EvG_ndec <;> intro _) | (apply EvC_ndec <;> intro _) | (apply EvG_dec <;> intro _) | (apply EvC_dec <;> intro _) | refine EvK_draw (id := 6) (L := [(0, 1), (0, 4), (1, 4), (2, 4), (3, 4), (0, 5), (1, 5), (2, 5), (3, 5), (4, 5), (0, 6), (1, 6), (2, 6), (3, 6), (0, 7), (1, 7), (2, 7), (3, 7)]) (by kernel_rfl) (by kernel_rfl) ?_ | (apply EvH_ndec <;> intro _) | (apply EvH_dec <;> intro _) | (apply EvC_nbool <;> intro _) | (apply EvC_bool <;> intro _) | (apply EvG_nbool <;> intro _) | (apply EvG_bool <;> intro _) | (apply EvH_nbool <;> intro _) | (apply EvH_bool <;> intro _)
      · have e1 : ¬ (i : Int) < xs.length := by omega
        have e2 : ¬ (i : Int) < ys.length := by omega
        have hxy : xs = ys := by
          have := htk
          rwa [List.take_of_length_le hge, List.take_of_length_le (by omega)] at this
        repeat' first | simp (config := { maxSteps := 2000000 }) (disch := first | omega | (repeat first | assumption | exact Kept.refl _ | refine Kept.set' (by assumption) ?_ ?_ | refine Kept.set (by assumption) ?_ ?_ | omega)) only [go_sem, *, Try.results23, Nat.reduceLT, Nat.reduceAdd, Nat.reduceMul, Nat.reduceSub, Nat.reduceEqDiff, Nat.reduceLeDiff, Int.reduceToNat, Int.reduceLT, Int.reduceLE, Int.reduceEq, Int.reduceNe, Int.reduceAdd, Int.reduceSub, Int.reduceMul, Int.reduceNeg, ↓reduceIte, reduceCtorEq] | (apply EvG_ndec <;> intro _) | (apply EvC_ndec <;> intro _) | (apply EvG_dec <;> intro _) | (apply EvC_dec <;> intro _) | refine EvK_draw (id := 6) (L := [(0, 1), (0, 4), (1, 4), (2, 4), (3, 4), (0, 5), (1, 5), (2, 5), (3, 5), (4, 5), (0, 6), (1, 6), (2, 6), (3, 6), (0, 7), (1, 7), (2, 7), (3, 7)]) (by kernel_rfl) (by kernel_rfl) ?_ | (apply EvH_ndec <;> intro _) | (apply EvH_dec <;> intro _) | (apply EvC_nbool <;> intro _) | (apply EvC_bool <;> intro _) | (apply EvG_nbool <;> intro _) | (apply EvG_bool <;> intro _) | (apply EvH_nbool <;> intro _) | (apply EvH_bool <;> intro _)
  · have hle1 : ¬ (xs.length : Int) = ys.length := by omega
    have hxy : ¬ xs = ys := fun e => hlen (by rw [e])
    repeat' first | simp (config := { maxSteps := 2000000 }) (disch := first | omega | (repeat first | assumption | exact Kept.refl _ | refine Kept.set' (by assumption) ?_ ?_ | refine Kept.set (by assumption) ?_ ?_ | omega)) only [go_sem, *, Try.results23, Nat.reduceLT, Nat.reduceAdd, Nat.reduceMul, Nat.reduceSub, Nat.reduceEqDiff, Nat.reduceLeDiff, Int.reduceToNat, Int.reduceLT, Int.reduceLE, Int.reduceEq, Int.reduceNe, Int.reduceAdd, Int.reduceSub, Int.reduceMul, Int.reduceNeg, ↓reduceIte, reduceCtorEq] | (apply EvG_ndec <;> intro _) | (apply EvC_ndec <;> intro _) | (apply EvG_dec <;> intro _) | (apply EvC_dec <;> intro _) | refine EvK_draw (id := 6) (L := [(0, 1), (0, 4), (1, 4), (2, 4), (3, 4), (0, 5), (1, 5), (2, 5), (3, 5), (4, 5), (0, 6), (1, 6), (2, 6), (3, 6), (0, 7), (1, 7), (2, 7), (3, 7)]) (by kernel_rfl) (by kernel_rfl) ?_ | (apply EvH_ndec <;> intro _) | (apply EvH_dec <;> intro _) | (apply EvC_nbool <;> intro _) | (apply EvC_bool <;> intro _) | (apply EvG_nbool <;> intro _) | (apply EvG_bool <;> intro _) | (apply EvH_nbool <;> intro _) | (apply EvH_bool <;> intro _)
end Go.Proofs.Ytakfjoelpploeaa

set_option linter.unusedVariables false
set_option linter.unusedSimpArgs false
namespace Go.Proofs.Ytakfjoelpploeaa
open Go.Am
variable {O : Over}

def shortL (xs ys : List Int) : Bool := decide (xs.length < 1000000) && decide (ys.length < 1000000)
theorem of_shortL {xs ys : List Int} (h : shortL xs ys = true) : xs.length < 1000000 ∧ ys.length < 1000000 := by simpa [shortL] using h

def eqUintsS : List Value → Option (AP Value)
  | [s, t] => some ((rdInts .u64 s).bind fun xs => (rdInts .u64 t).bind fun ys => cond (shortL xs ys) (.pure (.bool (decide (xs = ys)))) (.fail ""))
  | _ => none
theorem eqUintsF : SoundF Try.prog 23 eqUintsS := by
  refine soundF_query (tab_sound .nil) orders ?_
  intro args m hm
  unfold eqUintsS at hm
  split at hm
  · rename_i s t
    simp only [Option.some.injEq] at hm
    subst hm
    refine ⟨fun h v => ∃ xs ys, IsInts .u64 h s xs ∧ IsInts .u64 h t ys ∧ shortL xs ys = true ∧ v = .bool (decide (xs = ys)), fun h n v s' hR e => ?_, fun h N v hlt hv => ?_⟩
    · obtain ⟨xs, hx, e⟩ := run_ints hR e
      obtain ⟨ys, hy, e⟩ := run_ints hR e
      obtain ⟨hl, e⟩ := run_cond e
      obtain ⟨h1, rfl⟩ := run_pure e
      exact ⟨h1, .bool _, xs, ys, hx, hy, hl, rfl⟩
    · obtain ⟨xs, ys, hx, hy, hl, rfl⟩ := hv
      exact (equalUints xs ys s t h N hx hy (of_shortL hl).1 (of_shortL hl).2).mono fun v h2 n2 ⟨e1, e2, _⟩ => ⟨e1, fun i _ => by rw [e2]⟩
  · simp at hm

abbrev OrU : Over := tabO [(23, eqUintsS)]
theorem OrUok : SoundO Try.prog OrU := tab_sound (.cons eqUintsF .nil)

def eqDomS : List Value → Option (AP Value)
  | [.agg ⟨[.int .u8 kd, .int .i64 dn, s]⟩, .agg ⟨[.int .u8 kd2, .int .i64 dn2, t]⟩] => some ((rdInts .u64 s).bind fun xs => (rdInts .u64 t).bind fun ys => cond (shortL xs ys) (.pure (.bool (decide (kd = kd2 ∧ dn = dn2 ∧ xs = ys)))) (.fail ""))
  | _ => none
set_option maxRecDepth 100000 in
set_option maxHeartbeats 4000000 in
theorem eqDomF : SoundF Try.prog 52 eqDomS := by
  refine soundF_query OrUok orders ?_
  intro args m hm
  unfold eqDomS at hm
  split at hm
  · rename_i kd dn s kd2 dn2 t
    simp only [Option.some.injEq] at hm
    subst hm
    refine ⟨fun h v => ∃ xs ys, IsInts .u64 h s xs ∧ IsInts .u64 h t ys ∧ shortL xs ys = true ∧ v = .bool (decide (kd = kd2 ∧ dn = dn2 ∧ xs = ys)), fun h n v s' hR e => ?_, fun h N v hlt hv => ?_⟩
    · obtain ⟨xs, hx, e⟩ := run_ints hR e
      obtain ⟨ys, hy, e⟩ := run_ints hR e
      obtain ⟨hl, e⟩ := run_cond e
      obtain ⟨h1, rfl⟩ := run_pure e
      exact ⟨h1, .bool _, xs, ys, hx, hy, hl, rfl⟩
    · obtain ⟨xs, ys, hx, hy, hl, rfl⟩ := hv
      have hrd := fun h' hk z f d ops r K m n => @EvV_ints _ _ h' _ _ hx z f d ops r K m n hk
      have hrd2 := fun h' hk z f d ops r K m n => @EvV_ints _ _ h' _ _ hy z f d ops r K m n hk
      obtain ⟨a, cap, rfl, -⟩ := hx.len
      obtain ⟨b, cap2, rfl, -⟩ := hy.len
      refine EvB_run (N := 24) Try.func52 rfl rfl ?_
      intro z hP hO hro hN hQ
      repeat' first | simp (config := { maxSteps := 2000000 }) (disch := first | omega | (repeat first | assumption | exact Kept.refl _ | refine Kept.set' (by assumption) ?_ ?_ | refine Kept.set (by assumption) ?_ ?_ | omega)) only [go_sem, *, Try.results52, eqUintsS, Nat.reduceLT, Nat.reduceAdd, Nat.reduceMul, Nat.reduceSub, Nat.reduceEqDiff, Nat.reduceLeDiff, Int.reduceToNat, Int.reduceLT, Int.reduceLE, Int.reduceEq, Int.reduceNe, Int.reduceAdd, Int.reduceSub, Int.reduceMul, Int.reduceNeg, ↓reduceIte, reduceCtorEq] | (apply EvG_ndec <;> intro _) | (apply EvC_ndec <;> intro _) | (apply EvG_dec <;> intro _) | (apply EvC_dec <;> intro _) | refine EvK_draw (by cbv) (by first | rfl | cbv) ?_ | (apply EvH_ndec <;> intro _) | (apply EvH_dec <;> intro _) | (apply EvC_nbool <;> intro _) | (apply EvC_bool <;> intro _) | (apply EvG_nbool <;> intro _) | (apply EvG_bool <;> intro _) | (apply EvH_nbool <;> intro _) | (apply EvH_bool <;> intro _)
      all_goals exact fun i hi => by simp (disch := omega) only [heap_ne]
  · simp at hm

theorem guardE29 : Try.prog.eqGuardType Try.prog.depth 29 = false := by kernel_rfl
theorem towsEq (a0 a1 a2 a3 a4 a5 b0 b1 b2 b3 b4 b5 : Int) (cx cy : Bool) : binV Try.prog .eql 29 cx cy (.agg ⟨[.int .i64 a0, .int .i64 a1, .int .i64 a2, .int .i64 a3, .int .i64 a4, .int .i64 a5]⟩) (.agg ⟨[.int .i64 b0, .int .i64 b1, .int .i64 b2, .int .i64 b3, .int .i64 b4, .int .i64 b5]⟩) = .pure (.value (.bool (decide ([a0, a1, a2, a3, a4, a5] = [b0, b1, b2, b3, b4, b5])))) :=
  binV_eql_ints (xs := [a0, a1, a2, a3, a4, a5]) (ys := [b0, b1, b2, b3, b4, b5]) Try.underlying29 Try.underlying3 rfl rfl guardE29 rfl rfl

abbrev OrE : Over := tabO [(52, eqDomS)]
theorem OrEok : SoundO Try.prog OrE := tab_sound (.cons eqDomF .nil)

def eqCfgS : List Value → Option (AP Value)
  | [.agg ⟨[.int .i64 th, .int .i64 sl, .int .u8 en, .int .i64 bu, .int .u8 kd, .int .i64 dn, s, .int .i64 t0, .int .i64 t1, .int .i64 t2, .int .i64 t3, .int .i64 t4, .int .i64 t5, .int .i64 lo, .int .i64 tr, .int .i64 ba]⟩, .agg ⟨[.int .i64 th', .int .i64 sl', .int .u8 en', .int .i64 bu', .int .u8 kd', .int .i64 dn', t, .int .i64 t0', .int .i64 t1', .int .i64 t2', .int .i64 t3', .int .i64 t4', .int .i64 t5', .int .i64 lo', .int .i64 tr', .int .i64 ba']⟩] =>
    some ((rdInts .u64 s).bind fun xs => (rdInts .u64 t).bind fun ys => cond (shortL xs ys) (.pure (.bool (decide (th = th' ∧ sl = sl' ∧ en = en' ∧ bu = bu' ∧ (kd = kd' ∧ dn = dn' ∧ xs = ys) ∧ [t0, t1, t2, t3, t4, t5] = [t0', t1', t2', t3', t4', t5'] ∧ lo = lo' ∧ tr = tr' ∧ ba = ba')))) (.fail ""))
  | _ => none
set_option maxRecDepth 100000 in
set_option maxHeartbeats 40000000 in
theorem eqCfgF : SoundF Try.prog 19 eqCfgS := by
  refine soundF_query OrEok orders ?_
  intro args m hm
  unfold eqCfgS at hm
  split at hm
  · rename_i th sl en bu kd dn s t0 t1 t2 t3 t4 t5 lo tr ba th' sl' en' bu' kd' dn' t t0' t1' t2' t3' t4' t5' lo' tr' ba'
    simp only [Option.some.injEq] at hm
    subst hm
    refine ⟨fun h v => ∃ xs ys, IsInts .u64 h s xs ∧ IsInts .u64 h t ys ∧ shortL xs ys = true ∧ v = .bool (decide (th = th' ∧ sl = sl' ∧ en = en' ∧ bu = bu' ∧ (kd = kd' ∧ dn = dn' ∧ xs = ys) ∧ [t0, t1, t2, t3, t4, t5] = [t0', t1', t2', t3', t4', t5'] ∧ lo = lo' ∧ tr = tr' ∧ ba = ba')), fun h n v s' hR e => ?_, fun h N v hlt hv => ?_⟩
    · obtain ⟨xs, hx, e⟩ := run_ints hR e
      obtain ⟨ys, hy, e⟩ := run_ints hR e
      obtain ⟨hl, e⟩ := run_cond e
      obtain ⟨h1, rfl⟩ := run_pure e
      exact ⟨h1, .bool _, xs, ys, hx, hy, hl, rfl⟩
    · obtain ⟨xs, ys, hx, hy, hl, rfl⟩ := hv
      have hrd := fun h' hk z f d ops r K m n => @EvV_ints _ _ h' _ _ hx z f d ops r K m n hk
      have hrd2 := fun h' hk z f d ops r K m n => @EvV_ints _ _ h' _ _ hy z f d ops r K m n hk
      obtain ⟨a, cap, rfl, -⟩ := hx.len
      obtain ⟨b, cap2, rfl, -⟩ := hy.len
      refine EvB_run (N := 66) Try.func19 rfl rfl ?_
      intro z hP hO hro hN hQ
      repeat' first | simp (config := { maxSteps := 2000000 }) (disch := first | omega | (repeat first | assumption | exact Kept.refl _ | refine Kept.set' (by assumption) ?_ ?_ | refine Kept.set (by assumption) ?_ ?_ | omega)) only [go_sem, *, Try.results19, eqDomS, towsEq, Nat.reduceLT, Nat.reduceAdd, Nat.reduceMul, Nat.reduceSub, Nat.reduceEqDiff, Nat.reduceLeDiff, Int.reduceToNat, Int.reduceLT, Int.reduceLE, Int.reduceEq, Int.reduceNe, Int.reduceAdd, Int.reduceSub, Int.reduceMul, Int.reduceNeg, ↓reduceIte, reduceCtorEq] | (apply EvG_ndec <;> intro _) | (apply EvC_ndec <;> intro _) | (apply EvG_dec <;> intro _) | (apply EvC_dec <;> intro _) | refine EvK_draw (by cbv) (by first | rfl | cbv) ?_ | (apply EvH_ndec <;> intro _) | (apply EvH_dec <;> intro _) | (apply EvC_nbool <;> intro _) | (apply EvC_bool <;> intro _) | (apply EvG_nbool <;> intro _) | (apply EvG_bool <;> intro _) | (apply EvH_nbool <;> intro _) | (apply EvH_bool <;> intro _)
      all_goals exact fun i hi => by simp (disch := omega) only [heap_ne]
  · simp at hm
end Go.Proofs.Ytakfjoelpploeaa

set_option linter.unusedVariables false
set_option linter.unusedSimpArgs false
namespace Go.Proofs.Ytakfjoelpploeaa
open Go.Am

def capOf (n : Nat) : Nat := if n = 0 then 0 else capInf + 1
@[go_sem] theorem capOf_zero : capOf 0 = 0 := rfl
theorem capOf_pos {n : Nat} (h : ¬ n = 0) : capOf n = capInf + 1 := if_neg h

/-- Clone, exactly. -/
theorem cloneX {O : Over} (s : Value) (xs : List Int) (h : PT ABlk) (N : Nat) (hW : WfH h N) (hs : IsInts .u64 h s xs) (hl : xs.length < 1000000) :
    EvB Try.prog O 43 [s] h N fun v h' n' => (s = .slice none 0 0 ∧ v = .slice none 0 0 ∧ Kept h h') ∨ (s ≠ .slice none 0 0 ∧ ∃ g, N ≤ g ∧ g < n' ∧ v = .slice (some ⟨g, 0, none⟩) xs.length (capOf xs.length) ∧ Kept h h' ∧ h'.get g = some (.cells (PT.ofList .leaf 0 (xs.map (.int .u64))) false)) := by
  rcases hs.shapes with ⟨rfl, rfl⟩ | ⟨b, off, sp, cap, L, ro, rfl, rfl, hb⟩ | ⟨b, off, sp, cap, L, ro, rfl, hb, hB, hT⟩
  · refine EvB_run (N := 8) Try.func43 rfl rfl ?_
    intro z hP hO hro hN hQ
    repeat' first | simp (config := { maxSteps := 2000000 }) (disch := first | omega | (repeat first | assumption | exact Kept.refl _ | refine Kept.set' (by assumption) ?_ ?_ | refine Kept.set (by assumption) ?_ ?_ | omega)) only [go_sem, *, Try.results43, Nat.reduceLT, Nat.reduceAdd, Nat.reduceMul, Nat.reduceSub, Nat.reduceEqDiff, Nat.reduceLeDiff, Int.reduceToNat, Int.reduceLT, Int.reduceLE, Int.reduceEq, Int.reduceNe, Int.reduceAdd, Int.reduceSub, Int.reduceMul, Int.reduceNeg, ↓reduceIte, reduceCtorEq] | (apply EvG_ndec <;> intro _) | (apply EvC_ndec <;> intro _) | (apply EvG_dec <;> intro _) | (apply EvC_dec <;> intro _) | refine EvK_draw (by cbv) (by first | rfl | cbv) ?_ | (apply EvH_ndec <;> intro _) | (apply EvH_dec <;> intro _) | (apply EvC_nbool <;> intro _) | (apply EvC_bool <;> intro _) | (apply EvG_nbool <;> intro _) | (apply EvG_bool <;> intro _) | (apply EvH_nbool <;> intro _) | (apply EvH_bool <;> intro _)
    exact Kept.refl _
  · have hbN := hW.lt hb
    refine EvB_run (N := 8) Try.func43 rfl rfl ?_
    intro z hP hO hro hN hQ
    repeat' first | simp (config := { maxSteps := 2000000 }) (disch := first | omega | (repeat first | assumption | exact Kept.refl _ | refine Kept.set' (by assumption) ?_ ?_ | refine Kept.set (by assumption) ?_ ?_ | omega)) only [go_sem, *, Try.results43, Nat.reduceLT, Nat.reduceAdd, Nat.reduceMul, Nat.reduceSub, Nat.reduceEqDiff, Nat.reduceLeDiff, Int.reduceToNat, Int.reduceLT, Int.reduceLE, Int.reduceEq, Int.reduceNe, Int.reduceAdd, Int.reduceSub, Int.reduceMul, Int.reduceNeg, ↓reduceIte, reduceCtorEq] | (apply EvG_ndec <;> intro _) | (apply EvC_ndec <;> intro _) | (apply EvG_dec <;> intro _) | (apply EvC_dec <;> intro _) | refine EvK_draw (by cbv) (by first | rfl | cbv) ?_ | (apply EvH_ndec <;> intro _) | (apply EvH_dec <;> intro _) | (apply EvC_nbool <;> intro _) | (apply EvC_bool <;> intro _) | (apply EvG_nbool <;> intro _) | (apply EvG_bool <;> intro _) | (apply EvH_nbool <;> intro _) | (apply EvH_bool <;> intro _)
    all_goals refine .inr ⟨by simp, N, Nat.le_refl _, by omega, rfl, hW.kept (Nat.le_refl _), ?_⟩
    all_goals simp (disch := omega) only [go_sem, List.map_nil]
  · have hbN := hW.lt hb
    by_cases hx : xs.length = 0
    · obtain rfl : xs = [] := List.eq_nil_of_length_eq_zero hx
      refine EvB_run (N := 8) Try.func43 rfl rfl ?_
      intro z hP hO hro hN hQ
      repeat' first | simp (config := { maxSteps := 2000000 }) (disch := first | omega | (repeat first | assumption | exact Kept.refl _ | refine Kept.set' (by assumption) ?_ ?_ | refine Kept.set (by assumption) ?_ ?_ | omega)) only [go_sem, *, Try.results43, Nat.reduceLT, Nat.reduceAdd, Nat.reduceMul, Nat.reduceSub, Nat.reduceEqDiff, Nat.reduceLeDiff, Int.reduceToNat, Int.reduceLT, Int.reduceLE, Int.reduceEq, Int.reduceNe, Int.reduceAdd, Int.reduceSub, Int.reduceMul, Int.reduceNeg, ↓reduceIte, reduceCtorEq] | (apply EvG_ndec <;> intro _) | (apply EvC_ndec <;> intro _) | (apply EvG_dec <;> intro _) | (apply EvC_dec <;> intro _) | refine EvK_draw (by cbv) (by first | rfl | cbv) ?_ | (apply EvH_ndec <;> intro _) | (apply EvH_dec <;> intro _) | (apply EvC_nbool <;> intro _) | (apply EvC_bool <;> intro _) | (apply EvG_nbool <;> intro _) | (apply EvG_bool <;> intro _) | (apply EvH_nbool <;> intro _) | (apply EvH_bool <;> intro _)
      all_goals refine .inr ⟨by simp, N, Nat.le_refl _, by omega, rfl, hW.kept (Nat.le_refl _), ?_⟩
      all_goals simp (disch := omega) only [go_sem, List.map_nil]
    · refine EvB_run (N := 8) Try.func43 rfl rfl ?_
      intro z hP hO hro hN hQ
      repeat' first | simp (config := { maxSteps := 2000000 }) (disch := first | omega | (repeat first | assumption | exact Kept.refl _ | refine Kept.set' (by assumption) ?_ ?_ | refine Kept.set (by assumption) ?_ ?_ | omega)) only [go_sem, *, Try.results43, Nat.reduceLT, Nat.reduceAdd, Nat.reduceMul, Nat.reduceSub, Nat.reduceEqDiff, Nat.reduceLeDiff, Int.reduceToNat, Int.reduceLT, Int.reduceLE, Int.reduceEq, Int.reduceNe, Int.reduceAdd, Int.reduceSub, Int.reduceMul, Int.reduceNeg, ↓reduceIte, reduceCtorEq] | (apply EvG_ndec <;> intro _) | (apply EvC_ndec <;> intro _) | (apply EvG_dec <;> intro _) | (apply EvC_dec <;> intro _) | refine EvK_draw (by cbv) (by first | rfl | cbv) ?_ | (apply EvH_ndec <;> intro _) | (apply EvH_dec <;> intro _) | (apply EvC_nbool <;> intro _) | (apply EvC_bool <;> intro _) | (apply EvG_nbool <;> intro _) | (apply EvG_bool <;> intro _) | (apply EvH_nbool <;> intro _) | (apply EvH_bool <;> intro _)
      all_goals refine .inr ⟨by simp, N + 1, by omega, by omega, by rw [capOf_pos hx], (hW.kept (Nat.le_refl _)).set' hW (by omega), ?_⟩
      all_goals simp (disch := omega) only [go_sem]

theorem cfgRen {I : Nat → Nat → Prop} {Old : Value → Prop} {s s' : Value} {a1 a2 a3 a4 a5 a6 b1 b2 b3 b4 b5 b6 b7 b8 b9 : Int} (hs : VRen I Old s s') : VRens I Old [.int .i64 a1, .int .i64 a2, .int .u8 a3, .int .i64 a4, .int .u8 a5, .int .i64 a6, s, .int .i64 b1, .int .i64 b2, .int .i64 b3, .int .i64 b4, .int .i64 b5, .int .i64 b6, .int .i64 b7, .int .i64 b8, .int .i64 b9] [.int .i64 a1, .int .i64 a2, .int .u8 a3, .int .i64 a4, .int .u8 a5, .int .i64 a6, s', .int .i64 b1, .int .i64 b2, .int .i64 b3, .int .i64 b4, .int .i64 b5, .int .i64 b6, .int .i64 b7, .int .i64 b8, .int .i64 b9] :=
  .cons _ _ _ _ (.int _ _) (.cons _ _ _ _ (.int _ _) (.cons _ _ _ _ (.int _ _) (.cons _ _ _ _ (.int _ _) (.cons _ _ _ _ (.int _ _) (.cons _ _ _ _ (.int _ _) (.cons _ _ _ _ hs (.cons _ _ _ _ (.int _ _) (.cons _ _ _ _ (.int _ _) (.cons _ _ _ _ (.int _ _) (.cons _ _ _ _ (.int _ _) (.cons _ _ _ _ (.int _ _) (.cons _ _ _ _ (.int _ _) (.cons _ _ _ _ (.int _ _) (.cons _ _ _ _ (.int _ _) (.cons _ _ _ _ (.int _ _) .nil)))))))))))))))

/-- Config: the row's first sixteen cells, the cuts copied. -/
noncomputable def configS : List Value → Option (AP Value)
  | [.pointer (some ⟨lb, 0, none⟩)] => some <| AP.row lb fun (S : List Value) _ => match S.take 16 with
    | [.int .i64 th, .int .i64 sl, .int .u8 en, .int .i64 bu, .int .u8 kd, .int .i64 dn, s, .int .i64 t0, .int .i64 t1, .int .i64 t2, .int .i64 t3, .int .i64 t4, .int .i64 t5, .int .i64 lo, .int .i64 tr, .int .i64 ba] => match s with
      | .slice none 0 0 => .pure (.agg ⟨[.int .i64 th, .int .i64 sl, .int .u8 en, .int .i64 bu, .int .u8 kd, .int .i64 dn, .slice none 0 0, .int .i64 t0, .int .i64 t1, .int .i64 t2, .int .i64 t3, .int .i64 t4, .int .i64 t5, .int .i64 lo, .int .i64 tr, .int .i64 ba]⟩)
      | .slice (some ⟨b, off, sp⟩) len cap => AP.row b fun (L : List Value) _ => cond ((Nat.ble (off + len) L.length || Nat.beq len 0) && Nat.ble len 100000) (match decInts .u64 ((L.drop off).take len) with
        | some xs => .newRow (xs.map (.int .u64)) fun g => .pure (.agg ⟨[.int .i64 th, .int .i64 sl, .int .u8 en, .int .i64 bu, .int .u8 kd, .int .i64 dn, .slice (some ⟨g, 0, none⟩) len (capOf len), .int .i64 t0, .int .i64 t1, .int .i64 t2, .int .i64 t3, .int .i64 t4, .int .i64 t5, .int .i64 lo, .int .i64 tr, .int .i64 ba]⟩)
        | none => .fail "") (.fail "")
      | _ => .fail ""
    | _ => .fail ""
  | _ => none

set_option maxRecDepth 100000 in
set_option maxHeartbeats 4000000 in
theorem configF : SoundF Try.prog 18 configS := by
  refine soundF (tab_sound .nil) orders ?_
  intro args m hm h n N Old OldId v h1 n1 hr hold hid hN
  unfold configS at hm
  split at hm
  · rename_i lb
    simp only [Option.some.injEq] at hm
    subst hm
    replace hr := run_row hr
    obtain ⟨S, aro, hS, hr⟩ := hr
    split at hr
    · rename_i th sl en bu kd dn s t0 t1 t2 t3 t4 t5 lo tr ba hcf
      have hlt : ∀ i B, h.get i = some B → i < N := fun i B e => (hid i (hold.id i B e)).1
      have hW := WfH.of_lt hlt
      have hlb := hlt _ _ hS
      have hSl : Nat.ble 16 S.length = true := by
        have := congrArg List.length hcf; simp at this
        exact Nat.ble_eq_true_of_le (by omega)
      split at hr
      · obtain ⟨hs, rfl⟩ := run_pure hr
        clear hr
        have e1 : h1 = h := congrArg HS.heap hs
        have e2 : n1 = n := congrArg HS.next hs
        subst e1 e2
        refine EvB_run (N := 18) Try.func18 rfl rfl ?_
        intro z hP hO hro hNz hQ
        repeat' first | simp (config := { maxSteps := 2000000 }) (disch := first | omega | (repeat first | assumption | exact Kept.refl _ | refine Kept.set' (by assumption) ?_ ?_ | refine Kept.set (by assumption) ?_ ?_ | omega)) only [go_sem, *, Try.results18, Nat.reduceLT, Nat.reduceAdd, Nat.reduceMul, Nat.reduceSub, Nat.reduceEqDiff, Nat.reduceLeDiff, Int.reduceToNat, Int.reduceLT, Int.reduceLE, Int.reduceEq, Int.reduceNe, Int.reduceAdd, Int.reduceSub, Int.reduceMul, Int.reduceNeg, ↓reduceIte, reduceCtorEq] | (apply EvG_ndec <;> intro _) | (apply EvC_ndec <;> intro _) | (apply EvG_dec <;> intro _) | (apply EvC_dec <;> intro _) | refine EvK_draw (by cbv) (by first | rfl | cbv) ?_ | (apply EvH_ndec <;> intro _) | (apply EvH_dec <;> intro _) | (apply EvC_nbool <;> intro _) | (apply EvC_bool <;> intro _) | (apply EvG_nbool <;> intro _) | (apply EvG_bool <;> intro _) | (apply EvH_nbool <;> intro _) | (apply EvH_bool <;> intro _)
        refine EvQ_call ?_ ?_ (by rw [hP, hO]; exact (cloneX _ [] _ _ (by (repeat refine WfH.set' (by omega) ?_); first | assumption | exact WfH.mono (by assumption) (by omega)) (.inl ⟨rfl, rfl⟩) (by simp)).wf (by (repeat refine WfH.set' (by omega) ?_); first | assumption | exact WfH.mono (by assumption) (by omega))) ?_
        · simp (config := { maxSteps := 2000000 }) (disch := first | omega | (repeat first | assumption | exact Kept.refl _ | refine Kept.set' (by assumption) ?_ ?_ | refine Kept.set (by assumption) ?_ ?_ | omega)) only [go_sem, *, Nat.reduceLT, Nat.reduceAdd, Nat.reduceMul, Nat.reduceSub, Nat.reduceEqDiff, Nat.reduceLeDiff, Int.reduceToNat, Int.reduceLT, Int.reduceLE, Int.reduceEq, Int.reduceNe, Int.reduceAdd, Int.reduceSub, Int.reduceMul, Int.reduceNeg, ↓reduceIte, reduceCtorEq]
        · simp (config := { maxSteps := 2000000 }) (disch := first | omega | (repeat first | assumption | exact Kept.refl _ | refine Kept.set' (by assumption) ?_ ?_ | refine Kept.set (by assumption) ?_ ?_ | omega)) only [go_sem, *, Nat.reduceLT, Nat.reduceAdd, Nat.reduceMul, Nat.reduceSub, Nat.reduceEqDiff, Nat.reduceLeDiff, Int.reduceToNat, Int.reduceLT, Int.reduceLE, Int.reduceEq, Int.reduceNe, Int.reduceAdd, Int.reduceSub, Int.reduceMul, Int.reduceNeg, ↓reduceIte, reduceCtorEq]
        · rintro v h2 n2 ⟨⟨_, rfl, hk⟩ | ⟨hne, _⟩, hn2, hW2⟩
          · have e1 := hk (N + 1) _ heap_same
            have e2 := hk N _ (by rw [PT.get_set_ne _ _ (by omega), PT.get_set_ne _ _ (by omega), PT.get_set_same])
            have hk2 : ∀ i B, h1.get i = some B → h2.get i = some B := fun i B e => hk i B (by have := hlt i B e; simp (disch := omega) only [heap_ne, e])
            clear hk hid hold
            repeat' first | simp (config := { maxSteps := 2000000 }) (disch := first | omega | (repeat first | assumption | exact Kept.refl _ | refine Kept.set' (by assumption) ?_ ?_ | refine Kept.set (by assumption) ?_ ?_ | omega)) only [go_sem, *, Try.results18, Nat.reduceLT, Nat.reduceAdd, Nat.reduceMul, Nat.reduceSub, Nat.reduceEqDiff, Nat.reduceLeDiff, Int.reduceToNat, Int.reduceLT, Int.reduceLE, Int.reduceEq, Int.reduceNe, Int.reduceAdd, Int.reduceSub, Int.reduceMul, Int.reduceNeg, ↓reduceIte, reduceCtorEq] | (apply EvG_ndec <;> intro _) | (apply EvC_ndec <;> intro _) | (apply EvG_dec <;> intro _) | (apply EvC_dec <;> intro _) | refine EvK_draw (by cbv) (by first | rfl | cbv) ?_ | (apply EvH_ndec <;> intro _) | (apply EvH_dec <;> intro _) | (apply EvC_nbool <;> intro _) | (apply EvC_bool <;> intro _) | (apply EvG_nbool <;> intro _) | (apply EvG_bool <;> intro _) | (apply EvH_nbool <;> intro _) | (apply EvH_bool <;> intro _)
            exact ⟨fun _ => N, fun i q1 q2 => by omega, fun i j q1 q2 q3 q4 _ => by omega, .agg _ _ (cfgRen (.nilslice 0 0)), fun i B e => .inl ⟨e, by have := hlt i B e; simp (disch := omega) only [heap_ne, hk2 i B e]⟩⟩
          · exact absurd rfl hne
      · rename_i b off sp len cap
        replace hr := run_row hr
        obtain ⟨L, ro, hL, hr⟩ := hr
        replace hr := run_cond hr
        obtain ⟨hc, hr⟩ := hr
        simp only [Bool.and_eq_true] at hc
        split at hr
        · rename_i xs hxs
          replace hr := run_new hr
          obtain ⟨hs, rfl⟩ := run_pure hr
          have e1 : h1 = _ := congrArg HS.heap hs
          have e2 : n1 = _ := congrArg HS.next hs
          simp only [S0] at e1 e2
          subst e1 e2
          clear hs hr
          obtain ⟨hc1, hc2⟩ := hc
          have hc2 := Nat.le_of_ble_eq_true hc2
          have hxl : xs.length = len := by
            have := congrArg List.length (decInts_eq hxs)
            rw [List.length_take, List.length_drop, List.length_map] at this
            rw [Bool.or_eq_true] at hc1
            rcases hc1 with hc1 | hc1
            · have := Nat.le_of_ble_eq_true hc1; omega
            · have := Nat.eq_of_beq_eq_true hc1; omega
          have hI : IsInts .u64 h (.slice (some ⟨b, off, sp⟩) len cap) xs := .inr ⟨b, off, sp, cap, L, ro, by rw [hxl], hL, by rw [hxl]; exact hc1, by rw [hxl]; exact decInts_eq hxs⟩
          refine EvB_run (N := 18) Try.func18 rfl rfl ?_
          intro z hP hO hro hNz hQ
          repeat' first | simp (config := { maxSteps := 2000000 }) (disch := first | omega | (repeat first | assumption | exact Kept.refl _ | refine Kept.set' (by assumption) ?_ ?_ | refine Kept.set (by assumption) ?_ ?_ | omega)) only [go_sem, *, Try.results18, Nat.reduceLT, Nat.reduceAdd, Nat.reduceMul, Nat.reduceSub, Nat.reduceEqDiff, Nat.reduceLeDiff, Int.reduceToNat, Int.reduceLT, Int.reduceLE, Int.reduceEq, Int.reduceNe, Int.reduceAdd, Int.reduceSub, Int.reduceMul, Int.reduceNeg, ↓reduceIte, reduceCtorEq] | (apply EvG_ndec <;> intro _) | (apply EvC_ndec <;> intro _) | (apply EvG_dec <;> intro _) | (apply EvC_dec <;> intro _) | refine EvK_draw (by cbv) (by first | rfl | cbv) ?_ | (apply EvH_ndec <;> intro _) | (apply EvH_dec <;> intro _) | (apply EvC_nbool <;> intro _) | (apply EvC_bool <;> intro _) | (apply EvG_nbool <;> intro _) | (apply EvG_bool <;> intro _) | (apply EvH_nbool <;> intro _) | (apply EvH_bool <;> intro _)
          refine EvQ_call ?_ ?_ (by rw [hP, hO]; exact (cloneX _ xs _ _ (by (repeat refine WfH.set' (by omega) ?_); first | assumption | exact WfH.mono (by assumption) (by omega)) (hI.keep (by (repeat first | assumption | exact Kept.refl _ | refine Kept.set' (by assumption) ?_ ?_ | omega))) (by omega)).wf (by (repeat refine WfH.set' (by omega) ?_); first | assumption | exact WfH.mono (by assumption) (by omega))) ?_
          · simp (config := { maxSteps := 2000000 }) (disch := first | omega | (repeat first | assumption | exact Kept.refl _ | refine Kept.set' (by assumption) ?_ ?_ | refine Kept.set (by assumption) ?_ ?_ | omega)) only [go_sem, *, Nat.reduceLT, Nat.reduceAdd, Nat.reduceMul, Nat.reduceSub, Nat.reduceEqDiff, Nat.reduceLeDiff, Int.reduceToNat, Int.reduceLT, Int.reduceLE, Int.reduceEq, Int.reduceNe, Int.reduceAdd, Int.reduceSub, Int.reduceMul, Int.reduceNeg, ↓reduceIte, reduceCtorEq]
          · simp (config := { maxSteps := 2000000 }) (disch := first | omega | (repeat first | assumption | exact Kept.refl _ | refine Kept.set' (by assumption) ?_ ?_ | refine Kept.set (by assumption) ?_ ?_ | omega)) only [go_sem, *, Nat.reduceLT, Nat.reduceAdd, Nat.reduceMul, Nat.reduceSub, Nat.reduceEqDiff, Nat.reduceLeDiff, Int.reduceToNat, Int.reduceLT, Int.reduceLE, Int.reduceEq, Int.reduceNe, Int.reduceAdd, Int.reduceSub, Int.reduceMul, Int.reduceNeg, ↓reduceIte, reduceCtorEq]
          · rintro v h2 n2 ⟨⟨hne, _⟩ | ⟨_, g, hg1, hg2, rfl, hk, hgg⟩, hn2, hW2⟩
            · simp at hne
            · have e1 := hk (N + 1) _ heap_same
              have e2 := hk N _ (by rw [PT.get_set_ne _ _ (by omega), PT.get_set_ne _ _ (by omega), PT.get_set_same])
              have hk2 : ∀ i B, h.get i = some B → h2.get i = some B := fun i B e => hk i B (by have := hlt i B e; simp (disch := omega) only [heap_ne, e])
              clear hk
              repeat' first | simp (config := { maxSteps := 2000000 }) (disch := first | omega | (repeat first | assumption | exact Kept.refl _ | refine Kept.set' (by assumption) ?_ ?_ | refine Kept.set (by assumption) ?_ ?_ | omega)) only [go_sem, *, Try.results18, Nat.reduceLT, Nat.reduceAdd, Nat.reduceMul, Nat.reduceSub, Nat.reduceEqDiff, Nat.reduceLeDiff, Int.reduceToNat, Int.reduceLT, Int.reduceLE, Int.reduceEq, Int.reduceNe, Int.reduceAdd, Int.reduceSub, Int.reduceMul, Int.reduceNeg, ↓reduceIte, reduceCtorEq] | (apply EvG_ndec <;> intro _) | (apply EvC_ndec <;> intro _) | (apply EvG_dec <;> intro _) | (apply EvC_dec <;> intro _) | refine EvK_draw (by cbv) (by first | rfl | cbv) ?_ | (apply EvH_ndec <;> intro _) | (apply EvH_dec <;> intro _) | (apply EvC_nbool <;> intro _) | (apply EvC_bool <;> intro _) | (apply EvG_nbool <;> intro _) | (apply EvG_bool <;> intro _) | (apply EvH_nbool <;> intro _) | (apply EvH_bool <;> intro _)
              have hnew : IdR OldId n (n + 1) (fun _ => g) n g := .inr ⟨Nat.le_refl _, Nat.lt_succ_self _, rfl⟩
              refine ⟨fun _ => g, fun i q1 q2 => (by omega : N ≤ g), fun i j q1 q2 q3 q4 _ => by omega, .agg _ _ (cfgRen (.slice n 0 len (capOf len) g hnew)), fun i B e => ?_⟩
              rw [PT.get_set] at e
              split at e
              · rename_i hi; subst hi
                obtain rfl := Option.some.inj e
                refine .inr ⟨_, ?_, .cells _ _ _ (VRens.refl _ fun u hu => ?_)⟩
                · rw [sg_new (by omega)]
                  simp (disch := omega) only [heap_ne]
                  exact hgg
                · obtain ⟨x, _, rfl⟩ := List.mem_map.1 hu
                  exact .int _ _
              · have := hlt i B e
                refine .inl ⟨e, ?_⟩
                simp (disch := omega) only [heap_ne, hk2 i B e]
        · exact (run_fail hr).elim
      · exact (run_fail hr).elim
    · exact (run_fail hr).elim
  · simp at hm
end Go.Proofs.Ytakfjoelpploeaa

set_option linter.unusedVariables false
set_option linter.unusedSimpArgs false
namespace Go.Proofs.Ytakfjoelpploeaa
open Go.Am

theorem ofNat_asNat {m : Nat} : asNat (.int .i64 (m : Int)) = some m := rfl

theorem OwnInts.lower {k : IntKind} {h : PT ABlk} {lo lo' hi : Nat} {s : Value} {xs : List Int} (hs : OwnInts k h lo hi s xs) (hl : lo' ≤ lo) : OwnInts k h lo' hi s xs := by
  rcases hs with hs | ⟨b, cap, e, h1, h2, h3⟩
  · exact .inl hs
  · exact .inr ⟨b, cap, e, by omega, h2, h3⟩
/-- The first numbers of a slice. -/
theorem cut_take {h : PT ABlk} {a : Option Addr} {cap m : Nat} {xs : List Int} (hs : IsInts .u64 h (.slice a xs.length cap) xs) (hc : xs.length ≤ cap) (hc2 : cap < capInf) (hm : m ≤ xs.length) :
    ∃ a', slV Try.prog 26 (.slice a xs.length cap) none (some (.int .i64 (m : Int))) none = .pure (.value (.slice a' (xs.take m).length cap)) ∧ IsInts .u64 h (.slice a' (xs.take m).length cap) (xs.take m) := by
  have hl : (xs.take m).length = m := by rw [List.length_take]; omega
  rcases hs with ⟨e, rfl⟩ | ⟨b, off, sp, cap', L, ro, e, hb, hB, hT⟩
  · injection e with e1 e2 e3
    subst e1 e3
    obtain rfl : m = 0 := by simpa using hm
    exact ⟨none, rfl, .inl ⟨rfl, rfl⟩⟩
  · injection e with e1 e2 e3
    subst e1 e3
    have hk : Nat.ble capInf cap = false := by
      cases hq : Nat.ble capInf cap with
      | false => rfl
      | true => have := Nat.le_of_ble_eq_true hq; omega
    have hT2 : ((L.drop off).take m) = (xs.take m).map (.int .u64) := by
      have : (List.map (Value.int .u64) xs).take m = (xs.take m).map (.int .u64) := (List.map_take).symm
      rw [← this, ← hT, List.take_take, Nat.min_eq_left hm]
    have hB2 : (Nat.ble (off + m) L.length || Nat.beq m 0) = true := by
      simp only [Bool.or_eq_true] at hB ⊢
      rcases hB with hB | hB
      · left; have := Nat.le_of_ble_eq_true hB; exact Nat.ble_eq_true_of_le (by omega)
      · have := Nat.eq_of_beq_eq_true hB
        right; rw [show m = 0 by omega]; rfl
    have key : ∃ sp', slV Try.prog 26 (.slice (some ⟨b, off, sp⟩) xs.length cap) none (some (.int .i64 (m : Int))) none = .pure (.value (.slice (some ⟨b, off, sp'⟩) m cap)) := by
      have hi : iaT Try.prog 26 = some (none, 1) := rfl
      simp only [slV_slice, hi, slW_some, boundOr_none, boundOr_some, ofNat_asNat, slK, hk, cond_false]
      rw [show Nat.ble 0 m = true from Nat.ble_eq_true_of_le (Nat.zero_le _), Nat.ble_eq_true_of_le (show m ≤ cap by omega)]
      simp only [Bool.and_self, cond_true, Nat.sub_zero, aAdd, Nat.zero_mul, Nat.add_zero]
      cases Nat.beq cap 0 with
      | true => exact ⟨sp, rfl⟩
      | false => exact ⟨none, rfl⟩
    obtain ⟨sp', key⟩ := key
    rw [hl]
    exact ⟨some ⟨b, off, sp'⟩, key, .inr ⟨b, off, sp', cap, L, ro, by rw [hl], hb, by rw [hl]; exact hB2, by rw [hl]; exact hT2⟩⟩

set_option maxRecDepth 100000 in
set_option maxHeartbeats 4000000 in
theorem cutC {O : Over} (th sl en bu kd dn t0 t1 t2 t3 t4 t5 lo tr ba : Int) (s : Value) (xs : List Int) (h : PT ABlk) (N : Nat) (hW : WfH h N) (hs : IsInts .u64 h s xs) (hl : xs.length < 1000000000000000) (hcap : ∀ a n c, s = .slice a n c → n ≤ c ∧ c < capInf) :
    EvB Try.prog O 13 [.agg ⟨[.int .i64 th, .int .i64 sl, .int .u8 en, .int .i64 bu, .int .u8 kd, .int .i64 dn, s, .int .i64 t0, .int .i64 t1, .int .i64 t2, .int .i64 t3, .int .i64 t4, .int .i64 t5, .int .i64 lo, .int .i64 tr, .int .i64 ba]⟩] h N
      fun v h' n' => ∃ cv, v = .agg ⟨[.int .i64 th, .int .i64 sl, .int .u8 en, .int .i64 bu, .int .u8 kd, .int .i64 dn, cv, .int .i64 t0, .int .i64 t1, .int .i64 t2, .int .i64 t3, .int .i64 t4, .int .i64 t5, .int .i64 lo, .int .i64 tr, .int .i64 ba]⟩ ∧ OwnInts .u64 h' N n' cv (xs.take 100) ∧ Kept h h' := by
  obtain ⟨a, cap, rfl, -⟩ := hs.len
  obtain ⟨hc1, hc2⟩ := hcap _ _ _ rfl
  have h7 : (xs.take 100).length = min 100 xs.length := List.length_take
  obtain ⟨a', hsl, hI⟩ := cut_take hs hc1 hc2 (m := (xs.take 100).length) (by omega)
  have ht : xs.take (xs.take 100).length = xs.take 100 := by
    rw [h7]; by_cases h8 : xs.length ≤ 100
    · rw [Nat.min_eq_right h8, List.take_of_length_le (Nat.le_refl _), List.take_of_length_le h8]
    · rw [Nat.min_eq_left (by omega)]
  rw [ht] at hsl hI
  have h6 : (if (100 : Int) < (xs.length : Int) then (100 : Int) else (xs.length : Int)) = ((xs.take 100).length : Int) := by rw [h7]; split <;> omega
  have h8 : (xs.take 100).length ≤ 100 := by omega
  clear hs hcap ht hc1 hc2 h7
  refine EvB_run (N := 17) Try.func13 rfl rfl ?_
  intro z hP hO hro hN hQ
  repeat' first | simp (config := { maxSteps := 2000000 }) (disch := first | omega | (repeat first | assumption | exact Kept.refl _ | refine Kept.set' (by assumption) ?_ ?_ | refine Kept.set (by assumption) ?_ ?_ | omega)) only [go_sem, *, Try.results13, Nat.reduceLT, Nat.reduceAdd, Nat.reduceMul, Nat.reduceSub, Nat.reduceEqDiff, Nat.reduceLeDiff, Int.reduceToNat, Int.reduceLT, Int.reduceLE, Int.reduceEq, Int.reduceNe, Int.reduceAdd, Int.reduceSub, Int.reduceMul, Int.reduceNeg, ↓reduceIte, reduceCtorEq] | (apply EvG_ndec <;> intro _) | (apply EvC_ndec <;> intro _) | (apply EvG_dec <;> intro _) | (apply EvC_dec <;> intro _) | refine EvK_draw (by cbv) (by first | rfl | cbv) ?_ | (apply EvH_ndec <;> intro _) | (apply EvH_dec <;> intro _) | (apply EvC_nbool <;> intro _) | (apply EvC_bool <;> intro _) | (apply EvG_nbool <;> intro _) | (apply EvG_bool <;> intro _) | (apply EvH_nbool <;> intro _) | (apply EvH_bool <;> intro _)
  refine EvV_via2 _ (copy_runS (hI.keep ?_) ?_ ?_ (by omega)) ?_
  · (repeat first | assumption | exact Kept.refl _ | refine Kept.set' (by assumption) ?_ ?_ | omega)
  · (repeat refine WfH.set' (by omega) ?_); first | assumption | exact WfH.mono (by assumption) (by omega)
  · simp (config := { maxSteps := 2000000 }) (disch := first | omega | (repeat first | assumption | exact Kept.refl _ | refine Kept.set' (by assumption) ?_ ?_ | refine Kept.set (by assumption) ?_ ?_ | omega)) only [go_sem, *, Nat.reduceLT, Nat.reduceAdd, Nat.reduceMul, Nat.reduceSub, Nat.reduceEqDiff, Nat.reduceLeDiff, Int.reduceToNat, Int.reduceLT, Int.reduceLE, Int.reduceEq, Int.reduceNe, Int.reduceAdd, Int.reduceSub, Int.reduceMul, Int.reduceNeg, ↓reduceIte, reduceCtorEq]
  · rintro cv h2 n2 ⟨hn2, hW2, hcv, hk2, hsame⟩
    obtain ⟨ca, cc, rfl, -⟩ := hcv.isInts.len
    have e2 : h2.get (N + 1) = _ := (hsame (N + 1) (by omega)).trans (by rw [heap_ne (by omega), heap_same])
    have e1 : h2.get N = _ := (hsame N (by omega)).trans (by rw [heap_ne (by omega), heap_ne (by omega), heap_same])
    have hkh : ∀ i, i < N → h2.get i = h.get i := fun i hi => (hsame i (by omega)).trans (by rw [heap_ne (by omega), heap_ne (by omega), heap_ne (by omega)])
    clear hsame hk2
    repeat' first | simp (config := { maxSteps := 2000000 }) (disch := first | omega | (repeat first | assumption | exact Kept.refl _ | refine Kept.set' (by assumption) ?_ ?_ | refine Kept.set (by assumption) ?_ ?_ | omega)) only [go_sem, *, Try.results13, Nat.reduceLT, Nat.reduceAdd, Nat.reduceMul, Nat.reduceSub, Nat.reduceEqDiff, Nat.reduceLeDiff, Int.reduceToNat, Int.reduceLT, Int.reduceLE, Int.reduceEq, Int.reduceNe, Int.reduceAdd, Int.reduceSub, Int.reduceMul, Int.reduceNeg, ↓reduceIte, reduceCtorEq] | (apply EvG_ndec <;> intro _) | (apply EvC_ndec <;> intro _) | (apply EvG_dec <;> intro _) | (apply EvC_dec <;> intro _) | refine EvK_draw (by cbv) (by first | rfl | cbv) ?_ | (apply EvH_ndec <;> intro _) | (apply EvH_dec <;> intro _) | (apply EvC_nbool <;> intro _) | (apply EvC_bool <;> intro _) | (apply EvG_nbool <;> intro _) | (apply EvG_bool <;> intro _) | (apply EvH_nbool <;> intro _) | (apply EvH_bool <;> intro _)
    exact ⟨_, rfl, ((hcv.low (by omega)).low (by omega)).lower (by omega), fun i B e => by have hi := hW.lt e; simp (disch := omega) only [heap_ne, hkh i hi, e]⟩
end Go.Proofs.Ytakfjoelpploeaa

set_option linter.unusedVariables false
set_option linter.unusedSimpArgs false
namespace Go.Proofs.Ytakfjoelpploeaa
open Go.Am

def eqAll : List Int → List Int → AP Bool
  | x :: xs, y :: ys => cond (x == y) (eqAll xs ys) (.pure false)
  | _, _ => .pure true
theorem eqAll_self : ∀ xs : List Int, eqAll xs xs = .pure true
  | [] => rfl
  | x :: xs => by simp [eqAll, eqAll_self xs]
theorem guard44 : Try.prog.eqGuardType Try.prog.depth 44 = false := by kernel_rfl
theorem aEqual44 (p0 p1 p2 p3 p4 p5 p6 p7 p8 p9 q0 q1 q2 q3 q4 q5 q6 q7 q8 q9 : Int) : aEqual Try.prog 12 44 (.agg ⟨[.int .i64 p0, .int .i64 p1, .int .i64 p2, .int .i64 p3, .int .i64 p4, .int .i64 p5, .int .i64 p6, .int .i64 p7, .int .i64 p8, .int .i64 p9]⟩) (.agg ⟨[.int .i64 q0, .int .i64 q1, .int .i64 q2, .int .i64 q3, .int .i64 q4, .int .i64 q5, .int .i64 q6, .int .i64 q7, .int .i64 q8, .int .i64 q9]⟩) =
    eqAll [p0, p1, p2, p3, p4, p5, p6, p7, p8, p9] [q0, q1, q2, q3, q4, q5, q6, q7, q8, q9] := by kernel_rfl
theorem eq44 (p0 p1 p2 p3 p4 p5 p6 p7 p8 p9 : Int) (cx cy : Bool) : binV Try.prog .eql 44 cx cy (.agg ⟨[.int .i64 p0, .int .i64 p1, .int .i64 p2, .int .i64 p3, .int .i64 p4, .int .i64 p5, .int .i64 p6, .int .i64 p7, .int .i64 p8, .int .i64 p9]⟩) (.agg ⟨[.int .i64 p0, .int .i64 p1, .int .i64 p2, .int .i64 p3, .int .i64 p4, .int .i64 p5, .int .i64 p6, .int .i64 p7, .int .i64 p8, .int .i64 p9]⟩) = .pure (.value (.bool true)) := by
  simp only [binV, aBinOp, eqGuardOk, guard44, Bool.not_false, cond_true, aEqual44, eqAll_self, AP.bind]
end Go.Proofs.Ytakfjoelpploeaa

set_option linter.unusedVariables false
set_option linter.unusedSimpArgs false
namespace Go.Proofs.Ytakfjoelpploeaa
open Go.Am

noncomputable abbrev OC : Over := tabO [(16, layCheckS), (46, engineS), (44, valuesS), (45, placeS), (17, refCheckS), (47, refValuesS), (48, groupS), (21, towersS), (20, placesS), (18, configS), (19, eqCfgS)]
theorem OCok : SoundO Try.prog OC := tab_sound (.cons layCheckF (.cons engineF (.cons valuesF (.cons placeF (.cons refCheckF (.cons refValuesF (.cons groupF (.cons towersF (.cons placesF (.cons configF (.cons eqCfgF .nil)))))))))))

theorem eqCfg_self {xs : List Int} (h : xs.length ≤ 100) : shortL xs xs = true := by simp [shortL]; omega

set_option maxRecDepth 100000 in
set_option maxHeartbeats 8000000 in
theorem checks (th sl en bu kd dn t0 t1 t2 t3 t4 t5 lo tr ba : Int) (s : Value) (xs0 : List Int) (h : PT ABlk) (N : Nat) (hW : WfH h N) (hs : IsInts .u64 h s xs0) (hl : xs0.length < 1000000000000000) (hcap : ∀ a n c, s = .slice a n c → n ≤ c ∧ c < capInf) (hpos : ∀ x ∈ xs0, 0 ≤ x) :
    EvB Try.prog OC 4 [.agg ⟨[.int .i64 th, .int .i64 sl, .int .u8 en, .int .i64 bu, .int .u8 kd, .int .i64 dn, s, .int .i64 t0, .int .i64 t1, .int .i64 t2, .int .i64 t3, .int .i64 t4, .int .i64 t5, .int .i64 lo, .int .i64 tr, .int .i64 ba]⟩] h N fun v _ _ => v = .bool true := by
  refine EvB_run (N := 82) Try.func4 rfl rfl fun z hP hO hro hN hQ => ?_
  repeat' first | simp (config := { maxSteps := 2000000 }) (disch := first | omega | (repeat first | assumption | exact Kept.refl _ | refine Kept.set' (by assumption) ?_ ?_ | refine Kept.set (by assumption) ?_ ?_ | omega)) only [go_sem, *, Try.results4, Nat.reduceLT, Nat.reduceAdd, Nat.reduceMul, Nat.reduceSub, Nat.reduceEqDiff, Nat.reduceLeDiff, Int.reduceToNat, Int.reduceLT, Int.reduceLE, Int.reduceEq, Int.reduceNe, Int.reduceAdd, Int.reduceSub, Int.reduceMul, Int.reduceNeg, ↓reduceIte, reduceCtorEq] | (apply EvG_ndec <;> intro _) | (apply EvC_ndec <;> intro _) | (apply EvG_dec <;> intro _) | (apply EvC_dec <;> intro _) | refine EvK_draw (id := 4) (L := [(0, 2), (1, 2), (6, 7), (11, 13), (12, 13), (11, 14), (12, 14)]) (by kernel_rfl) (by kernel_rfl) ?_ | refine EvK_draw (id := 15) (L := [(0, 2), (1, 2), (5, 7), (6, 7), (5, 8), (6, 8), (5, 9), (6, 9), (5, 10), (6, 10), (14, 16), (15, 16), (14, 17), (15, 17), (14, 18), (15, 18), (14, 19), (15, 19), (14, 20), (15, 20)]) (by kernel_rfl) (by kernel_rfl) ?_ | (apply EvH_ndec <;> intro _) | (apply EvH_dec <;> intro _) | (apply EvC_nbool <;> intro _) | (apply EvC_bool <;> intro _) | (apply EvG_nbool <;> intro _) | (apply EvG_bool <;> intro _) | (apply EvH_nbool <;> intro _) | (apply EvH_bool <;> intro _)
  refine EvQ_call ?_ ?_ (by rw [hP, hO]; exact (cutC th sl en bu kd dn t0 t1 t2 t3 t4 t5 lo tr ba s xs0 _ _ (by (repeat refine WfH.set' (by omega) ?_); first | assumption | exact WfH.mono (by assumption) (by omega)) (hs.keep (by (repeat first | assumption | exact Kept.refl _ | refine Kept.set' (by assumption) ?_ ?_ | omega))) hl hcap).wf (by (repeat refine WfH.set' (by omega) ?_); first | assumption | exact WfH.mono (by assumption) (by omega))) ?_
  · simp (config := { maxSteps := 2000000 }) (disch := first | omega | (repeat first | assumption | exact Kept.refl _ | refine Kept.set' (by assumption) ?_ ?_ | refine Kept.set (by assumption) ?_ ?_ | omega)) only [go_sem, *, Nat.reduceLT, Nat.reduceAdd, Nat.reduceMul, Nat.reduceSub, Nat.reduceEqDiff, Nat.reduceLeDiff, Int.reduceToNat, Int.reduceLT, Int.reduceLE, Int.reduceEq, Int.reduceNe, Int.reduceAdd, Int.reduceSub, Int.reduceMul, Int.reduceNeg, ↓reduceIte, reduceCtorEq]
  · simp (config := { maxSteps := 2000000 }) (disch := first | omega | (repeat first | assumption | exact Kept.refl _ | refine Kept.set' (by assumption) ?_ ?_ | refine Kept.set (by assumption) ?_ ?_ | omega)) only [go_sem, *, Nat.reduceLT, Nat.reduceAdd, Nat.reduceMul, Nat.reduceSub, Nat.reduceEqDiff, Nat.reduceLeDiff, Int.reduceToNat, Int.reduceLT, Int.reduceLE, Int.reduceEq, Int.reduceNe, Int.reduceAdd, Int.reduceSub, Int.reduceMul, Int.reduceNeg, ↓reduceIte, reduceCtorEq]
  rintro v h2 n2 ⟨⟨cv0, rfl, hcv0, hk0⟩, hn2, hW2⟩
  have hlen : (xs0.take 100).length ≤ 100 := by rw [List.length_take]; omega
  have hnn : nonneg (xs0.take 100) = true := nonneg_of (by omega) fun x hx => hpos x (List.mem_of_mem_take hx)
  generalize xs0.take 100 = xs at *
  have e0 := hk0 N _ heap_same
  clear hk0 hs hcap hpos hl
  obtain ⟨ca, cc, rfl, -⟩ := hcv0.isInts.len
  repeat' first | simp (config := { maxSteps := 2000000 }) (disch := first | omega | (repeat first | assumption | exact Kept.refl _ | refine Kept.set' (by assumption) ?_ ?_ | refine Kept.set (by assumption) ?_ ?_ | omega)) only [go_sem, *, Try.results4, Nat.reduceLT, Nat.reduceAdd, Nat.reduceMul, Nat.reduceSub, Nat.reduceEqDiff, Nat.reduceLeDiff, Int.reduceToNat, Int.reduceLT, Int.reduceLE, Int.reduceEq, Int.reduceNe, Int.reduceAdd, Int.reduceSub, Int.reduceMul, Int.reduceNeg, ↓reduceIte, reduceCtorEq] | (apply EvG_ndec <;> intro _) | (apply EvC_ndec <;> intro _) | (apply EvG_dec <;> intro _) | (apply EvC_dec <;> intro _) | refine EvK_draw (id := 4) (L := [(0, 2), (1, 2), (6, 7), (11, 13), (12, 13), (11, 14), (12, 14)]) (by kernel_rfl) (by kernel_rfl) ?_ | refine EvK_draw (id := 15) (L := [(0, 2), (1, 2), (5, 7), (6, 7), (5, 8), (6, 8), (5, 9), (6, 9), (5, 10), (6, 10), (14, 16), (15, 16), (14, 17), (15, 17), (14, 18), (15, 18), (14, 19), (15, 19), (14, 20), (15, 20)]) (by kernel_rfl) (by kernel_rfl) ?_ | (apply EvH_ndec <;> intro _) | (apply EvH_dec <;> intro _) | (apply EvC_nbool <;> intro _) | (apply EvC_bool <;> intro _) | (apply EvG_nbool <;> intro _) | (apply EvG_bool <;> intro _) | (apply EvH_nbool <;> intro _) | (apply EvH_bool <;> intro _)
  generalize hh3 : h2.set N _ = h3
  have e1 := get_of_set hh3
  have hW3 : WfH h3 n2 := by rw [← hh3]; exact hW2.set (by omega) (by omega)
  have hs3 : IsInts .u64 h3 (.slice ca xs.length cc) xs := by rw [← hh3]; exact (hcv0.low (Nat.lt_succ_self N)).isInts
  clear hh3 hcv0 hW2 e0
  repeat' first | simp (config := { maxSteps := 2000000 }) (disch := first | omega | (repeat first | assumption | exact Kept.refl _ | refine Kept.set' (by assumption) ?_ ?_ | refine Kept.set (by assumption) ?_ ?_ | omega)) only [go_sem, *, Try.results4, Nat.reduceLT, Nat.reduceAdd, Nat.reduceMul, Nat.reduceSub, Nat.reduceEqDiff, Nat.reduceLeDiff, Int.reduceToNat, Int.reduceLT, Int.reduceLE, Int.reduceEq, Int.reduceNe, Int.reduceAdd, Int.reduceSub, Int.reduceMul, Int.reduceNeg, ↓reduceIte, reduceCtorEq] | (apply EvG_ndec <;> intro _) | (apply EvC_ndec <;> intro _) | (apply EvG_dec <;> intro _) | (apply EvC_dec <;> intro _) | refine EvK_draw (id := 4) (L := [(0, 2), (1, 2), (6, 7), (11, 13), (12, 13), (11, 14), (12, 14)]) (by kernel_rfl) (by kernel_rfl) ?_ | refine EvK_draw (id := 15) (L := [(0, 2), (1, 2), (5, 7), (6, 7), (5, 8), (6, 8), (5, 9), (6, 9), (5, 10), (6, 10), (14, 16), (15, 16), (14, 17), (15, 17), (14, 18), (15, 18), (14, 19), (15, 19), (14, 20), (15, 20)]) (by kernel_rfl) (by kernel_rfl) ?_ | (apply EvH_ndec <;> intro _) | (apply EvH_dec <;> intro _) | (apply EvC_nbool <;> intro _) | (apply EvC_bool <;> intro _) | (apply EvG_nbool <;> intro _) | (apply EvG_bool <;> intro _) | (apply EvH_nbool <;> intro _) | (apply EvH_bool <;> intro _)
  refine EvQ_call ?_ ?_ (by rw [hP, hO]; exact (layNew rfl rfl rfl rfl (fun _ => rfl) th sl en bu kd dn t0 t1 t2 t3 t4 t5 lo tr ba _ xs _ _ hW3 hs3 (by omega)).wf hW3) ?_
  · simp (config := { maxSteps := 2000000 }) (disch := first | omega | (repeat first | assumption | exact Kept.refl _ | refine Kept.set' (by assumption) ?_ ?_ | refine Kept.set (by assumption) ?_ ?_ | omega)) only [go_sem, *, Nat.reduceLT, Nat.reduceAdd, Nat.reduceMul, Nat.reduceSub, Nat.reduceEqDiff, Nat.reduceLeDiff, Int.reduceToNat, Int.reduceLT, Int.reduceLE, Int.reduceEq, Int.reduceNe, Int.reduceAdd, Int.reduceSub, Int.reduceMul, Int.reduceNeg, ↓reduceIte, reduceCtorEq]
  · simp (config := { maxSteps := 2000000 }) (disch := first | omega | (repeat first | assumption | exact Kept.refl _ | refine Kept.set' (by assumption) ?_ ?_ | refine Kept.set (by assumption) ?_ ?_ | omega)) only [go_sem, *, Nat.reduceLT, Nat.reduceAdd, Nat.reduceMul, Nat.reduceSub, Nat.reduceEqDiff, Nat.reduceLeDiff, Int.reduceToNat, Int.reduceLT, Int.reduceLE, Int.reduceEq, Int.reduceNe, Int.reduceAdd, Int.reduceSub, Int.reduceMul, Int.reduceNeg, ↓reduceIte, reduceCtorEq]
  rintro v h4 n4 ⟨⟨c1, rfl, hk4⟩ | ⟨c1, lb, cv, hv, tv, gb, rfl, hk4, hlb, hb, hg, hcv, hH, hT⟩, hn4, hW4⟩
  · have e2 := hk4 N _ e1
    have hs4 := hs3.keep hk4
    repeat' first | simp (config := { maxSteps := 2000000 }) (disch := first | omega | (repeat first | assumption | exact Kept.refl _ | refine Kept.set' (by assumption) ?_ ?_ | refine Kept.set (by assumption) ?_ ?_ | omega)) only [go_sem, *, Try.results4, Nat.reduceLT, Nat.reduceAdd, Nat.reduceMul, Nat.reduceSub, Nat.reduceEqDiff, Nat.reduceLeDiff, Int.reduceToNat, Int.reduceLT, Int.reduceLE, Int.reduceEq, Int.reduceNe, Int.reduceAdd, Int.reduceSub, Int.reduceMul, Int.reduceNeg, ↓reduceIte, reduceCtorEq] | (apply EvG_ndec <;> intro _) | (apply EvC_ndec <;> intro _) | (apply EvG_dec <;> intro _) | (apply EvC_dec <;> intro _) | refine EvK_draw (id := 4) (L := [(0, 2), (1, 2), (6, 7), (11, 13), (12, 13), (11, 14), (12, 14)]) (by kernel_rfl) (by kernel_rfl) ?_ | refine EvK_draw (id := 15) (L := [(0, 2), (1, 2), (5, 7), (6, 7), (5, 8), (6, 8), (5, 9), (6, 9), (5, 10), (6, 10), (14, 16), (15, 16), (14, 17), (15, 17), (14, 18), (15, 18), (14, 19), (15, 19), (14, 20), (15, 20)]) (by kernel_rfl) (by kernel_rfl) ?_ | (apply EvH_ndec <;> intro _) | (apply EvH_dec <;> intro _) | (apply EvC_nbool <;> intro _) | (apply EvC_bool <;> intro _) | (apply EvG_nbool <;> intro _) | (apply EvG_bool <;> intro _) | (apply EvH_nbool <;> intro _) | (apply EvH_bool <;> intro _)
    refine EvQ_call ?_ ?_ (by rw [hP, hO]; exact (refNew rfl rfl rfl th sl en bu kd dn t0 t1 t2 t3 t4 t5 lo tr ba _ xs _ _ hW4 hs4 hnn).wf hW4) ?_
    · simp (config := { maxSteps := 2000000 }) (disch := first | omega | (repeat first | assumption | exact Kept.refl _ | refine Kept.set' (by assumption) ?_ ?_ | refine Kept.set (by assumption) ?_ ?_ | omega)) only [go_sem, *, Nat.reduceLT, Nat.reduceAdd, Nat.reduceMul, Nat.reduceSub, Nat.reduceEqDiff, Nat.reduceLeDiff, Int.reduceToNat, Int.reduceLT, Int.reduceLE, Int.reduceEq, Int.reduceNe, Int.reduceAdd, Int.reduceSub, Int.reduceMul, Int.reduceNeg, ↓reduceIte, reduceCtorEq]
    · simp (config := { maxSteps := 2000000 }) (disch := first | omega | (repeat first | assumption | exact Kept.refl _ | refine Kept.set' (by assumption) ?_ ?_ | refine Kept.set (by assumption) ?_ ?_ | omega)) only [go_sem, *, Nat.reduceLT, Nat.reduceAdd, Nat.reduceMul, Nat.reduceSub, Nat.reduceEqDiff, Nat.reduceLeDiff, Int.reduceToNat, Int.reduceLT, Int.reduceLE, Int.reduceEq, Int.reduceNe, Int.reduceAdd, Int.reduceSub, Int.reduceMul, Int.reduceNeg, ↓reduceIte, reduceCtorEq]
    rintro v h5 n5 ⟨⟨c2, rfl, hk5⟩ | ⟨c2, _⟩, hn5, hW5⟩
    · have e3 := hk5 N _ e2
      have hs5 := hs4.keep hk5
      have hrd := fun h' hk z f d ops r K m n => @EvV_ints _ _ h' _ _ hs5 z f d ops r K m n hk
      have hrx := fun h' hk z L f d ops r K m n lo rd wr fs => @EvX_look _ _ _ _ h' hs5.look z L f d ops r K m n lo rd wr fs hk
      have hl15 : xs.length < 1000000000000000 := by omega
      clear hs3 hs4 hk4 hk5 e1 e2 hW3 hW4
      repeat' first | simp (config := { maxSteps := 2000000 }) (disch := first | omega | (repeat first | assumption | exact Kept.refl _ | refine Kept.set' (by assumption) ?_ ?_ | refine Kept.set (by assumption) ?_ ?_ | omega)) only [go_sem, *, Try.results4, layCheckS, refCheckS, Nat.reduceLT, Nat.reduceAdd, Nat.reduceMul, Nat.reduceSub, Nat.reduceEqDiff, Nat.reduceLeDiff, Int.reduceToNat, Int.reduceLT, Int.reduceLE, Int.reduceEq, Int.reduceNe, Int.reduceAdd, Int.reduceSub, Int.reduceMul, Int.reduceNeg, ↓reduceIte, reduceCtorEq] | (apply EvG_ndec <;> intro _) | (apply EvC_ndec <;> intro _) | (apply EvG_dec <;> intro _) | (apply EvC_dec <;> intro _) | refine EvK_draw (id := 4) (L := [(0, 2), (1, 2), (6, 7), (11, 13), (12, 13), (11, 14), (12, 14)]) (by kernel_rfl) (by kernel_rfl) ?_ | refine EvK_draw (id := 15) (L := [(0, 2), (1, 2), (5, 7), (6, 7), (5, 8), (6, 8), (5, 9), (6, 9), (5, 10), (6, 10), (14, 16), (15, 16), (14, 17), (15, 17), (14, 18), (15, 18), (14, 19), (15, 19), (14, 20), (15, 20)]) (by kernel_rfl) (by kernel_rfl) ?_ | (apply EvH_ndec <;> intro _) | (apply EvH_dec <;> intro _) | (apply EvC_nbool <;> intro _) | (apply EvC_bool <;> intro _) | (apply EvG_nbool <;> intro _) | (apply EvG_bool <;> intro _) | (apply EvH_nbool <;> intro _) | (apply EvH_bool <;> intro _)
      all_goals (rename_i hh; simp at hh)
    · rw [c1] at c2; simp at c2
  · have e2 := hk4 N _ e1
    have hs4 := hs3.keep hk4
    repeat' first | simp (config := { maxSteps := 2000000 }) (disch := first | omega | (repeat first | assumption | exact Kept.refl _ | refine Kept.set' (by assumption) ?_ ?_ | refine Kept.set (by assumption) ?_ ?_ | omega)) only [go_sem, *, Try.results4, Nat.reduceLT, Nat.reduceAdd, Nat.reduceMul, Nat.reduceSub, Nat.reduceEqDiff, Nat.reduceLeDiff, Int.reduceToNat, Int.reduceLT, Int.reduceLE, Int.reduceEq, Int.reduceNe, Int.reduceAdd, Int.reduceSub, Int.reduceMul, Int.reduceNeg, ↓reduceIte, reduceCtorEq] | (apply EvG_ndec <;> intro _) | (apply EvC_ndec <;> intro _) | (apply EvG_dec <;> intro _) | (apply EvC_dec <;> intro _) | refine EvK_draw (id := 4) (L := [(0, 2), (1, 2), (6, 7), (11, 13), (12, 13), (11, 14), (12, 14)]) (by kernel_rfl) (by kernel_rfl) ?_ | refine EvK_draw (id := 15) (L := [(0, 2), (1, 2), (5, 7), (6, 7), (5, 8), (6, 8), (5, 9), (6, 9), (5, 10), (6, 10), (14, 16), (15, 16), (14, 17), (15, 17), (14, 18), (15, 18), (14, 19), (15, 19), (14, 20), (15, 20)]) (by kernel_rfl) (by kernel_rfl) ?_ | (apply EvH_ndec <;> intro _) | (apply EvH_dec <;> intro _) | (apply EvC_nbool <;> intro _) | (apply EvC_bool <;> intro _) | (apply EvG_nbool <;> intro _) | (apply EvG_bool <;> intro _) | (apply EvH_nbool <;> intro _) | (apply EvH_bool <;> intro _)
    refine EvQ_call ?_ ?_ (by rw [hP, hO]; exact (refNew rfl rfl rfl th sl en bu kd dn t0 t1 t2 t3 t4 t5 lo tr ba _ xs _ _ hW4 hs4 hnn).wf hW4) ?_
    · simp (config := { maxSteps := 2000000 }) (disch := first | omega | (repeat first | assumption | exact Kept.refl _ | refine Kept.set' (by assumption) ?_ ?_ | refine Kept.set (by assumption) ?_ ?_ | omega)) only [go_sem, *, Nat.reduceLT, Nat.reduceAdd, Nat.reduceMul, Nat.reduceSub, Nat.reduceEqDiff, Nat.reduceLeDiff, Int.reduceToNat, Int.reduceLT, Int.reduceLE, Int.reduceEq, Int.reduceNe, Int.reduceAdd, Int.reduceSub, Int.reduceMul, Int.reduceNeg, ↓reduceIte, reduceCtorEq]
    · simp (config := { maxSteps := 2000000 }) (disch := first | omega | (repeat first | assumption | exact Kept.refl _ | refine Kept.set' (by assumption) ?_ ?_ | refine Kept.set (by assumption) ?_ ?_ | omega)) only [go_sem, *, Nat.reduceLT, Nat.reduceAdd, Nat.reduceMul, Nat.reduceSub, Nat.reduceEqDiff, Nat.reduceLeDiff, Int.reduceToNat, Int.reduceLT, Int.reduceLE, Int.reduceEq, Int.reduceNe, Int.reduceAdd, Int.reduceSub, Int.reduceMul, Int.reduceNeg, ↓reduceIte, reduceCtorEq]
    rintro v h5 n5 ⟨⟨c2, _⟩ | ⟨c2, lb2, cv2, hv2, wv, rfl, hk5, hlb2, hb2, hcv2, hH2, hw2⟩, hn5, hW5⟩
    · rw [c1] at c2; simp at c2
    · have e3 := hk5 N _ e2
      have hs5 := hs4.keep hk5
      have hb5 := hk5 _ _ hb
      have hcv5 := hcv.keep hk5
      have hH5 := hH.keep hk5
      have hT5 := hT.keep hk5
      clear hb hcv hH hT hg hw2 hcv2 hs4 hs3 e1 e2 hk4 hk5 hW3 hW4
      have hrd := fun h' hk z f d ops r K m n => @EvV_ints _ _ h' _ _ hs5 z f d ops r K m n hk
      have hrx := fun h' hk z L f d ops r K m n lo rd wr fs => @EvX_look _ _ _ _ h' hs5.look z L f d ops r K m n lo rd wr fs hk
      have hl15 : xs.length < 1000000000000000 := by omega
      obtain ⟨hva, hvc, rfl, -⟩ := hH2.len
      have hf := cfgOk_facts c1
      have hlen6 := hts_length6 ⟨hf.2.2.2.2.2.1, hf.2.2.2.2.2.2.1⟩
      clear hf
      have hl16 : Nat.ble xs.length 100000 = true := Nat.ble_eq_true_of_le (by omega)
      have hss := eqCfg_self hlen
      repeat' first | simp (config := { maxSteps := 2000000 }) (disch := first | omega | (repeat first | assumption | exact Kept.refl _ | refine Kept.set' (by assumption) ?_ ?_ | refine Kept.set (by assumption) ?_ ?_ | omega)) only [go_sem, *, Try.results4, layCheckS, refCheckS, Nat.reduceLT, Nat.reduceAdd, Nat.reduceMul, Nat.reduceSub, Nat.reduceEqDiff, Nat.reduceLeDiff, Int.reduceToNat, Int.reduceLT, Int.reduceLE, Int.reduceEq, Int.reduceNe, Int.reduceAdd, Int.reduceSub, Int.reduceMul, Int.reduceNeg, ↓reduceIte, reduceCtorEq] | (apply EvG_ndec <;> intro _) | (apply EvC_ndec <;> intro _) | (apply EvG_dec <;> intro _) | (apply EvC_dec <;> intro _) | refine EvK_draw (id := 4) (L := [(0, 2), (1, 2), (6, 7), (11, 13), (12, 13), (11, 14), (12, 14)]) (by kernel_rfl) (by kernel_rfl) ?_ | refine EvK_draw (id := 15) (L := [(0, 2), (1, 2), (5, 7), (6, 7), (5, 8), (6, 8), (5, 9), (6, 9), (5, 10), (6, 10), (14, 16), (15, 16), (14, 17), (15, 17), (14, 18), (15, 18), (14, 19), (15, 19), (14, 20), (15, 20)]) (by kernel_rfl) (by kernel_rfl) ?_ | (apply EvH_ndec <;> intro _) | (apply EvH_dec <;> intro _) | (apply EvC_nbool <;> intro _) | (apply EvC_bool <;> intro _) | (apply EvG_nbool <;> intro _) | (apply EvG_bool <;> intro _) | (apply EvH_nbool <;> intro _) | (apply EvH_bool <;> intro _)
      · rename_i hh; simp at hh
      have hcv6 := hcv5
      rcases hcv5 with ⟨rfl, hx0⟩ | ⟨b, off, sp, cap, L, ro, rfl, hL, hB, hT6⟩
      · have hs0 : shortL [] xs = true := by rw [hx0] at hss ⊢; exact hss
        have hd0 : (([] : List Int) = xs) = True := by rw [hx0]; simp
        clear hx0 hcv6
        have hlbn := hW5.lt hb5
        have hlb2n := hW5.lt hb2
        have hNn := hW5.lt e3
        repeat' first | simp (config := { maxSteps := 2000000 }) (disch := first | omega | (repeat first | assumption | exact Kept.refl _ | refine Kept.set' (by assumption) ?_ ?_ | refine Kept.set (by assumption) ?_ ?_ | omega)) only [go_sem, *, Try.results4, configS, eqCfgS, Nat.reduceLT, Nat.reduceAdd, Nat.reduceMul, Nat.reduceSub, Nat.reduceEqDiff, Nat.reduceLeDiff, Int.reduceToNat, Int.reduceLT, Int.reduceLE, Int.reduceEq, Int.reduceNe, Int.reduceAdd, Int.reduceSub, Int.reduceMul, Int.reduceNeg, ↓reduceIte, reduceCtorEq] | (apply EvG_ndec <;> intro _) | (apply EvC_ndec <;> intro _) | (apply EvG_dec <;> intro _) | (apply EvC_dec <;> intro _) | refine EvK_draw (id := 4) (L := [(0, 2), (1, 2), (6, 7), (11, 13), (12, 13), (11, 14), (12, 14)]) (by kernel_rfl) (by kernel_rfl) ?_ | refine EvK_draw (id := 15) (L := [(0, 2), (1, 2), (5, 7), (6, 7), (5, 8), (6, 8), (5, 9), (6, 9), (5, 10), (6, 10), (14, 16), (15, 16), (14, 17), (15, 17), (14, 18), (15, 18), (14, 19), (15, 19), (14, 20), (15, 20)]) (by kernel_rfl) (by kernel_rfl) ?_ | (apply EvH_ndec <;> intro _) | (apply EvH_dec <;> intro _) | (apply EvC_nbool <;> intro _) | (apply EvC_bool <;> intro _) | (apply EvG_nbool <;> intro _) | (apply EvG_bool <;> intro _) | (apply EvH_nbool <;> intro _) | (apply EvH_bool <;> intro _)
        refine ind_loop (fun t m h' n' => t = 0 ∧ m.n = 82 ∧ m.dfs = [] ∧ m.get 1 = .pointer (some ⟨N, 0, none⟩) ∧ m.get 3 = .pointer (some ⟨lb, 0, none⟩) ∧ m.get 5 = .pointer (some ⟨lb2, 0, none⟩) ∧ m.get 7 = .pointer (some ⟨n5, 0, none⟩) ∧ m.get 8 = .int .i64 0 ∧ n' = n5 + 1 ∧ Kept h5 h' ∧ h'.get n5 = some (.cells (PT.ofList .leaf 0 [Value.int .i64 th, .int .i64 sl, .int .u8 en, .int .i64 bu, .int .u8 kd, .int .i64 dn, .slice none 0 0, .int .i64 t0, .int .i64 t1, .int .i64 t2, .int .i64 t3, .int .i64 t4, .int .i64 t5, .int .i64 lo, .int .i64 tr, .int .i64 ba]) false)) 0 ?_ ?_
        · refine ⟨rfl, ?_⟩
          simp (config := { maxSteps := 2000000 }) (disch := first | omega | (repeat first | assumption | exact Kept.refl _ | refine Kept.set' (by assumption) ?_ ?_ | refine Kept.set (by assumption) ?_ ?_ | omega)) only [go_sem, *, Nat.reduceLT, Nat.reduceAdd, Nat.reduceMul, Nat.reduceSub, Nat.reduceEqDiff, Nat.reduceLeDiff, Int.reduceToNat, Int.reduceLT, Int.reduceLE, Int.reduceEq, Int.reduceNe, Int.reduceAdd, Int.reduceSub, Int.reduceMul, Int.reduceNeg, ↓reduceIte, reduceCtorEq]
          exact fun j B e => by have := hW5.lt e; simp (disch := omega) only [heap_ne]; exact e
        · rintro t m h' n' ih ⟨rfl, m1, m2, m3, m4, m5, m6, m7, rfl, q1, q3⟩
          have hl0 := rdL_mk hb5 rfl rfl rfl hH5 hT5 (decInts_map (xs := placesOf sl en bu lo (domCount kd dn xs) (hts 1 [t0, t1, t2, t3, t4, t5]))) (by omega) (adr_length _ _) rfl
          have hrl := fun h' hk z L f d ops r K m n lo rd wr fs => @EvX_look _ _ _ _ h' hl0 z L f d ops r K m n lo rd wr fs hk
          have g1 := q1 _ _ hb5
          have g2 := q1 _ _ hb2
          have g3 := q1 _ _ e3
          clear hb5 hb2 e3 hl0 ih
          repeat' first | simp (config := { maxSteps := 2000000 }) (disch := first | omega | (repeat first | assumption | exact Kept.refl _ | refine Kept.set' (by assumption) ?_ ?_ | refine Kept.set (by assumption) ?_ ?_ | omega)) only [go_sem, *, Try.results4, configS, eqCfgS, placesS, towersS, placesOf, List.map_cons, List.map_nil, eq44, towsEq, Nat.reduceLT, Nat.reduceAdd, Nat.reduceMul, Nat.reduceSub, Nat.reduceEqDiff, Nat.reduceLeDiff, Int.reduceToNat, Int.reduceLT, Int.reduceLE, Int.reduceEq, Int.reduceNe, Int.reduceAdd, Int.reduceSub, Int.reduceMul, Int.reduceNeg, ↓reduceIte, reduceCtorEq] | (apply EvG_ndec <;> intro _) | (apply EvC_ndec <;> intro _) | (apply EvG_dec <;> intro _) | (apply EvC_dec <;> intro _) | refine EvK_draw (id := 4) (L := [(0, 2), (1, 2), (6, 7), (11, 13), (12, 13), (11, 14), (12, 14)]) (by kernel_rfl) (by kernel_rfl) ?_ | refine EvK_draw (id := 15) (L := [(0, 2), (1, 2), (5, 7), (6, 7), (5, 8), (6, 8), (5, 9), (6, 9), (5, 10), (6, 10), (14, 16), (15, 16), (14, 17), (15, 17), (14, 18), (15, 18), (14, 19), (15, 19), (14, 20), (15, 20)]) (by kernel_rfl) (by kernel_rfl) ?_ | (apply EvH_ndec <;> intro _) | (apply EvH_dec <;> intro _) | (apply EvC_nbool <;> intro _) | (apply EvC_bool <;> intro _) | (apply EvG_nbool <;> intro _) | (apply EvG_bool <;> intro _) | (apply EvH_nbool <;> intro _) | (apply EvH_bool <;> intro _)
      · have hdec := decInts_map (k := .u64) xs
        have hlbn := hW5.lt hb5
        have hlb2n := hW5.lt hb2
        have hNn := hW5.lt e3
        have hbn := hW5.lt hL
        repeat' first | simp (config := { maxSteps := 2000000 }) (disch := first | omega | (repeat first | assumption | exact Kept.refl _ | refine Kept.set' (by assumption) ?_ ?_ | refine Kept.set (by assumption) ?_ ?_ | omega)) only [go_sem, *, Try.results4, configS, Nat.reduceLT, Nat.reduceAdd, Nat.reduceMul, Nat.reduceSub, Nat.reduceEqDiff, Nat.reduceLeDiff, Int.reduceToNat, Int.reduceLT, Int.reduceLE, Int.reduceEq, Int.reduceNe, Int.reduceAdd, Int.reduceSub, Int.reduceMul, Int.reduceNeg, ↓reduceIte, reduceCtorEq] | (apply EvG_ndec <;> intro _) | (apply EvC_ndec <;> intro _) | (apply EvG_dec <;> intro _) | (apply EvC_dec <;> intro _) | refine EvK_draw (id := 4) (L := [(0, 2), (1, 2), (6, 7), (11, 13), (12, 13), (11, 14), (12, 14)]) (by kernel_rfl) (by kernel_rfl) ?_ | refine EvK_draw (id := 15) (L := [(0, 2), (1, 2), (5, 7), (6, 7), (5, 8), (6, 8), (5, 9), (6, 9), (5, 10), (6, 10), (14, 16), (15, 16), (14, 17), (15, 17), (14, 18), (15, 18), (14, 19), (15, 19), (14, 20), (15, 20)]) (by kernel_rfl) (by kernel_rfl) ?_ | (apply EvH_ndec <;> intro _) | (apply EvH_dec <;> intro _) | (apply EvC_nbool <;> intro _) | (apply EvC_bool <;> intro _) | (apply EvG_nbool <;> intro _) | (apply EvG_bool <;> intro _) | (apply EvH_nbool <;> intro _) | (apply EvH_bool <;> intro _)
        generalize hh6 : h5.set n5 _ = h6
        have hn6 := get_of_set hh6
        have hk6 : Kept h5 h6 := by rw [← hh6]; exact hW5.kept (Nat.le_refl _)
        have hW6 : WfH h6 (n5 + 1) := by rw [← hh6]; exact hW5.set (Nat.le_succ _) (Nat.lt_succ_self _)
        have hI6 : IsInts .u64 h6 (.slice (some ⟨n5, 0, none⟩) xs.length (capOf xs.length)) xs := .inr ⟨n5, 0, none, _, _, _, rfl, hn6, by simp, by rw [List.drop_zero]; exact take_map_self⟩
        have hs6 := hs5.keep hk6
        have hrd2 := fun h' hk z f d ops r K m n => @EvV_ints _ _ h' _ _ hI6 z f d ops r K m n hk
        have hrd3 := fun h' hk z f d ops r K m n => @EvV_ints _ _ h' _ _ hs6 z f d ops r K m n hk
        have e6 := hk6 _ _ e3
        have hb6 := hk6 _ _ hb5
        have hb26 := hk6 _ _ hb2
        clear hrd hrx hh6
        repeat' first | simp (config := { maxSteps := 2000000 }) (disch := first | omega | (repeat first | assumption | exact Kept.refl _ | refine Kept.set' (by assumption) ?_ ?_ | refine Kept.set (by assumption) ?_ ?_ | omega)) only [go_sem, *, Try.results4, eqCfgS, Nat.reduceLT, Nat.reduceAdd, Nat.reduceMul, Nat.reduceSub, Nat.reduceEqDiff, Nat.reduceLeDiff, Int.reduceToNat, Int.reduceLT, Int.reduceLE, Int.reduceEq, Int.reduceNe, Int.reduceAdd, Int.reduceSub, Int.reduceMul, Int.reduceNeg, ↓reduceIte, reduceCtorEq] | (apply EvG_ndec <;> intro _) | (apply EvC_ndec <;> intro _) | (apply EvG_dec <;> intro _) | (apply EvC_dec <;> intro _) | refine EvK_draw (id := 4) (L := [(0, 2), (1, 2), (6, 7), (11, 13), (12, 13), (11, 14), (12, 14)]) (by kernel_rfl) (by kernel_rfl) ?_ | refine EvK_draw (id := 15) (L := [(0, 2), (1, 2), (5, 7), (6, 7), (5, 8), (6, 8), (5, 9), (6, 9), (5, 10), (6, 10), (14, 16), (15, 16), (14, 17), (15, 17), (14, 18), (15, 18), (14, 19), (15, 19), (14, 20), (15, 20)]) (by kernel_rfl) (by kernel_rfl) ?_ | (apply EvH_ndec <;> intro _) | (apply EvH_dec <;> intro _) | (apply EvC_nbool <;> intro _) | (apply EvC_bool <;> intro _) | (apply EvG_nbool <;> intro _) | (apply EvG_bool <;> intro _) | (apply EvH_nbool <;> intro _) | (apply EvH_bool <;> intro _)
        refine ind_loop (fun t m h' n' => ∃ (i : Nat) (L' : List Value), i ≤ xs.length ∧ t = xs.length - i ∧ L'.length = xs.length ∧ m.n = 82 ∧ m.dfs = [] ∧ m.get 1 = .pointer (some ⟨N, 0, none⟩) ∧ m.get 3 = .pointer (some ⟨lb, 0, none⟩) ∧ m.get 5 = .pointer (some ⟨lb2, 0, none⟩) ∧ m.get 7 = .pointer (some ⟨n5 + 1, 0, none⟩) ∧ m.get 8 = .int .i64 i ∧ n' = n5 + 1 + 1 ∧ Kept h5 h' ∧ h'.get n5 = some (.cells (PT.ofList .leaf 0 L') false) ∧ h'.get (n5 + 1) = some (.cells (PT.ofList .leaf 0 [Value.int .i64 th, .int .i64 sl, .int .u8 en, .int .i64 bu, .int .u8 kd, .int .i64 dn, .slice (some ⟨n5, 0, none⟩) xs.length (capOf xs.length), .int .i64 t0, .int .i64 t1, .int .i64 t2, .int .i64 t3, .int .i64 t4, .int .i64 t5, .int .i64 lo, .int .i64 tr, .int .i64 ba]) false)) xs.length ?_ ?_
        · refine ⟨0, xs.map (.int .u64), by omega, by omega, by simp, ?_⟩
          simp (config := { maxSteps := 2000000 }) (disch := first | omega | (repeat first | assumption | exact Kept.refl _ | refine Kept.set' (by assumption) ?_ ?_ | refine Kept.set (by assumption) ?_ ?_ | omega)) only [go_sem, *, Nat.reduceLT, Nat.reduceAdd, Nat.reduceMul, Nat.reduceSub, Nat.reduceEqDiff, Nat.reduceLeDiff, Int.reduceToNat, Int.reduceLT, Int.reduceLE, Int.reduceEq, Int.reduceNe, Int.reduceAdd, Int.reduceSub, Int.reduceMul, Int.reduceNeg, ↓reduceIte, reduceCtorEq]
          exact fun j B e => by have := hW5.lt e; simp (disch := omega) only [heap_ne]; exact hk6 j B e
        · rintro t m h' n' ih ⟨i, L', hi, rfl, hL', m1, m2, m3, m4, m5, m6, m7, rfl, q1, q2, q3⟩
          rcases Nat.lt_or_ge i xs.length with hlt | hge
          · have e7 : (i : Int) < xs.length := by omega
            repeat' first | simp (config := { maxSteps := 2000000 }) (disch := first | omega | (repeat first | assumption | exact Kept.refl _ | refine Kept.set' (by assumption) ?_ ?_ | refine Kept.set (by assumption) ?_ ?_ | omega)) only [go_sem, *, Try.results4, Nat.reduceLT, Nat.reduceAdd, Nat.reduceMul, Nat.reduceSub, Nat.reduceEqDiff, Nat.reduceLeDiff, Int.reduceToNat, Int.reduceLT, Int.reduceLE, Int.reduceEq, Int.reduceNe, Int.reduceAdd, Int.reduceSub, Int.reduceMul, Int.reduceNeg, ↓reduceIte, reduceCtorEq] | (apply EvG_ndec <;> intro _) | (apply EvC_ndec <;> intro _) | (apply EvG_dec <;> intro _) | (apply EvC_dec <;> intro _) | refine EvK_draw (id := 4) (L := [(0, 2), (1, 2), (6, 7), (11, 13), (12, 13), (11, 14), (12, 14)]) (by kernel_rfl) (by kernel_rfl) ?_ | refine EvK_draw (id := 15) (L := [(0, 2), (1, 2), (5, 7), (6, 7), (5, 8), (6, 8), (5, 9), (6, 9), (5, 10), (6, 10), (14, 16), (15, 16), (14, 17), (15, 17), (14, 18), (15, 18), (14, 19), (15, 19), (14, 20), (15, 20)]) (by kernel_rfl) (by kernel_rfl) ?_ | (apply EvH_ndec <;> intro _) | (apply EvH_dec <;> intro _) | (apply EvC_nbool <;> intro _) | (apply EvC_bool <;> intro _) | (apply EvG_nbool <;> intro _) | (apply EvG_bool <;> intro _) | (apply EvH_nbool <;> intro _) | (apply EvH_bool <;> intro _)
            refine ih (xs.length - (i + 1)) _ _ _ (by omega) ⟨i + 1, L'.set i (.int .u64 0), by omega, by omega, by rw [List.length_set]; exact hL', ?_⟩
            simp (config := { maxSteps := 2000000 }) (disch := first | omega | (repeat first | assumption | exact Kept.refl _ | refine Kept.set' (by assumption) ?_ ?_ | refine Kept.set (by assumption) ?_ ?_ | omega)) only [go_sem, *, Nat.reduceLT, Nat.reduceAdd, Nat.reduceMul, Nat.reduceSub, Nat.reduceEqDiff, Nat.reduceLeDiff, Int.reduceToNat, Int.reduceLT, Int.reduceLE, Int.reduceEq, Int.reduceNe, Int.reduceAdd, Int.reduceSub, Int.reduceMul, Int.reduceNeg, ↓reduceIte, reduceCtorEq]
            exact ⟨by simp, fun j B e => by have := hW5.lt e; simp (disch := omega) only [heap_ne]; exact q1 j B e⟩
          · have e7 : ¬ (i : Int) < xs.length := by omega
            have hl0 := rdL_mk hb5 rfl rfl rfl hH5 hT5 (decInts_map (xs := placesOf sl en bu lo (domCount kd dn xs) (hts 1 [t0, t1, t2, t3, t4, t5]))) (by omega) (adr_length _ _) rfl
            have hrl := fun h' hk z L f d ops r K m n lo rd wr fs => @EvX_look _ _ _ _ h' hl0 z L f d ops r K m n lo rd wr fs hk
            have hrx := fun h' hk z L f d ops r K m n lo rd wr fs => @EvX_look _ _ _ _ h' hs5.look z L f d ops r K m n lo rd wr fs hk
            have hIn : IsInts .u64 (h'.set (n5 + 1 + 1) (some (.cells (PT.ofList .leaf 0 (xs.map (.int .u64))) false))) (.slice (some ⟨n5 + 1 + 1, 0, none⟩) xs.length (capOf xs.length)) xs := .inr ⟨n5 + 1 + 1, 0, none, _, _, _, rfl, PT.get_set_same .., by simp, by rw [List.drop_zero]; exact take_map_self⟩
            have hrn := fun z L f d ops r K m n lo rd wr fs => @EvX_look _ _ _ _ _ hIn.look z L f d ops r K m n lo rd wr fs (Kept.refl _)
            have g1 := q1 _ _ hb5
            have g2 := q1 _ _ hb2
            have g3 := q1 _ _ e3
            have g4 := q1 _ _ hL
            clear q2 hb5 hb2 e3 hL hrd2 hrd3 e6 hb6 hb26 hI6 hs6 hn6 hl0 hIn ih hW6 hk6
            repeat' first | simp (config := { maxSteps := 2000000 }) (disch := first | omega | (repeat first | assumption | exact Kept.refl _ | refine Kept.set' (by assumption) ?_ ?_ | refine Kept.set (by assumption) ?_ ?_ | omega)) only [go_sem, *, Try.results4, configS, eqCfgS, placesS, towersS, placesOf, List.map_cons, List.map_nil, eq44, towsEq, Nat.reduceLT, Nat.reduceAdd, Nat.reduceMul, Nat.reduceSub, Nat.reduceEqDiff, Nat.reduceLeDiff, Int.reduceToNat, Int.reduceLT, Int.reduceLE, Int.reduceEq, Int.reduceNe, Int.reduceAdd, Int.reduceSub, Int.reduceMul, Int.reduceNeg, ↓reduceIte, reduceCtorEq] | (apply EvG_ndec <;> intro _) | (apply EvC_ndec <;> intro _) | (apply EvG_dec <;> intro _) | (apply EvC_dec <;> intro _) | refine EvK_draw (id := 4) (L := [(0, 2), (1, 2), (6, 7), (11, 13), (12, 13), (11, 14), (12, 14)]) (by kernel_rfl) (by kernel_rfl) ?_ | refine EvK_draw (id := 15) (L := [(0, 2), (1, 2), (5, 7), (6, 7), (5, 8), (6, 8), (5, 9), (6, 9), (5, 10), (6, 10), (14, 16), (15, 16), (14, 17), (15, 17), (14, 18), (15, 18), (14, 19), (15, 19), (14, 20), (15, 20)]) (by kernel_rfl) (by kernel_rfl) ?_ | (apply EvH_ndec <;> intro _) | (apply EvH_dec <;> intro _) | (apply EvC_nbool <;> intro _) | (apply EvC_bool <;> intro _) | (apply EvG_nbool <;> intro _) | (apply EvG_bool <;> intro _) | (apply EvH_nbool <;> intro _) | (apply EvH_bool <;> intro _)
end Go.Proofs.Ytakfjoelpploeaa
