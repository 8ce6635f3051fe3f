/-
  A part of the proof of the laws of layer 9: contracts of inner functions.
-/
import Derived.Test.YtakfjoelpploeaaL9P4
import Derived.Test.YtakfjoelpploeaaAmY3
import Derived.Test.YtakfjoelpploeaaL9S4
import Derived.Test.YtakfjoelpploeaaAmY7
import Derived.Test.YtakfjoelpploeaaL9C
import Derived.Test.YtakfjoelpploeaaL9P5
import Derived.Test.YtakfjoelpploeaaL9Q1
import Derived.Test.YtakfjoelpploeaaL9S5
set_option linter.unusedVariables false
set_option linter.unusedSimpArgs false
namespace Go.Proofs.Ytakfjoelpploeaa
open Go.Am
variable {O : Over}

theorem take_eq_succ {xs ys : List Int} {i : Nat} (h1 : i < xs.length) (h2 : i < ys.length) (h : xs.take i = ys.take i) (e : xs.getD i 0 = ys.getD i 0) : xs.take (i + 1) = ys.take (i + 1) := by
  rw [List.take_add_one, List.take_add_one, h]
  simp [List.getD, h1, h2] at e
  simp [h1, h2, e]
theorem fresh_no (n a : Nat) : (n.ble a && a.blt n) = false := by
  cases h : n.ble a
  · rfl
  · have := Nat.le_of_ble_eq_true h
    cases h2 : a.blt n
    · rfl
    · have := Nat.le_of_ble_eq_true h2
      omega
theorem getD_ne {xs ys : List Int} {i : Nat} (e : ¬ xs.getD i 0 = ys.getD i 0) : ¬ xs = ys := fun h => e (by rw [h])

set_option maxRecDepth 100000 in
set_option maxHeartbeats 4000000 in
theorem equalUints (xs ys : List Int) (s t : Value) (h : PT ABlk) (n : Nat) (hs : IsInts .u64 h s xs) (ht : IsInts .u64 h t ys) (hl : xs.length < 1000000) (hl2 : ys.length < 1000000) :
    EvB Try.prog O 23 [s, t] h n fun v h' n' => v = .bool (decide (xs = ys)) ∧ h' = h ∧ n' = n := by
  obtain ⟨a, cap, rfl, hA⟩ := hs.len
  obtain ⟨b, cap2, rfl, hB⟩ := ht.len
  clear hs ht
  refine EvB_run (N := 26) Try.func23 rfl rfl ?_
  intro z hP hO hro hN hQ
  by_cases hlen : xs.length = ys.length
  · have hle1 : (xs.length : Int) = ys.length := by omega
    repeat' first | simp (config := { maxSteps := 2000000 }) (disch := first | omega | (repeat first | assumption | exact Kept.refl _ | refine Kept.set' (by assumption) ?_ ?_ | refine Kept.set (by assumption) ?_ ?_ | omega)) only [go_sem, *, Try.results23, Nat.reduceLT, Nat.reduceAdd, Nat.reduceMul, Nat.reduceSub, Nat.reduceEqDiff, Nat.reduceLeDiff, Int.reduceToNat, Int.reduceLT, Int.reduceLE, Int.reduceEq, Int.reduceNe, Int.reduceAdd, Int.reduceSub, Int.reduceMul, Int.reduceNeg, ↓reduceIte, reduceCtorEq] | (apply EvG_ndec <;> intro _) | (apply EvC_ndec <;> intro _) | (apply EvG_dec <;> intro _) | (apply EvC_dec <;> intro _) | refine EvK_draw (id := 6) (L := [(0, 1), (0, 4), (1, 4), (2, 4), (3, 4), (0, 5), (1, 5), (2, 5), (3, 5), (4, 5), (0, 6), (1, 6), (2, 6), (3, 6), (0, 7), (1, 7), (2, 7), (3, 7)]) (by kernel_rfl) (by kernel_rfl) ?_ | (apply EvH_ndec <;> intro _) | (apply EvH_dec <;> intro _) | (apply EvC_nbool <;> intro _) | (apply EvC_bool <;> intro _) | (apply EvG_nbool <;> intro _) | (apply EvG_bool <;> intro _) | (apply EvH_nbool <;> intro _) | (apply EvH_bool <;> intro _)
    refine ind_loop (fun t m h' n' => h' = h ∧ n' = n ∧ ∃ i : Nat, i ≤ xs.length ∧ t = xs.length - i ∧ xs.take i = ys.take i ∧ m.n = 26 ∧ m.dfs = [] ∧ m.get 0 = .slice a xs.length cap ∧ m.get 1 = .slice b ys.length cap2 ∧ m.get 5 = .int .i64 i) xs.length ?_ ?_
    · refine ⟨rfl, rfl, 0, by omega, by omega, rfl, ?_⟩
      simp (config := { maxSteps := 2000000 }) (disch := first | omega | (repeat first | assumption | exact Kept.refl _ | refine Kept.set' (by assumption) ?_ ?_ | refine Kept.set (by assumption) ?_ ?_ | omega)) only [go_sem, *, Nat.reduceLT, Nat.reduceAdd, Nat.reduceMul, Nat.reduceSub, Nat.reduceEqDiff, Nat.reduceLeDiff, Int.reduceToNat, Int.reduceLT, Int.reduceLE, Int.reduceEq, Int.reduceNe, Int.reduceAdd, Int.reduceSub, Int.reduceMul, Int.reduceNeg, ↓reduceIte, reduceCtorEq]
    · rintro t m h n ih ⟨rfl, rfl, i, hi, rfl, htk, m1, m2, m3, m4, m5⟩
      rcases Nat.lt_or_ge i xs.length with hlt | hge
      · obtain ⟨bk, off, sp, L, ro, rfl, hb, hL⟩ := hA i hlt
        obtain ⟨bk2, off2, sp2, L2, ro2, rfl, hb2, hL2⟩ := hB i (by omega)
        have e1 : (i : Int) < xs.length := by omega
        have e2 : (i : Int) < ys.length := by omega
        clear hA hB
        by_cases e3 : xs.getD i 0 = ys.getD i 0
        · rw [e3] at hL
          have htk' := take_eq_succ hlt (by omega) htk e3
          repeat' first | simp (config := { maxSteps := 2000000 }) (disch := first | omega | (repeat first | assumption | exact Kept.refl _ | refine Kept.set' (by assumption) ?_ ?_ | refine Kept.set (by assumption) ?_ ?_ | omega)) only [go_sem, *, Try.results23, fresh_no, Nat.reduceLT, Nat.reduceAdd, Nat.reduceMul, Nat.reduceSub, Nat.reduceEqDiff, Nat.reduceLeDiff, Int.reduceToNat, Int.reduceLT, Int.reduceLE, Int.reduceEq, Int.reduceNe, Int.reduceAdd, Int.reduceSub, Int.reduceMul, Int.reduceNeg, ↓reduceIte, reduceCtorEq] | (apply EvG_ndec <;> intro _) | (apply EvC_ndec <;> intro _) | (apply EvG_dec <;> intro _) | (apply EvC_dec <;> intro _) | refine EvK_draw (id := 6) (L := [(0, 1), (0, 4), (1, 4), (2, 4), (3, 4), (0, 5), (1, 5), (2, 5), (3, 5), (4, 5), (0, 6), (1, 6), (2, 6), (3, 6), (0, 7), (1, 7), (2, 7), (3, 7)]) (by kernel_rfl) (by kernel_rfl) ?_ | (apply EvH_ndec <;> intro _) | (apply EvH_dec <;> intro _) | (apply EvC_nbool <;> intro _) | (apply EvC_bool <;> intro _) | (apply EvG_nbool <;> intro _) | (apply EvG_bool <;> intro _) | (apply EvH_nbool <;> intro _) | (apply EvH_bool <;> intro _)
          refine ih (xs.length - (i + 1)) _ _ _ (by omega) ⟨rfl, rfl, i + 1, by omega, by omega, htk', ?_⟩
          simp (config := { maxSteps := 2000000 }) (disch := first | omega | (repeat first | assumption | exact Kept.refl _ | refine Kept.set' (by assumption) ?_ ?_ | refine Kept.set (by assumption) ?_ ?_ | omega)) only [go_sem, *, Nat.reduceLT, Nat.reduceAdd, Nat.reduceMul, Nat.reduceSub, Nat.reduceEqDiff, Nat.reduceLeDiff, Int.reduceToNat, Int.reduceLT, Int.reduceLE, Int.reduceEq, Int.reduceNe, Int.reduceAdd, Int.reduceSub, Int.reduceMul, Int.reduceNeg, ↓reduceIte, reduceCtorEq]
          simp
        · have hxy := getD_ne e3
          repeat' first | simp (config := { maxSteps := 2000000 }) (disch := first | omega | (repeat first | assumption | exact Kept.refl _ | refine Kept.set' (by assumption) ?_ ?_ | refine Kept.set (by assumption) ?_ ?_ | omega)) only [go_sem, *, Try.results23, fresh_no, Nat.reduceLT, Nat.reduceAdd, Nat.reduceMul, Nat.reduceSub, Nat.reduceEqDiff, Nat.reduceLeDiff, Int.reduceToNat, Int.reduceLT, Int.reduceLE, Int.reduceEq, Int.reduceNe, Int.reduceAdd, Int.reduceSub, Int.reduceMul, Int.reduceNeg, ↓reduceIte, reduceCtorEq] | (apply EvG_ndec <;> intro _) | (apply EvC_ndec <;> intro _) | (apply EvG_dec <;> intro _) | (apply EvC_dec <;> intro _) | refine EvK_draw (id := 6) (L := [(0, 1), (0, 4), (1, 4), (2, 4), (3, 4), (0, 5), (1, 5), (2, 5), (3, 5), (4, 5), (0, 6), (1, 6), (2, 6), (3, 6), (0, 7), (1, 7), (2, 7), (3, 7)]) (by kernel_rfl) (by kernel_rfl) ?_ | (apply EvH_ndec <;> intro _) | (apply EvH_dec <;> intro _) | (apply EvC_nbool <;> intro _) | (apply EvC_bool <;> intro _) | (apply EvG_nbool <;> intro _) | (apply EvG_bool <;> intro _) | (apply EvH_nbool <;> intro _) | (apply EvH_bool <;> intro _)
      · have e1 : ¬ (i : Int) < xs.length := by omega
        have e2 : ¬ (i : Int) < ys.length := by omega
        have hxy : xs = ys := by
          have := htk
          rwa [List.take_of_length_le hge, List.take_of_length_le (by omega)] at this
        repeat' first | simp (config := { maxSteps := 2000000 }) (disch := first | omega | (repeat first | assumption | exact Kept.refl _ | refine Kept.set' (by assumption) ?_ ?_ | refine Kept.set (by assumption) ?_ ?_ | omega)) only [go_sem, *, Try.results23, Nat.reduceLT, Nat.reduceAdd, Nat.reduceMul, Nat.reduceSub, Nat.reduceEqDiff, Nat.reduceLeDiff, Int.reduceToNat, Int.reduceLT, Int.reduceLE, Int.reduceEq, Int.reduceNe, Int.reduceAdd, Int.reduceSub, Int.reduceMul, Int.reduceNeg, ↓reduceIte, reduceCtorEq] | (apply EvG_ndec <;> intro _) | (apply EvC_ndec <;> intro _) | (apply EvG_dec <;> intro _) | (apply EvC_dec <;> intro _) | refine EvK_draw (id := 6) (L := [(0, 1), (0, 4), (1, 4), (2, 4), (3, 4), (0, 5), (1, 5), (2, 5), (3, 5), (4, 5), (0, 6), (1, 6), (2, 6), (3, 6), (0, 7), (1, 7), (2, 7), (3, 7)]) (by kernel_rfl) (by kernel_rfl) ?_ | (apply EvH_ndec <;> intro _) | (apply EvH_dec <;> intro _) | (apply EvC_nbool <;> intro _) | (apply EvC_bool <;> intro _) | (apply EvG_nbool <;> intro _) | (apply EvG_bool <;> intro _) | (apply EvH_nbool <;> intro _) | (apply EvH_bool <;> intro _)
  · have hle1 : ¬ (xs.length : Int) = ys.length := by omega
    have hxy : ¬ xs = ys := fun e => hlen (by rw [e])
    repeat' first | simp (config := { maxSteps := 2000000 }) (disch := first | omega | (repeat first | assumption | exact Kept.refl _ | refine Kept.set' (by assumption) ?_ ?_ | refine Kept.set (by assumption) ?_ ?_ | omega)) only [go_sem, *, Try.results23, Nat.reduceLT, Nat.reduceAdd, Nat.reduceMul, Nat.reduceSub, Nat.reduceEqDiff, Nat.reduceLeDiff, Int.reduceToNat, Int.reduceLT, Int.reduceLE, Int.reduceEq, Int.reduceNe, Int.reduceAdd, Int.reduceSub, Int.reduceMul, Int.reduceNeg, ↓reduceIte, reduceCtorEq] | (apply EvG_ndec <;> intro _) | (apply EvC_ndec <;> intro _) | (apply EvG_dec <;> intro _) | (apply EvC_dec <;> intro _) | refine EvK_draw (id := 6) (L := [(0, 1), (0, 4), (1, 4), (2, 4), (3, 4), (0, 5), (1, 5), (2, 5), (3, 5), (4, 5), (0, 6), (1, 6), (2, 6), (3, 6), (0, 7), (1, 7), (2, 7), (3, 7)]) (by kernel_rfl) (by kernel_rfl) ?_ | (apply EvH_ndec <;> intro _) | (apply EvH_dec <;> intro _) | (apply EvC_nbool <;> intro _) | (apply EvC_bool <;> intro _) | (apply EvG_nbool <;> intro _) | (apply EvG_bool <;> intro _) | (apply EvH_nbool <;> intro _) | (apply EvH_bool <;> intro _)
end Go.Proofs.Ytakfjoelpploeaa

set_option linter.unusedVariables false
set_option linter.unusedSimpArgs false
namespace Go.Proofs.Ytakfjoelpploeaa
open Go.Am
variable {O : Over}

def shortL (xs ys : List Int) : Bool := decide (xs.length < 1000000) && decide (ys.length < 1000000)
theorem of_shortL {xs ys : List Int} (h : shortL xs ys = true) : xs.length < 1000000 ∧ ys.length < 1000000 := by simpa [shortL] using h

def eqUintsS : List Value → Option (AP Value)
  | [s, t] => some ((rdInts .u64 s).bind fun xs => (rdInts .u64 t).bind fun ys => cond (shortL xs ys) (.pure (.bool (decide (xs = ys)))) (.fail ""))
  | _ => none
theorem eqUintsF : SoundF Try.prog 23 eqUintsS := by
  refine soundF_query (tab_sound .nil) orders ?_
  intro args m hm
  unfold eqUintsS at hm
  split at hm
  · rename_i s t
    simp only [Option.some.injEq] at hm
    subst hm
    refine ⟨fun h v => ∃ xs ys, IsInts .u64 h s xs ∧ IsInts .u64 h t ys ∧ shortL xs ys = true ∧ v = .bool (decide (xs = ys)), fun h n v s' hR e => ?_, fun h N v hlt hv => ?_⟩
    · obtain ⟨xs, hx, e⟩ := run_ints hR e
      obtain ⟨ys, hy, e⟩ := run_ints hR e
      obtain ⟨hl, e⟩ := run_cond e
      obtain ⟨h1, rfl⟩ := run_pure e
      exact ⟨h1, .bool _, xs, ys, hx, hy, hl, rfl⟩
    · obtain ⟨xs, ys, hx, hy, hl, rfl⟩ := hv
      exact (equalUints xs ys s t h N hx hy (of_shortL hl).1 (of_shortL hl).2).mono fun v h2 n2 ⟨e1, e2, _⟩ => ⟨e1, fun i _ => by rw [e2]⟩
  · simp at hm

abbrev OrU : Over := tabO [(23, eqUintsS)]
theorem OrUok : SoundO Try.prog OrU := tab_sound (.cons eqUintsF .nil)

def eqDomS : List Value → Option (AP Value)
  | [.agg ⟨[.int .u8 kd, .int .i64 dn, s]⟩, .agg ⟨[.int .u8 kd2, .int .i64 dn2, t]⟩] => some ((rdInts .u64 s).bind fun xs => (rdInts .u64 t).bind fun ys => cond (shortL xs ys) (.pure (.bool (decide (kd = kd2 ∧ dn = dn2 ∧ xs = ys)))) (.fail ""))
  | _ => none
set_option maxRecDepth 100000 in
set_option maxHeartbeats 4000000 in
theorem eqDomF : SoundF Try.prog 52 eqDomS := by
  refine soundF_query OrUok orders ?_
  intro args m hm
  unfold eqDomS at hm
  split at hm
  · rename_i kd dn s kd2 dn2 t
    simp only [Option.some.injEq] at hm
    subst hm
    refine ⟨fun h v => ∃ xs ys, IsInts .u64 h s xs ∧ IsInts .u64 h t ys ∧ shortL xs ys = true ∧ v = .bool (decide (kd = kd2 ∧ dn = dn2 ∧ xs = ys)), fun h n v s' hR e => ?_, fun h N v hlt hv => ?_⟩
    · obtain ⟨xs, hx, e⟩ := run_ints hR e
      obtain ⟨ys, hy, e⟩ := run_ints hR e
      obtain ⟨hl, e⟩ := run_cond e
      obtain ⟨h1, rfl⟩ := run_pure e
      exact ⟨h1, .bool _, xs, ys, hx, hy, hl, rfl⟩
    · obtain ⟨xs, ys, hx, hy, hl, rfl⟩ := hv
      have hrd := fun h' hk z f d ops r K m n => @EvV_ints _ _ h' _ _ hx z f d ops r K m n hk
      have hrd2 := fun h' hk z f d ops r K m n => @EvV_ints _ _ h' _ _ hy z f d ops r K m n hk
      obtain ⟨a, cap, rfl, -⟩ := hx.len
      obtain ⟨b, cap2, rfl, -⟩ := hy.len
      refine EvB_run (N := 24) Try.func52 rfl rfl ?_
      intro z hP hO hro hN hQ
      repeat' first | simp (config := { maxSteps := 2000000 }) (disch := first | omega | (repeat first | assumption | exact Kept.refl _ | refine Kept.set' (by assumption) ?_ ?_ | refine Kept.set (by assumption) ?_ ?_ | omega)) only [go_sem, *, Try.results52, eqUintsS, Nat.reduceLT, Nat.reduceAdd, Nat.reduceMul, Nat.reduceSub, Nat.reduceEqDiff, Nat.reduceLeDiff, Int.reduceToNat, Int.reduceLT, Int.reduceLE, Int.reduceEq, Int.reduceNe, Int.reduceAdd, Int.reduceSub, Int.reduceMul, Int.reduceNeg, ↓reduceIte, reduceCtorEq] | (apply EvG_ndec <;> intro _) | (apply EvC_ndec <;> intro _) | (apply EvG_dec <;> intro _) | (apply EvC_dec <;> intro _) | refine EvK_draw (by cbv) (by first | rfl | cbv) ?_ | (apply EvH_ndec <;> intro _) | (apply EvH_dec <;> intro _) | (apply EvC_nbool <;> intro _) | (apply EvC_bool <;> intro _) | (apply EvG_nbool <;> intro _) | (apply EvG_bool <;> intro _) | (apply EvH_nbool <;> intro _) | (apply EvH_bool <;> intro _)
      all_goals exact fun i hi => by simp (disch := omega) only [heap_ne]
  · simp at hm

theorem guardE29 : Try.prog.eqGuardType Try.prog.depth 29 = false := by kernel_rfl
theorem towsEq (a0 a1 a2 a3 a4 a5 b0 b1 b2 b3 b4 b5 : Int) (cx cy : Bool) : binV Try.prog .eql 29 cx cy (.agg ⟨[.int .i64 a0, .int .i64 a1, .int .i64 a2, .int .i64 a3, .int .i64 a4, .int .i64 a5]⟩) (.agg ⟨[.int .i64 b0, .int .i64 b1, .int .i64 b2, .int .i64 b3, .int .i64 b4, .int .i64 b5]⟩) = .pure (.value (.bool (decide ([a0, a1, a2, a3, a4, a5] = [b0, b1, b2, b3, b4, b5])))) :=
  binV_eql_ints (xs := [a0, a1, a2, a3, a4, a5]) (ys := [b0, b1, b2, b3, b4, b5]) Try.underlying29 Try.underlying3 rfl rfl guardE29 rfl rfl

abbrev OrE : Over := tabO [(52, eqDomS)]
theorem OrEok : SoundO Try.prog OrE := tab_sound (.cons eqDomF .nil)

def eqCfgS : List Value → Option (AP Value)
  | [.agg ⟨[.int .i64 th, .int .i64 sl, .int .u8 en, .int .i64 bu, .int .u8 kd, .int .i64 dn, s, .int .i64 t0, .int .i64 t1, .int .i64 t2, .int .i64 t3, .int .i64 t4, .int .i64 t5, .int .i64 lo, .int .i64 tr, .int .i64 ba]⟩, .agg ⟨[.int .i64 th', .int .i64 sl', .int .u8 en', .int .i64 bu', .int .u8 kd', .int .i64 dn', t, .int .i64 t0', .int .i64 t1', .int .i64 t2', .int .i64 t3', .int .i64 t4', .int .i64 t5', .int .i64 lo', .int .i64 tr', .int .i64 ba']⟩] =>
    some ((rdInts .u64 s).bind fun xs => (rdInts .u64 t).bind fun ys => cond (shortL xs ys) (.pure (.bool (decide (th = th' ∧ sl = sl' ∧ en = en' ∧ bu = bu' ∧ (kd = kd' ∧ dn = dn' ∧ xs = ys) ∧ [t0, t1, t2, t3, t4, t5] = [t0', t1', t2', t3', t4', t5'] ∧ lo = lo' ∧ tr = tr' ∧ ba = ba')))) (.fail ""))
  | _ => none
set_option maxRecDepth 100000 in
set_option maxHeartbeats 40000000 in
theorem eqCfgF : SoundF Try.prog 19 eqCfgS := by
  refine soundF_query OrEok orders ?_
  intro args m hm
  unfold eqCfgS at hm
  split at hm
  · rename_i th sl en bu kd dn s t0 t1 t2 t3 t4 t5 lo tr ba th' sl' en' bu' kd' dn' t t0' t1' t2' t3' t4' t5' lo' tr' ba'
    simp only [Option.some.injEq] at hm
    subst hm
    refine ⟨fun h v => ∃ xs ys, IsInts .u64 h s xs ∧ IsInts .u64 h t ys ∧ shortL xs ys = true ∧ v = .bool (decide (th = th' ∧ sl = sl' ∧ en = en' ∧ bu = bu' ∧ (kd = kd' ∧ dn = dn' ∧ xs = ys) ∧ [t0, t1, t2, t3, t4, t5] = [t0', t1', t2', t3', t4', t5'] ∧ lo = lo' ∧ tr = tr' ∧ ba = ba')), fun h n v s' hR e => ?_, fun h N v hlt hv => ?_⟩
    · obtain ⟨xs, hx, e⟩ := run_ints hR e
      obtain ⟨ys, hy, e⟩ := run_ints hR e
      obtain ⟨hl, e⟩ := run_cond e
      obtain ⟨h1, rfl⟩ := run_pure e
      exact ⟨h1, .bool _, xs, ys, hx, hy, hl, rfl⟩
    · obtain ⟨xs, ys, hx, hy, hl, rfl⟩ := hv
      have hrd := fun h' hk z f d ops r K m n => @EvV_ints _ _ h' _ _ hx z f d ops r K m n hk
      have hrd2 := fun h' hk z f d ops r K m n => @EvV_ints _ _ h' _ _ hy z f d ops r K m n hk
      obtain ⟨a, cap, rfl, -⟩ := hx.len
      obtain ⟨b, cap2, rfl, -⟩ := hy.len
      refine EvB_run (N := 66) Try.func19 rfl rfl ?_
      intro z hP hO hro hN hQ
      repeat' first | simp (config := { maxSteps := 2000000 }) (disch := first | omega | (repeat first | assumption | exact Kept.refl _ | refine Kept.set' (by assumption) ?_ ?_ | refine Kept.set (by assumption) ?_ ?_ | omega)) only [go_sem, *, Try.results19, eqDomS, towsEq, Nat.reduceLT, Nat.reduceAdd, Nat.reduceMul, Nat.reduceSub, Nat.reduceEqDiff, Nat.reduceLeDiff, Int.reduceToNat, Int.reduceLT, Int.reduceLE, Int.reduceEq, Int.reduceNe, Int.reduceAdd, Int.reduceSub, Int.reduceMul, Int.reduceNeg, ↓reduceIte, reduceCtorEq] | (apply EvG_ndec <;> intro _) | (apply EvC_ndec <;> intro _) | (apply EvG_dec <;> intro _) | (apply EvC_dec <;> intro _) | refine EvK_draw (by cbv) (by first | rfl | cbv) ?_ | (apply EvH_ndec <;> intro _) | (apply EvH_dec <;> intro _) | (apply EvC_nbool <;> intro _) | (apply EvC_bool <;> intro _) | (apply EvG_nbool <;> intro _) | (apply EvG_bool <;> intro _) | (apply EvH_nbool <;> intro _) | (apply EvH_bool <;> intro _)
      all_goals exact fun i hi => by simp (disch := omega) only [heap_ne]
  · simp at hm
end Go.Proofs.Ytakfjoelpploeaa

set_option linter.unusedVariables false
set_option linter.unusedSimpArgs false
namespace Go.Proofs.Ytakfjoelpploeaa
open Go.Am

def capOf (n : Nat) : Nat := if n = 0 then 0 else capInf + 1
@[go_sem] theorem capOf_zero : capOf 0 = 0 := rfl
theorem capOf_pos {n : Nat} (h : ¬ n = 0) : capOf n = capInf + 1 := if_neg h

/-- Clone, exactly. -/
theorem cloneX {O : Over} (s : Value) (xs : List Int) (h : PT ABlk) (N : Nat) (hW : WfH h N) (hs : IsInts .u64 h s xs) (hl : xs.length < 1000000) :
    EvB Try.prog O 43 [s] h N fun v h' n' => (s = .slice none 0 0 ∧ v = .slice none 0 0 ∧ Kept h h') ∨ (s ≠ .slice none 0 0 ∧ ∃ g, N ≤ g ∧ g < n' ∧ v = .slice (some ⟨g, 0, none⟩) xs.length (capOf xs.length) ∧ Kept h h' ∧ h'.get g = some (.cells (PT.ofList .leaf 0 (xs.map (.int .u64))) false)) := by
  rcases hs.shapes with ⟨rfl, rfl⟩ | ⟨b, off, sp, cap, L, ro, rfl, rfl, hb⟩ | ⟨b, off, sp, cap, L, ro, rfl, hb, hB, hT⟩
  · refine EvB_run (N := 8) Try.func43 rfl rfl ?_
    intro z hP hO hro hN hQ
    repeat' first | simp (config := { maxSteps := 2000000 }) (disch := first | omega | (repeat first | assumption | exact Kept.refl _ | refine Kept.set' (by assumption) ?_ ?_ | refine Kept.set (by assumption) ?_ ?_ | omega)) only [go_sem, *, Try.results43, Nat.reduceLT, Nat.reduceAdd, Nat.reduceMul, Nat.reduceSub, Nat.reduceEqDiff, Nat.reduceLeDiff, Int.reduceToNat, Int.reduceLT, Int.reduceLE, Int.reduceEq, Int.reduceNe, Int.reduceAdd, Int.reduceSub, Int.reduceMul, Int.reduceNeg, ↓reduceIte, reduceCtorEq] | (apply EvG_ndec <;> intro _) | (apply EvC_ndec <;> intro _) | (apply EvG_dec <;> intro _) | (apply EvC_dec <;> intro _) | refine EvK_draw (by cbv) (by first | rfl | cbv) ?_ | (apply EvH_ndec <;> intro _) | (apply EvH_dec <;> intro _) | (apply EvC_nbool <;> intro _) | (apply EvC_bool <;> intro _) | (apply EvG_nbool <;> intro _) | (apply EvG_bool <;> intro _) | (apply EvH_nbool <;> intro _) | (apply EvH_bool <;> intro _)
    exact Kept.refl _
  · have hbN := hW.lt hb
    refine EvB_run (N := 8) Try.func43 rfl rfl ?_
    intro z hP hO hro hN hQ
    repeat' first | simp (config := { maxSteps := 2000000 }) (disch := first | omega | (repeat first | assumption | exact Kept.refl _ | refine Kept.set' (by assumption) ?_ ?_ | refine Kept.set (by assumption) ?_ ?_ | omega)) only [go_sem, *, Try.results43, Nat.reduceLT, Nat.reduceAdd, Nat.reduceMul, Nat.reduceSub, Nat.reduceEqDiff, Nat.reduceLeDiff, Int.reduceToNat, Int.reduceLT, Int.reduceLE, Int.reduceEq, Int.reduceNe, Int.reduceAdd, Int.reduceSub, Int.reduceMul, Int.reduceNeg, ↓reduceIte, reduceCtorEq] | (apply EvG_ndec <;> intro _) | (apply EvC_ndec <;> intro _) | (apply EvG_dec <;> intro _) | (apply EvC_dec <;> intro _) | refine EvK_draw (by cbv) (by first | rfl | cbv) ?_ | (apply EvH_ndec <;> intro _) | (apply EvH_dec <;> intro _) | (apply EvC_nbool <;> intro _) | (apply EvC_bool <;> intro _) | (apply EvG_nbool <;> intro _) | (apply EvG_bool <;> intro _) | (apply EvH_nbool <;> intro _) | (apply EvH_bool <;> intro _)
    all_goals refine .inr ⟨by simp, N, Nat.le_refl _, by omega, rfl, hW.kept (Nat.le_refl _), ?_⟩
    all_goals simp (disch := omega) only [go_sem, List.map_nil]
  · have hbN := hW.lt hb
    by_cases hx : xs.length = 0
    · obtain rfl : xs = [] := List.eq_nil_of_length_eq_zero hx
      refine EvB_run (N := 8) Try.func43 rfl rfl ?_
      intro z hP hO hro hN hQ
      repeat' first | simp (config := { maxSteps := 2000000 }) (disch := first | omega | (repeat first | assumption | exact Kept.refl _ | refine Kept.set' (by assumption) ?_ ?_ | refine Kept.set (by assumption) ?_ ?_ | omega)) only [go_sem, *, Try.results43, Nat.reduceLT, Nat.reduceAdd, Nat.reduceMul, Nat.reduceSub, Nat.reduceEqDiff, Nat.reduceLeDiff, Int.reduceToNat, Int.reduceLT, Int.reduceLE, Int.reduceEq, Int.reduceNe, Int.reduceAdd, Int.reduceSub, Int.reduceMul, Int.reduceNeg, ↓reduceIte, reduceCtorEq] | (apply EvG_ndec <;> intro _) | (apply EvC_ndec <;> intro _) | (apply EvG_dec <;> intro _) | (apply EvC_dec <;> intro _) | refine EvK_draw (by cbv) (by first | rfl | cbv) ?_ | (apply EvH_ndec <;> intro _) | (apply EvH_dec <;> intro _) | (apply EvC_nbool <;> intro _) | (apply EvC_bool <;> intro _) | (apply EvG_nbool <;> intro _) | (apply EvG_bool <;> intro _) | (apply EvH_nbool <;> intro _) | (apply EvH_bool <;> intro _)
      all_goals refine .inr ⟨by simp, N, Nat.le_refl _, by omega, rfl, hW.kept (Nat.le_refl _), ?_⟩
      all_goals simp (disch := omega) only [go_sem, List.map_nil]
    · refine EvB_run (N := 8) Try.func43 rfl rfl ?_
      intro z hP hO hro hN hQ
      repeat' first | simp (config := { maxSteps := 2000000 }) (disch := first | omega | (repeat first | assumption | exact Kept.refl _ | refine Kept.set' (by assumption) ?_ ?_ | refine Kept.set (by assumption) ?_ ?_ | omega)) only [go_sem, *, Try.results43, Nat.reduceLT, Nat.reduceAdd, Nat.reduceMul, Nat.reduceSub, Nat.reduceEqDiff, Nat.reduceLeDiff, Int.reduceToNat, Int.reduceLT, Int.reduceLE, Int.reduceEq, Int.reduceNe, Int.reduceAdd, Int.reduceSub, Int.reduceMul, Int.reduceNeg, ↓reduceIte, reduceCtorEq] | (apply EvG_ndec <;> intro _) | (apply EvC_ndec <;> intro _) | (apply EvG_dec <;> intro _) | (apply EvC_dec <;> intro _) | refine EvK_draw (by cbv) (by first | rfl | cbv) ?_ | (apply EvH_ndec <;> intro _) | (apply EvH_dec <;> intro _) | (apply EvC_nbool <;> intro _) | (apply EvC_bool <;> intro _) | (apply EvG_nbool <;> intro _) | (apply EvG_bool <;> intro _) | (apply EvH_nbool <;> intro _) | (apply EvH_bool <;> intro _)
      all_goals refine .inr ⟨by simp, N + 1, by omega, by omega, by rw [capOf_pos hx], (hW.kept (Nat.le_refl _)).set' hW (by omega), ?_⟩
      all_goals simp (disch := omega) only [go_sem]

theorem cfgRen {I : Nat → Nat → Prop} {Old : Value → Prop} {s s' : Value} {a1 a2 a3 a4 a5 a6 b1 b2 b3 b4 b5 b6 b7 b8 b9 : Int} (hs : VRen I Old s s') : VRens I Old [.int .i64 a1, .int .i64 a2, .int .u8 a3, .int .i64 a4, .int .u8 a5, .int .i64 a6, s, .int .i64 b1, .int .i64 b2, .int .i64 b3, .int .i64 b4, .int .i64 b5, .int .i64 b6, .int .i64 b7, .int .i64 b8, .int .i64 b9] [.int .i64 a1, .int .i64 a2, .int .u8 a3, .int .i64 a4, .int .u8 a5, .int .i64 a6, s', .int .i64 b1, .int .i64 b2, .int .i64 b3, .int .i64 b4, .int .i64 b5, .int .i64 b6, .int .i64 b7, .int .i64 b8, .int .i64 b9] :=
  .cons _ _ _ _ (.int _ _) (.cons _ _ _ _ (.int _ _) (.cons _ _ _ _ (.int _ _) (.cons _ _ _ _ (.int _ _) (.cons _ _ _ _ (.int _ _) (.cons _ _ _ _ (.int _ _) (.cons _ _ _ _ hs (.cons _ _ _ _ (.int _ _) (.cons _ _ _ _ (.int _ _) (.cons _ _ _ _ (.int _ _) (.cons _ _ _ _ (.int _ _) (.cons _ _ _ _ (.int _ _) (.cons _ _ _ _ (.int _ _) (.cons _ _ _ _ (.int _ _) (.cons _ _ _ _ (.int _ _) (.cons _ _ _ _ (.int _ _) .nil)))))))))))))))

/-- Config: the row's first sixteen cells, the cuts copied. -/
noncomputable def configS : List Value → Option (AP Value)
  | [.pointer (some ⟨lb, 0, none⟩)] => some <| AP.row lb fun (S : List Value) _ => match S.take 16 with
    | [.int .i64 th, .int .i64 sl, .int .u8 en, .int .i64 bu, .int .u8 kd, .int .i64 dn, s, .int .i64 t0, .int .i64 t1, .int .i64 t2, .int .i64 t3, .int .i64 t4, .int .i64 t5, .int .i64 lo, .int .i64 tr, .int .i64 ba] => match s with
      | .slice none 0 0 => .pure (.agg ⟨[.int .i64 th, .int .i64 sl, .int .u8 en, .int .i64 bu, .int .u8 kd, .int .i64 dn, .slice none 0 0, .int .i64 t0, .int .i64 t1, .int .i64 t2, .int .i64 t3, .int .i64 t4, .int .i64 t5, .int .i64 lo, .int .i64 tr, .int .i64 ba]⟩)
      | .slice (some ⟨b, off, sp⟩) len cap => AP.row b fun (L : List Value) _ => cond ((Nat.ble (off + len) L.length || Nat.beq len 0) && Nat.ble len 100000) (match decInts .u64 ((L.drop off).take len) with
        | some xs => .newRow (xs.map (.int .u64)) fun g => .pure (.agg ⟨[.int .i64 th, .int .i64 sl, .int .u8 en, .int .i64 bu, .int .u8 kd, .int .i64 dn, .slice (some ⟨g, 0, none⟩) len (capOf len), .int .i64 t0, .int .i64 t1, .int .i64 t2, .int .i64 t3, .int .i64 t4, .int .i64 t5, .int .i64 lo, .int .i64 tr, .int .i64 ba]⟩)
        | none => .fail "") (.fail "")
      | _ => .fail ""
    | _ => .fail ""
  | _ => none

set_option maxRecDepth 100000 in
set_option maxHeartbeats 4000000 in
theorem configF : SoundF Try.prog 18 configS := by
  refine soundF (tab_sound .nil) orders ?_
  intro args m hm h n N Old OldId v h1 n1 hr hold hid hN
  unfold configS at hm
  split at hm
  · rename_i lb
    simp only [Option.some.injEq] at hm
    subst hm
    replace hr := run_row hr
    obtain ⟨S, aro, hS, hr⟩ := hr
    split at hr
    · rename_i th sl en bu kd dn s t0 t1 t2 t3 t4 t5 lo tr ba hcf
      have hlt : ∀ i B, h.get i = some B → i < N := fun i B e => (hid i (hold.id i B e)).1
      have hW := WfH.of_lt hlt
      have hlb := hlt _ _ hS
      have hSl : Nat.ble 16 S.length = true := by
        have := congrArg List.length hcf; simp at this
        exact Nat.ble_eq_true_of_le (by omega)
      split at hr
      · obtain ⟨hs, rfl⟩ := run_pure hr
        clear hr
        have e1 : h1 = h := congrArg HS.heap hs
        have e2 : n1 = n := congrArg HS.next hs
        subst e1 e2
        refine EvB_run (N := 18) Try.func18 rfl rfl ?_
        intro z hP hO hro hNz hQ
        repeat' first | simp (config := { maxSteps := 2000000 }) (disch := first | omega | (repeat first | assumption | exact Kept.refl _ | refine Kept.set' (by assumption) ?_ ?_ | refine Kept.set (by assumption) ?_ ?_ | omega)) only [go_sem, *, Try.results18, Nat.reduceLT, Nat.reduceAdd, Nat.reduceMul, Nat.reduceSub, Nat.reduceEqDiff, Nat.reduceLeDiff, Int.reduceToNat, Int.reduceLT, Int.reduceLE, Int.reduceEq, Int.reduceNe, Int.reduceAdd, Int.reduceSub, Int.reduceMul, Int.reduceNeg, ↓reduceIte, reduceCtorEq] | (apply EvG_ndec <;> intro _) | (apply EvC_ndec <;> intro _) | (apply EvG_dec <;> intro _) | (apply EvC_dec <;> intro _) | refine EvK_draw (by cbv) (by first | rfl | cbv) ?_ | (apply EvH_ndec <;> intro _) | (apply EvH_dec <;> intro _) | (apply EvC_nbool <;> intro _) | (apply EvC_bool <;> intro _) | (apply EvG_nbool <;> intro _) | (apply EvG_bool <;> intro _) | (apply EvH_nbool <;> intro _) | (apply EvH_bool <;> intro _)
        refine EvQ_call ?_ ?_ (by rw [hP, hO]; exact (cloneX _ [] _ _ (by (repeat refine WfH.set' (by omega) ?_); first | assumption | exact WfH.mono (by assumption) (by omega)) (.inl ⟨rfl, rfl⟩) (by simp)).wf (by (repeat refine WfH.set' (by omega) ?_); first | assumption | exact WfH.mono (by assumption) (by omega))) ?_
        · simp (config := { maxSteps := 2000000 }) (disch := first | omega | (repeat first | assumption | exact Kept.refl _ | refine Kept.set' (by assumption) ?_ ?_ | refine Kept.set (by assumption) ?_ ?_ | omega)) only [go_sem, *, Nat.reduceLT, Nat.reduceAdd, Nat.reduceMul, Nat.reduceSub, Nat.reduceEqDiff, Nat.reduceLeDiff, Int.reduceToNat, Int.reduceLT, Int.reduceLE, Int.reduceEq, Int.reduceNe, Int.reduceAdd, Int.reduceSub, Int.reduceMul, Int.reduceNeg, ↓reduceIte, reduceCtorEq]
        · simp (config := { maxSteps := 2000000 }) (disch := first | omega | (repeat first | assumption | exact Kept.refl _ | refine Kept.set' (by assumption) ?_ ?_ | refine Kept.set (by assumption) ?_ ?_ | omega)) only [go_sem, *, Nat.reduceLT, Nat.reduceAdd, Nat.reduceMul, Nat.reduceSub, Nat.reduceEqDiff, Nat.reduceLeDiff, Int.reduceToNat, Int.reduceLT, Int.reduceLE, Int.reduceEq, Int.reduceNe, Int.reduceAdd, Int.reduceSub, Int.reduceMul, Int.reduceNeg, ↓reduceIte, reduceCtorEq]
        · rintro v h2 n2 ⟨⟨_, rfl, hk⟩ | ⟨hne, _⟩, hn2, hW2⟩
          · have e1 := hk (N + 1) _ heap_same
            have e2 := hk N _ (by rw [PT.get_set_ne _ _ (by omega), PT.get_set_ne _ _ (by omega), PT.get_set_same])
            have hk2 : ∀ i B, h1.get i = some B → h2.get i = some B := fun i B e => hk i B (by have := hlt i B e; simp (disch := omega) only [heap_ne, e])
            clear hk hid hold
            repeat' first | simp (config := { maxSteps := 2000000 }) (disch := first | omega | (repeat first | assumption | exact Kept.refl _ | refine Kept.set' (by assumption) ?_ ?_ | refine Kept.set (by assumption) ?_ ?_ | omega)) only [go_sem, *, Try.results18, Nat.reduceLT, Nat.reduceAdd, Nat.reduceMul, Nat.reduceSub, Nat.reduceEqDiff, Nat.reduceLeDiff, Int.reduceToNat, Int.reduceLT, Int.reduceLE, Int.reduceEq, Int.reduceNe, Int.reduceAdd, Int.reduceSub, Int.reduceMul, Int.reduceNeg, ↓reduceIte, reduceCtorEq] | (apply EvG_ndec <;> intro _) | (apply EvC_ndec <;> intro _) | (apply EvG_dec <;> intro _) | (apply EvC_dec <;> intro _) | refine EvK_draw (by cbv) (by first | rfl | cbv) ?_ | (apply EvH_ndec <;> intro _) | (apply EvH_dec <;> intro _) | (apply EvC_nbool <;> intro _) | (apply EvC_bool <;> intro _) | (apply EvG_nbool <;> intro _) | (apply EvG_bool <;> intro _) | (apply EvH_nbool <;> intro _) | (apply EvH_bool <;> intro _)
            exact ⟨fun _ => N, fun i q1 q2 => by omega, fun i j q1 q2 q3 q4 _ => by omega, .agg _ _ (cfgRen (.nilslice 0 0)), fun i B e => .inl ⟨e, by have := hlt i B e; simp (disch := omega) only [heap_ne, hk2 i B e]⟩⟩
          · exact absurd rfl hne
      · rename_i b off sp len cap
        replace hr := run_row hr
        obtain ⟨L, ro, hL, hr⟩ := hr
        replace hr := run_cond hr
        obtain ⟨hc, hr⟩ := hr
        simp only [Bool.and_eq_true] at hc
        split at hr
        · rename_i xs hxs
          replace hr := run_new hr
          obtain ⟨hs, rfl⟩ := run_pure hr
          have e1 : h1 = _ := congrArg HS.heap hs
          have e2 : n1 = _ := congrArg HS.next hs
          simp only [S0] at e1 e2
          subst e1 e2
          clear hs hr
          obtain ⟨hc1, hc2⟩ := hc
          have hc2 := Nat.le_of_ble_eq_true hc2
          have hxl : xs.length = len := by
            have := congrArg List.length (decInts_eq hxs)
            rw [List.length_take, List.length_drop, List.length_map] at this
            rw [Bool.or_eq_true] at hc1
            rcases hc1 with hc1 | hc1
            · have := Nat.le_of_ble_eq_true hc1; omega
            · have := Nat.eq_of_beq_eq_true hc1; omega
          have hI : IsInts .u64 h (.slice (some ⟨b, off, sp⟩) len cap) xs := .inr ⟨b, off, sp, cap, L, ro, by rw [hxl], hL, by rw [hxl]; exact hc1, by rw [hxl]; exact decInts_eq hxs⟩
          refine EvB_run (N := 18) Try.func18 rfl rfl ?_
          intro z hP hO hro hNz hQ
          repeat' first | simp (config := { maxSteps := 2000000 }) (disch := first | omega | (repeat first | assumption | exact Kept.refl _ | refine Kept.set' (by assumption) ?_ ?_ | refine Kept.set (by assumption) ?_ ?_ | omega)) only [go_sem, *, Try.results18, Nat.reduceLT, Nat.reduceAdd, Nat.reduceMul, Nat.reduceSub, Nat.reduceEqDiff, Nat.reduceLeDiff, Int.reduceToNat, Int.reduceLT, Int.reduceLE, Int.reduceEq, Int.reduceNe, Int.reduceAdd, Int.reduceSub, Int.reduceMul, Int.reduceNeg, ↓reduceIte, reduceCtorEq] | (apply EvG_ndec <;> intro _) | (apply EvC_ndec <;> intro _) | (apply EvG_dec <;> intro _) | (apply EvC_dec <;> intro _) | refine EvK_draw (by cbv) (by first | rfl | cbv) ?_ | (apply EvH_ndec <;> intro _) | (apply EvH_dec <;> intro _) | (apply EvC_nbool <;> intro _) | (apply EvC_bool <;> intro _) | (apply EvG_nbool <;> intro _) | (apply EvG_bool <;> intro _) | (apply EvH_nbool <;> intro _) | (apply EvH_bool <;> intro _)
          refine EvQ_call ?_ ?_ (by rw [hP, hO]; exact (cloneX _ xs _ _ (by (repeat refine WfH.set' (by omega) ?_); first | assumption | exact WfH.mono (by assumption) (by omega)) (hI.keep (by (repeat first | assumption | exact Kept.refl _ | refine Kept.set' (by assumption) ?_ ?_ | omega))) (by omega)).wf (by (repeat refine WfH.set' (by omega) ?_); first | assumption | exact WfH.mono (by assumption) (by omega))) ?_
          · simp (config := { maxSteps := 2000000 }) (disch := first | omega | (repeat first | assumption | exact Kept.refl _ | refine Kept.set' (by assumption) ?_ ?_ | refine Kept.set (by assumption) ?_ ?_ | omega)) only [go_sem, *, Nat.reduceLT, Nat.reduceAdd, Nat.reduceMul, Nat.reduceSub, Nat.reduceEqDiff, Nat.reduceLeDiff, Int.reduceToNat, Int.reduceLT, Int.reduceLE, Int.reduceEq, Int.reduceNe, Int.reduceAdd, Int.reduceSub, Int.reduceMul, Int.reduceNeg, ↓reduceIte, reduceCtorEq]
          · simp (config := { maxSteps := 2000000 }) (disch := first | omega | (repeat first | assumption | exact Kept.refl _ | refine Kept.set' (by assumption) ?_ ?_ | refine Kept.set (by assumption) ?_ ?_ | omega)) only [go_sem, *, Nat.reduceLT, Nat.reduceAdd, Nat.reduceMul, Nat.reduceSub, Nat.reduceEqDiff, Nat.reduceLeDiff, Int.reduceToNat, Int.reduceLT, Int.reduceLE, Int.reduceEq, Int.reduceNe, Int.reduceAdd, Int.reduceSub, Int.reduceMul, Int.reduceNeg, ↓reduceIte, reduceCtorEq]
          · rintro v h2 n2 ⟨⟨hne, _⟩ | ⟨_, g, hg1, hg2, rfl, hk, hgg⟩, hn2, hW2⟩
            · simp at hne
            · have e1 := hk (N + 1) _ heap_same
              have e2 := hk N _ (by rw [PT.get_set_ne _ _ (by omega), PT.get_set_ne _ _ (by omega), PT.get_set_same])
              have hk2 : ∀ i B, h.get i = some B → h2.get i = some B := fun i B e => hk i B (by have := hlt i B e; simp (disch := omega) only [heap_ne, e])
              clear hk
              repeat' first | simp (config := { maxSteps := 2000000 }) (disch := first | omega | (repeat first | assumption | exact Kept.refl _ | refine Kept.set' (by assumption) ?_ ?_ | refine Kept.set (by assumption) ?_ ?_ | omega)) only [go_sem, *, Try.results18, Nat.reduceLT, Nat.reduceAdd, Nat.reduceMul, Nat.reduceSub, Nat.reduceEqDiff, Nat.reduceLeDiff, Int.reduceToNat, Int.reduceLT, Int.reduceLE, Int.reduceEq, Int.reduceNe, Int.reduceAdd, Int.reduceSub, Int.reduceMul, Int.reduceNeg, ↓reduceIte, reduceCtorEq] | (apply EvG_ndec <;> intro _) | (apply EvC_ndec <;> intro _) | (apply EvG_dec <;> intro _) | (apply EvC_dec <;> intro _) | refine EvK_draw (by cbv) (by first | rfl | cbv) ?_ | (apply EvH_ndec <;> intro _) | (apply EvH_dec <;> intro _) | (apply EvC_nbool <;> intro _) | (apply EvC_bool <;> intro _) | (apply EvG_nbool <;> intro _) | (apply EvG_bool <;> intro _) | (apply EvH_nbool <;> intro _) | (apply EvH_bool <;> intro _)
              have hnew : IdR OldId n (n + 1) (fun _ => g) n g := .inr ⟨Nat.le_refl _, Nat.lt_succ_self _, rfl⟩
              refine ⟨fun _ => g, fun i q1 q2 => (by omega : N ≤ g), fun i j q1 q2 q3 q4 _ => by omega, .agg _ _ (cfgRen (.slice n 0 len (capOf len) g hnew)), fun i B e => ?_⟩
              rw [PT.get_set] at e
              split at e
              · rename_i hi; subst hi
                obtain rfl := Option.some.inj e
                refine .inr ⟨_, ?_, .cells _ _ _ (VRens.refl _ fun u hu => ?_)⟩
                · rw [sg_new (by omega)]
                  simp (disch := omega) only [heap_ne]
                  exact hgg
                · obtain ⟨x, _, rfl⟩ := List.mem_map.1 hu
                  exact .int _ _
              · have := hlt i B e
                refine .inl ⟨e, ?_⟩
                simp (disch := omega) only [heap_ne, hk2 i B e]
        · exact (run_fail hr).elim
      · exact (run_fail hr).elim
    · exact (run_fail hr).elim
  · simp at hm
end Go.Proofs.Ytakfjoelpploeaa

set_option linter.unusedVariables false
set_option linter.unusedSimpArgs false
namespace Go.Proofs.Ytakfjoelpploeaa
open Go.Am

theorem ofNat_asNat {m : Nat} : asNat (.int .i64 (m : Int)) = some m := rfl

theorem OwnInts.lower {k : IntKind} {h : PT ABlk} {lo lo' hi : Nat} {s : Value} {xs : List Int} (hs : OwnInts k h lo hi s xs) (hl : lo' ≤ lo) : OwnInts k h lo' hi s xs := by
  rcases hs with hs | ⟨b, cap, e, h1, h2, h3⟩
  · exact .inl hs
  · exact .inr ⟨b, cap, e, by omega, h2, h3⟩
/-- The first numbers of a slice. -/
theorem cut_take {h : PT ABlk} {a : Option Addr} {cap m : Nat} {xs : List Int} (hs : IsInts .u64 h (.slice a xs.length cap) xs) (hc : xs.length ≤ cap) (hc2 : cap < capInf) (hm : m ≤ xs.length) :
    ∃ a', slV Try.prog 26 (.slice a xs.length cap) none (some (.int .i64 (m : Int))) none = .pure (.value (.slice a' (xs.take m).length cap)) ∧ IsInts .u64 h (.slice a' (xs.take m).length cap) (xs.take m) := by
  have hl : (xs.take m).length = m := by rw [List.length_take]; omega
  rcases hs with ⟨e, rfl⟩ | ⟨b, off, sp, cap', L, ro, e, hb, hB, hT⟩
  · injection e with e1 e2 e3
    subst e1 e3
    obtain rfl : m = 0 := by simpa using hm
    exact ⟨none, rfl, .inl ⟨rfl, rfl⟩⟩
  · injection e with e1 e2 e3
    subst e1 e3
    have hk : Nat.ble capInf cap = false := by
      cases hq : Nat.ble capInf cap with
      | false => rfl
      | true => have := Nat.le_of_ble_eq_true hq; omega
    have hT2 : ((L.drop off).take m) = (xs.take m).map (.int .u64) := by
      have : (List.map (Value.int .u64) xs).take m = (xs.take m).map (.int .u64) := (List.map_take).symm
      rw [← this, ← hT, List.take_take, Nat.min_eq_left hm]
    have hB2 : (Nat.ble (off + m) L.length || Nat.beq m 0) = true := by
      simp only [Bool.or_eq_true] at hB ⊢
      rcases hB with hB | hB
      · left; have := Nat.le_of_ble_eq_true hB; exact Nat.ble_eq_true_of_le (by omega)
      · have := Nat.eq_of_beq_eq_true hB
        right; rw [show m = 0 by omega]; rfl
    have key : ∃ sp', slV Try.prog 26 (.slice (some ⟨b, off, sp⟩) xs.length cap) none (some (.int .i64 (m : Int))) none = .pure (.value (.slice (some ⟨b, off, sp'⟩) m cap)) := by
      have hi : iaT Try.prog 26 = some (none, 1) := rfl
      simp only [slV_slice, hi, slW_some, boundOr_none, boundOr_some, ofNat_asNat, slK, hk, cond_false]
      rw [show Nat.ble 0 m = true from Nat.ble_eq_true_of_le (Nat.zero_le _), Nat.ble_eq_true_of_le (show m ≤ cap by omega)]
      simp only [Bool.and_self, cond_true, Nat.sub_zero, aAdd, Nat.zero_mul, Nat.add_zero]
      cases Nat.beq cap 0 with
      | true => exact ⟨sp, rfl⟩
      | false => exact ⟨none, rfl⟩
    obtain ⟨sp', key⟩ := key
    rw [hl]
    exact ⟨some ⟨b, off, sp'⟩, key, .inr ⟨b, off, sp', cap, L, ro, by rw [hl], hb, by rw [hl]; exact hB2, by rw [hl]; exact hT2⟩⟩

set_option maxRecDepth 100000 in
set_option maxHeartbeats 4000000 in
theorem cutC {O : Over} (th sl en bu kd dn t0 t1 t2 t3 t4 t5 lo tr ba : Int) (s : Value) (xs : List Int) (h : PT ABlk) (N : Nat) (hW : WfH h N) (hs : IsInts .u64 h s xs) (hl : xs.length < 1000000000000000) (hcap : ∀ a n c, s = .slice a n c → n ≤ c ∧ c < capInf) :
    EvB Try.prog O 13 [.agg ⟨[.int .i64 th, .int .i64 sl, .int .u8 en, .int .i64 bu, .int .u8 kd, .int .i64 dn, s, .int .i64 t0, .int .i64 t1, .int .i64 t2, .int .i64 t3, .int .i64 t4, .int .i64 t5, .int .i64 lo, .int .i64 tr, .int .i64 ba]⟩] h N
      fun v h' n' => ∃ cv, v = .agg ⟨[.int .i64 th, .int .i64 sl, .int .u8 en, .int .i64 bu, .int .u8 kd, .int .i64 dn, cv, .int .i64 t0, .int .i64 t1, .int .i64 t2, .int .i64 t3, .int .i64 t4, .int .i64 t5, .int .i64 lo, .int .i64 tr, .int .i64 ba]⟩ ∧ OwnInts .u64 h' N n' cv (xs.take 100) ∧ Kept h h' := by
  obtain ⟨a, cap, rfl, -⟩ := hs.len
  obtain ⟨hc1, hc2⟩ := hcap _ _ _ rfl
  have h7 : (xs.take 100).length = min 100 xs.length := List.length_take
  obtain ⟨a', hsl, hI⟩ := cut_take hs hc1 hc2 (m := (xs.take 100).length) (by omega)
  have ht : xs.take (xs.take 100).length = xs.take 100 := by
    rw [h7]; by_cases h8 : xs.length ≤ 100
    · rw [Nat.min_eq_right h8, List.take_of_length_le (Nat.le_refl _), List.take_of_length_le h8]
    · rw [Nat.min_eq_left (by omega)]
  rw [ht] at hsl hI
  have h6 : (if (100 : Int) < (xs.length : Int) then (100 : Int) else (xs.length : Int)) = ((xs.take 100).length : Int) := by rw [h7]; split <;> omega
  have h8 : (xs.take 100).length ≤ 100 := by omega
  clear hs hcap ht hc1 hc2 h7
  refine EvB_run (N := 17) Try.func13 rfl rfl ?_
  intro z hP hO hro hN hQ
  repeat' first | simp (config := { maxSteps := 2000000 }) (disch := first | omega | (repeat first | assumption | exact Kept.refl _ | refine Kept.set' (by assumption) ?_ ?_ | refine Kept.set (by assumption) ?_ ?_ | omega)) only [go_sem, *, Try.results13, Nat.reduceLT, Nat.reduceAdd, Nat.reduceMul, Nat.reduceSub, Nat.reduceEqDiff, Nat.reduceLeDiff, Int.reduceToNat, Int.reduceLT, Int.reduceLE, Int.reduceEq, Int.reduceNe, Int.reduceAdd, Int.reduceSub, Int.reduceMul, Int.reduceNeg, ↓reduceIte, reduceCtorEq] | (apply EvG_ndec <;> intro _) | (apply EvC_ndec <;> intro _) | (apply EvG_dec <;> intro _) | (apply EvC_dec <;> intro _) | refine EvK_draw (by cbv) (by first | rfl | cbv) ?_ | (apply EvH_ndec <;> intro _) | (apply EvH_dec <;> intro _) | (apply EvC_nbool <;> intro _) | (apply EvC_bool <;> intro _) | (apply EvG_nbool <;> intro _) | (apply EvG_bool <;> intro _) | (apply EvH_nbool <;> intro _) | (apply EvH_bool <;> intro _)
  refine EvV_via2 _ (copy_runS (hI.keep ?_) ?_ ?_ (by omega)) ?_
  · (repeat first | assumption | exact Kept.refl _ | refine Kept.set' (by assumption) ?_ ?_ | omega)
  · (repeat refine WfH.set' (by omega) ?_); first | assumption | exact WfH.mono (by assumption) (by omega)
  · simp (config := { maxSteps := 2000000 }) (disch := first | omega | (repeat first | assumption | exact Kept.refl _ | refine Kept.set' (by assumption) ?_ ?_ | refine Kept.set (by assumption) ?_ ?_ | omega)) only [go_sem, *, Nat.reduceLT, Nat.reduceAdd, Nat.reduceMul, Nat.reduceSub, Nat.reduceEqDiff, Nat.reduceLeDiff, Int.reduceToNat, Int.reduceLT, Int.reduceLE, Int.reduceEq, Int.reduceNe, Int.reduceAdd, Int.reduceSub, Int.reduceMul, Int.reduceNeg, ↓reduceIte, reduceCtorEq]
  · rintro cv h2 n2 ⟨hn2, hW2, hcv, hk2, hsame⟩
    obtain ⟨ca, cc, rfl, -⟩ := hcv.isInts.len
    have e2 : h2.get (N + 1) = _ := (hsame (N + 1) (by omega)).trans (by rw [heap_ne (by omega), heap_same])
    have e1 : h2.get N = _ := (hsame N (by omega)).trans (by rw [heap_ne (by omega), heap_ne (by omega), heap_same])
    have hkh : ∀ i, i < N → h2.get i = h.get i := fun i hi => (hsame i (by omega)).trans (by rw [heap_ne (by omega), heap_ne (by omega), heap_ne (by omega)])
    clear hsame hk2
    repeat' first | simp (config := { maxSteps := 2000000 }) (disch := first | omega | (repeat first | assumption | exact Kept.refl _ | refine Kept.set' (by assumption) ?_ ?_ | refine Kept.set (by assumption) ?_ ?_ | omega)) only [go_sem, *, Try.results13, Nat.reduceLT, Nat.reduceAdd, Nat.reduceMul, Nat.reduceSub, Nat.reduceEqDiff, Nat.reduceLeDiff, Int.reduceToNat, Int.reduceLT, Int.reduceLE, Int.reduceEq, Int.reduceNe, Int.reduceAdd, Int.reduceSub, Int.reduceMul, Int.reduceNeg, ↓reduceIte, reduceCtorEq] | (apply EvG_ndec <;> intro _) | (apply EvC_ndec <;> intro _) | (apply EvG_dec <;> intro _) | (apply EvC_dec <;> intro _) | refine EvK_draw (by cbv) (by first | rfl | cbv) ?_ | (apply EvH_ndec <;> intro _) | (apply EvH_dec <;> intro _) | (apply EvC_nbool <;> intro _) | (apply EvC_bool <;> intro _) | (apply EvG_nbool <;> intro _) | (apply EvG_bool <;> intro _) | (apply EvH_nbool <;> intro _) | (apply EvH_bool <;> intro _)
    exact ⟨_, rfl, ((hcv.low (by omega)).low (by omega)).lower (by omega), fun i B e => by have hi := hW.lt e; simp (disch := omega) only [heap_ne, hkh i hi, e]⟩
end Go.Proofs.Ytakfjoelpploeaa

set_option linter.unusedVariables false
set_option linter.unusedSimpArgs false
namespace Go.Proofs.Ytakfjoelpploeaa
open Go.Am

def eqAll : List Int → List Int → AP Bool
  | x :: xs, y :: ys => cond (x == y) (eqAll xs ys) (.pure false)
  | _, _ => .pure true
theorem eqAll_self : ∀ xs : List Int, eqAll xs xs = .pure true
  | [] => rfl
  | x :: xs => by simp [eqAll, eqAll_self xs]
theorem guard44 : Try.prog.eqGuardType Try.prog.depth 44 = false := by kernel_rfl
theorem aEqual44 (p0 p1 p2 p3 p4 p5 p6 p7 p8 p9 q0 q1 q2 q3 q4 q5 q6 q7 q8 q9 : Int) : aEqual Try.prog 12 44 (.agg ⟨[.int .i64 p0, .int .i64 p1, .int .i64 p2, .int .i64 p3, .int .i64 p4, .int .i64 p5, .int .i64 p6, .int .i64 p7, .int .i64 p8, .int .i64 p9]⟩) (.agg ⟨[.int .i64 q0, .int .i64 q1, .int .i64 q2, .int .i64 q3, .int .i64 q4, .int .i64 q5, .int .i64 q6, .int .i64 q7, .int .i64 q8, .int .i64 q9]⟩) =
    eqAll [p0, p1, p2, p3, p4, p5, p6, p7, p8, p9] [q0, q1, q2, q3, q4, q5, q6, q7, q8, q9] := by kernel_rfl
theorem eq44 (p0 p1 p2 p3 p4 p5 p6 p7 p8 p9 : Int) (cx cy : Bool) : binV Try.prog .eql 44 cx cy (.agg ⟨[.int .i64 p0, .int .i64 p1, .int .i64 p2, .int .i64 p3, .int .i64 p4, .int .i64 p5, .int .i64 p6, .int .i64 p7, .int .i64 p8, .int .i64 p9]⟩) (.agg ⟨[.int .i64 p0, .int .i64 p1, .int .i64 p2, .int .i64 p3, .int .i64 p4, .int .i64 p5, .int .i64 p6, .int .i64 p7, .int .i64 p8, .int .i64 p9]⟩) = .pure (.value (.bool true)) := by
  simp only [binV, aBinOp, eqGuardOk, guard44, Bool.not_false, cond_true, aEqual44, eqAll_self, AP.bind]
end Go.Proofs.Ytakfjoelpploeaa

set_option linter.unusedVariables false
set_option linter.unusedSimpArgs false
namespace Go.Proofs.Ytakfjoelpploeaa
open Go.Am

/-- field.Top of a small number. -/
def topS : List Value → Option (AP Value)
  | [.int .u64 w, .int .i64 i] => if w = 0 ∧ 0 ≤ i ∧ i ≤ 1024 then some (.pure (.tuple ⟨[.int .u64 i, .int .i64 0]⟩)) else none
  | _ => none
set_option maxRecDepth 100000 in
theorem topF : SoundF Try.prog 53 topS := by
  refine soundF_query (tab_sound .nil) orders ?_
  intro args m hm
  unfold topS at hm
  split at hm
  · rename_i w i
    split at hm
    · rename_i hc
      obtain ⟨rfl, h0, h1⟩ := hc
      simp only [Option.some.injEq] at hm
      subst hm
      refine ⟨fun h v => v = .tuple ⟨[.int .u64 i, .int .i64 0]⟩, fun h n v s' _ e => ?_, fun h N v hlt hv => ?_⟩
      · obtain ⟨h1, rfl⟩ := run_pure e
        exact ⟨h1, .tuple _ (by simp; exact ⟨.int _ _, .int _ _⟩), rfl⟩
      · subst hv
        have e1 : ¬ i < 0 := by omega
        have e2 : ¬ (1024 : Int) < i := by omega
        refine EvB_run (N := 21) Try.func53 rfl rfl ?_
        intro z hP hO hro hN hQ
        repeat' first | simp (config := { maxSteps := 2000000 }) (disch := first | omega | (repeat first | assumption | exact Kept.refl _ | refine Kept.set' (by assumption) ?_ ?_ | refine Kept.set (by assumption) ?_ ?_ | omega)) only [go_sem, *, Try.results53, Nat.reduceLT, Nat.reduceAdd, Nat.reduceMul, Nat.reduceSub, Nat.reduceEqDiff, Nat.reduceLeDiff, Int.reduceToNat, Int.reduceLT, Int.reduceLE, Int.reduceEq, Int.reduceNe, Int.reduceAdd, Int.reduceSub, Int.reduceMul, Int.reduceNeg, ↓reduceIte, reduceCtorEq] | (apply EvG_ndec <;> intro _) | (apply EvC_ndec <;> intro _) | (apply EvG_dec <;> intro _) | (apply EvC_dec <;> intro _) | refine EvK_draw (by cbv) (by first | rfl | cbv) ?_ | (apply EvH_ndec <;> intro _) | (apply EvH_dec <;> intro _) | (apply EvC_nbool <;> intro _) | (apply EvC_bool <;> intro _) | (apply EvG_nbool <;> intro _) | (apply EvG_bool <;> intro _) | (apply EvH_nbool <;> intro _) | (apply EvH_bool <;> intro _)
        simp
    · simp at hm
  · simp at hm
end Go.Proofs.Ytakfjoelpploeaa

set_option linter.unusedVariables false
set_option linter.unusedSimpArgs false
namespace Go.Proofs.Ytakfjoelpploeaa

/-- The number of the first tower of a height, the list's first tower being the b-th; 0 if there is none. -/
def fs : List Int → Int → Int → Int
  | [], _, _ => 0
  | x :: xs, h, b => if x = h then b else fs xs h (b + 1)

theorem fs_append : ∀ (L M : List Int) (h b : Int), fs (L ++ M) h b = if h ∈ L then fs L h b else fs M h (b + L.length)
  | [], M, h, b => by simp [fs]
  | x :: L, M, h, b => by
    rw [List.cons_append, fs, fs, fs_append L M h (b + 1)]
    by_cases e : x = h
    · simp [e]
    · have e' : ¬ h = x := fun q => e q.symm
      simp only [if_neg e, List.mem_cons, e', false_or, List.length_cons]
      split
      · rfl
      · congr 1; omega
theorem fs_none : ∀ (L : List Int) (h b : Int), ¬ h ∈ L → fs L h b = 0
  | [], _, _, _ => rfl
  | x :: L, h, b, e => by
    simp only [List.mem_cons, not_or] at e
    rw [fs, if_neg (fun q => e.1 q.symm), fs_none L h (b + 1) e.2]

/-- The words after the towers from the t-th on were pushed. -/
def iniAt (p5 p6 : Nat) (H : List Int) (t k : Nat) : Int :=
  if p6 + t ≤ k ∧ k < p6 + H.length then fs (H.drop (k - p6 + 1)) (H.getD (k - p6) 0) (((k - p6 : Nat) : Int) + 2)
  else if p5 ≤ k ∧ k < p5 + 6 then fs (H.drop t) (((k - p5 : Nat) : Int) + 1) ((t : Int) + 1) else 0
def iniL (p5 p6 sz : Nat) (H : List Int) (t : Nat) : List Int := (List.range sz).map (iniAt p5 p6 H t)
/-- The words after the first i towers were seen. -/
def fwdAt (p5 p6 : Nat) (H : List Int) (i k : Nat) : Int :=
  if p6 ≤ k ∧ k < p6 + H.length then (if k - p6 + 1 < i ∧ H.getD (k - p6 + 1) 0 = H.getD (k - p6) 0 then ((k - p6 : Nat) : Int) + 2 else 0)
  else if p5 ≤ k ∧ k < p5 + 6 then fs (H.take i) (((k - p5 : Nat) : Int) + 1) 1 else 0
def fwdL (p5 p6 sz : Nat) (H : List Int) (i : Nat) : List Int := (List.range sz).map (fwdAt p5 p6 H i)

theorem iniL_length (p5 p6 sz : Nat) (H : List Int) (t : Nat) : (iniL p5 p6 sz H t).length = sz := by simp [iniL]
theorem fwdL_length (p5 p6 sz : Nat) (H : List Int) (t : Nat) : (fwdL p5 p6 sz H t).length = sz := by simp [fwdL]
theorem map_range_set {f : Nat → Int} {sz j : Nat} {v : Int} : ((List.range sz).map f).set j v = (List.range sz).map fun k => if k = j then v else f k := by
  apply List.ext_getElem?
  intro k
  rw [List.getElem?_set, List.getElem?_map, List.getElem?_map, List.length_map, List.length_range]
  by_cases hk : j = k
  · subst hk
    by_cases hj : j < sz
    · simp [hj]
    · simp [hj]
  · have hk' : ¬ k = j := fun e => hk e.symm
    simp only [if_neg hk]
    by_cases hj : k < sz
    · simp [hj, hk']
    · simp [hj]
theorem map_range_getD {f : Nat → Int} {sz j : Nat} (hj : j < sz) : ((List.range sz).map f).getD j 0 = f j := by
  simp [List.getD, hj]

theorem iniL_last (p5 p6 sz : Nat) (H : List Int) : iniL p5 p6 sz H H.length = List.replicate sz 0 := by
  apply List.ext_getElem?
  intro k
  simp only [iniL, List.getElem?_map, List.getElem?_replicate]
  by_cases hk : k < sz
  · simp only [List.getElem?_range hk, hk, if_true, Option.map_some, iniAt, List.drop_length, fs]
    rw [if_neg (by omega)]; simp
  · simp [hk]
theorem fwdL_zero (p5 p6 sz : Nat) (H : List Int) : fwdL p5 p6 sz H 0 = List.replicate sz 0 := by
  apply List.ext_getElem?
  intro k
  simp only [fwdL, List.getElem?_map, List.getElem?_replicate]
  by_cases hk : k < sz
  · simp only [List.getElem?_range hk, hk, if_true, Option.map_some, fwdAt, List.take_zero, fs]
    simp
  · simp [hk]

theorem drop_one {H : List Int} {t : Nat} (ht : t < H.length) : H.drop t = H.getD t 0 :: H.drop (t + 1) := by
  rw [List.drop_eq_getElem_cons ht]; simp [List.getD, ht]

/-- The reference's step. -/
theorem iniL_step {p5 p6 sz : Nat} {H : List Int} {t h : Nat} (h6 : p5 + 6 = p6) (hs : p6 + H.length ≤ sz) (ht : t < H.length) (hh : H.getD t 0 = (h : Int)) (h1 : 1 ≤ h) (h2 : h ≤ 6) :
    iniL p5 p6 sz H t = ((iniL p5 p6 sz H (t + 1)).set (p6 + t) ((iniL p5 p6 sz H (t + 1)).getD (p5 + h - 1) 0)).set (p5 + h - 1) ((t : Int) + 1) := by
  unfold iniL
  rw [map_range_getD (by omega), map_range_set, map_range_set]
  apply List.map_congr_left
  intro k hk
  rw [List.mem_range] at hk
  by_cases e1 : k = p5 + h - 1
  · subst e1
    simp only [if_true]
    unfold iniAt
    rw [if_neg (by omega), if_pos (by omega), drop_one ht, fs, if_pos (by rw [hh]; omega)]
  · rw [if_neg e1]
    by_cases e2 : k = p6 + t
    · subst e2
      rw [if_pos rfl]
      unfold iniAt
      rw [if_pos (by omega), if_neg (by omega), if_pos (by omega), show p6 + t - p6 = t by omega, hh]
      congr 1 <;> omega
    · rw [if_neg e2]
      unfold iniAt
      by_cases e3 : p6 + t ≤ k ∧ k < p6 + H.length
      · rw [if_pos e3, if_pos (by omega)]
      · have e4 : ¬ (p6 + (t + 1) ≤ k ∧ k < p6 + H.length) := by omega
        rw [if_neg e3, if_neg e4]
        by_cases e5 : p5 ≤ k ∧ k < p5 + 6
        · rw [if_pos e5, if_pos e5, drop_one ht, fs, if_neg (by rw [hh]; omega)]
          congr 1
        · rw [if_neg e5, if_neg e5]

/-- Nondecreasing. -/
def Asc (H : List Int) : Prop := H.Pairwise (· ≤ ·)
theorem asc_getD {H : List Int} (hs : Asc H) {i j : Nat} (hij : i < j) (hj : j < H.length) : H.getD i 0 ≤ H.getD j 0 := by
  have := List.pairwise_iff_getElem.1 hs i j (by omega) hj hij
  simpa [List.getD, hj, show i < H.length by omega] using this
theorem not_mem_take {H : List Int} (hs : Asc H) {i : Nat} (hi : i < H.length) (h : i = 0 ∨ H.getD (i - 1) 0 ≠ H.getD i 0) : ¬ H.getD i 0 ∈ H.take i := by
  intro hm
  obtain ⟨j, hj, e⟩ := List.mem_take_iff_getElem.1 hm
  have hj1 : j < i := by omega
  have e' : H.getD j 0 = H.getD i 0 := by simpa [List.getD, show j < H.length by omega] using e
  rcases h with h | h
  · omega
  · rcases Nat.lt_or_ge j (i - 1) with hlt | hge
    · have a1 := asc_getD hs hlt (by omega)
      have a2 := asc_getD hs (show i - 1 < i by omega) hi
      omega
    · have : j = i - 1 := by omega
      subst this
      exact h e'
theorem mem_take_of {H : List Int} {i : Nat} (hi : i < H.length) (h0 : 0 < i) (h : H.getD (i - 1) 0 = H.getD i 0) : H.getD i 0 ∈ H.take i := by
  rw [← h]
  refine List.mem_take_iff_getElem.2 ⟨i - 1, by omega, ?_⟩
  simp [List.getD, show i - 1 < H.length by omega]
theorem not_mem_drop {H : List Int} (hs : Asc H) {i : Nat} (hi : i + 1 < H.length) (h : H.getD (i + 1) 0 ≠ H.getD i 0) : ¬ H.getD i 0 ∈ H.drop (i + 1) := by
  intro hm
  obtain ⟨j, hj, e⟩ := List.mem_drop_iff_getElem.1 hm
  have hj2 : i + 1 + j < H.length := by omega
  have e' : H.getD (i + 1 + j) 0 = H.getD i 0 := by
    rw [← e]; simp [List.getD, hj2]
  have a2 := asc_getD hs (show i < i + 1 by omega) hi
  rcases Nat.eq_zero_or_pos j with rfl | hp
  · exact h e'
  · have a1 := asc_getD hs (show i + 1 < i + 1 + j by omega) (by omega)
    omega
theorem take_one {H : List Int} {t : Nat} (ht : t < H.length) : H.take (t + 1) = H.take t ++ [H.getD t 0] := by
  rw [List.take_add_one]; simp [List.getD, ht]

/-- The program's step: a tower of the same height as the one before. -/
theorem fwdL_same {p5 p6 sz : Nat} {H : List Int} {i : Nat} (h6 : p5 + 6 = p6) (hi : i < H.length) (h0 : 0 < i) (h : H.getD (i - 1) 0 = H.getD i 0) :
    fwdL p5 p6 sz H (i + 1) = (fwdL p5 p6 sz H i).set (p6 + i - 1) ((i : Int) + 1) := by
  unfold fwdL
  rw [map_range_set]
  apply List.map_congr_left
  intro k hk
  by_cases e1 : k = p6 + i - 1
  · subst e1
    rw [if_pos rfl]
    unfold fwdAt
    have e : p6 + i - 1 - p6 = i - 1 := by omega
    rw [if_pos (by omega), e, show i - 1 + 1 = i by omega, if_pos ⟨by omega, h.symm⟩]
    omega
  · rw [if_neg e1]
    unfold fwdAt
    by_cases e3 : p6 ≤ k ∧ k < p6 + H.length
    · rw [if_pos e3, if_pos e3]
      have : (k - p6 + 1 < i + 1) = (k - p6 + 1 < i) := by apply propext; omega
      simp only [this]
    · rw [if_neg e3, if_neg e3]
      by_cases e5 : p5 ≤ k ∧ k < p5 + 6
      · rw [if_pos e5, if_pos e5, take_one hi, fs_append]
        split
        · rfl
        · rename_i hn
          have : ¬ H.getD i 0 = (((k - p5 : Nat) : Int) + 1) := fun e => hn (by rw [← e]; exact mem_take_of hi h0 h)
          rw [fs, if_neg this, fs_none _ _ _ hn]; rfl
      · rw [if_neg e5, if_neg e5]
/-- A tower of a height that was not yet seen. -/
theorem fwdL_new {p5 p6 sz : Nat} {H : List Int} {i h : Nat} (h6 : p5 + 6 = p6) (hs : Asc H) (hi : i < H.length) (hn : i = 0 ∨ H.getD (i - 1) 0 ≠ H.getD i 0) (hh : H.getD i 0 = (h : Int)) (h1 : 1 ≤ h) (h2 : h ≤ 6) :
    fwdL p5 p6 sz H (i + 1) = (fwdL p5 p6 sz H i).set (p5 + h - 1) ((i : Int) + 1) := by
  have hnm := not_mem_take hs hi hn
  unfold fwdL
  rw [map_range_set]
  apply List.map_congr_left
  intro k hk
  by_cases e1 : k = p5 + h - 1
  · subst e1
    rw [if_pos rfl]
    unfold fwdAt
    have e : ((p5 + h - 1 - p5 : Nat) : Int) + 1 = H.getD i 0 := by rw [hh]; omega
    rw [if_neg (by omega), if_pos (by omega), e, take_one hi, fs_append, if_neg hnm, fs, if_pos rfl, List.length_take]
    omega
  · rw [if_neg e1]
    unfold fwdAt
    by_cases e3 : p6 ≤ k ∧ k < p6 + H.length
    · rw [if_pos e3, if_pos e3]
      by_cases e4 : k - p6 + 1 = i
      · have e5 : ¬ H.getD (k - p6 + 1) 0 = H.getD (k - p6) 0 := by
          rw [e4, show k - p6 = i - 1 by omega]
          rcases hn with hn | hn
          · omega
          · exact fun q => hn q.symm
        rw [if_neg (fun q => e5 q.2), if_neg (fun q => e5 q.2)]
      · have : (k - p6 + 1 < i + 1) = (k - p6 + 1 < i) := by apply propext; omega
        simp only [this]
    · rw [if_neg e3, if_neg e3]
      by_cases e5 : p5 ≤ k ∧ k < p5 + 6
      · rw [if_pos e5, if_pos e5, take_one hi, fs_append]
        split
        · rfl
        · rename_i hn2
          have : ¬ H.getD i 0 = (((k - p5 : Nat) : Int) + 1) := by rw [hh]; omega
          rw [fs, if_neg this, fs_none _ _ _ hn2]; rfl
      · rw [if_neg e5, if_neg e5]
/-- Both end alike. -/
theorem fwdL_end {p5 p6 sz : Nat} {H : List Int} (hs : Asc H) : fwdL p5 p6 sz H H.length = iniL p5 p6 sz H 0 := by
  unfold fwdL iniL
  apply List.map_congr_left
  intro k hk
  unfold fwdAt iniAt
  rw [List.take_length, List.drop_zero]
  by_cases e3 : p6 ≤ k ∧ k < p6 + H.length
  · have e3' : p6 + 0 ≤ k ∧ k < p6 + H.length := by omega
    rw [if_pos e3, if_pos e3']
    by_cases e4 : k - p6 + 1 < H.length
    · by_cases e5 : H.getD (k - p6 + 1) 0 = H.getD (k - p6) 0
      · rw [if_pos ⟨e4, e5⟩, drop_one e4, fs, if_pos e5]
      · have e6 : ¬ (k - p6 + 1 < H.length ∧ H.getD (k - p6 + 1) 0 = H.getD (k - p6) 0) := fun q => e5 q.2
        rw [if_neg e6, fs_none _ _ _ (not_mem_drop hs e4 e5)]
    · have e6 : ¬ (k - p6 + 1 < H.length ∧ H.getD (k - p6 + 1) 0 = H.getD (k - p6) 0) := fun q => e4 q.1
      rw [if_neg e6, List.drop_eq_nil_of_le (by omega)]; rfl
  · have e3' : ¬ (p6 + 0 ≤ k ∧ k < p6 + H.length) := by omega
    rw [if_neg e3, if_neg e3']
    rfl
end Go.Proofs.Ytakfjoelpploeaa

set_option linter.unusedVariables false
set_option linter.unusedSimpArgs false
namespace Go.Proofs.Ytakfjoelpploeaa
open Go.Am

theorem rep_ints (n : Nat) : rep [Value.int .u64 0] n = (List.replicate n (0 : Int)).map (.int .u64) := by
  induction n with
  | zero => rfl
  | succ n ih => simp_all [rep, List.replicate_succ]

set_option maxRecDepth 100000 in
set_option maxHeartbeats 8000000 in
theorem refIni {O : Over} (v0 v1 v2 v3 v4 v5 v6 v7 v8 v9 v10 v11 v12 v13 v14 v15 : Value) (q0 q1 q2 q3 q4 q7 q8 q9 : Int) (p5 p6 sz : Nat) (a wa : Option Addr) (cap wc : Nat) (H : List Int) (lb2 : Nat) (ro : Bool) (h : PT ABlk) (N : Nat) (hW : WfH h N)
    (hb : h.get lb2 = some (.cells (PT.ofList .leaf 0 [v0, v1, v2, v3, v4, v5, v6, v7, v8, v9, v10, v11, v12, v13, v14, v15, .int .i64 q0, .int .i64 q1, .int .i64 q2, .int .i64 q3, .int .i64 q4, .int .i64 (p5 : Int), .int .i64 (p6 : Int), .int .i64 q7, .int .i64 q8, .int .i64 q9, .slice a H.length cap, .slice wa sz wc]) ro)) (hH : IsInts .i64 h (.slice a H.length cap) H)
    (hbd : ∀ i, i < H.length → 1 ≤ H.getD i 0 ∧ H.getD i 0 ≤ 6) (h6 : p5 + 6 = p6) (hs : p6 + H.length ≤ sz) (hz : sz ≤ 100000) :
    EvB Try.prog O 24 [.pointer (some ⟨lb2, 0, none⟩)] h N fun v h' n' => v = .slice (some ⟨N, 0, none⟩) sz sz ∧ Kept h h' ∧ n' = N + 1 ∧ h'.get N = some (.cells (PT.ofList .leaf 0 ((iniL p5 p6 sz H 0).map (.int .u64))) false) := by
  have hlbn := hW.lt hb
  obtain ⟨a', cap', e, hA⟩ := hH.len
  injection e with e1 e2 e3
  subst e1 e3
  have hlast := iniL_last p5 p6 sz H
  have hrep := rep_ints sz
  refine EvB_run (N := 65) Try.func24 rfl rfl fun z hP hO hro hN hQ => ?_
  repeat' first | simp (config := { maxSteps := 2000000 }) (disch := first | omega | (repeat first | assumption | exact Kept.refl _ | refine Kept.set' (by assumption) ?_ ?_ | refine Kept.set (by assumption) ?_ ?_ | omega)) only [go_sem, *, Try.results24, Nat.reduceLT, Nat.reduceAdd, Nat.reduceMul, Nat.reduceSub, Nat.reduceEqDiff, Nat.reduceLeDiff, Int.reduceToNat, Int.reduceLT, Int.reduceLE, Int.reduceEq, Int.reduceNe, Int.reduceAdd, Int.reduceSub, Int.reduceMul, Int.reduceNeg, ↓reduceIte, reduceCtorEq] | (apply EvG_ndec <;> intro _) | (apply EvC_ndec <;> intro _) | (apply EvG_dec <;> intro _) | (apply EvC_dec <;> intro _) | refine EvK_draw (id := 8) (L := [(0, 1), (0, 2), (0, 3), (0, 4), (0, 5), (0, 6), (1, 6), (2, 6), (3, 6), (4, 6), (5, 6), (0, 7), (0, 8), (0, 9), (1, 9), (2, 9), (3, 9), (4, 9), (5, 9), (6, 9), (7, 9), (8, 9), (0, 10), (1, 10), (2, 10), (3, 10), (4, 10), (5, 10), (6, 10), (7, 10), (8, 10), (9, 10), (0, 11), (1, 11), (2, 11), (3, 11), (4, 11), (5, 11), (6, 11), (7, 11), (8, 11), (9, 11), (0, 12), (1, 12), (2, 12), (3, 12), (4, 12), (5, 12), (6, 12), (7, 12), (8, 12), (9, 12), (0, 13), (1, 13), (2, 13), (3, 13), (4, 13), (5, 13), (6, 13), (7, 13), (8, 13), (9, 13), (0, 14), (1, 14), (2, 14), (3, 14), (4, 14), (5, 14), (6, 14), (7, 14), (8, 14), (9, 14), (0, 15), (1, 15), (2, 15), (3, 15), (4, 15), (5, 15), (6, 15), (7, 15), (8, 15), (9, 15), (10, 15), (11, 15), (12, 15), (13, 15), (14, 15), (0, 16), (1, 16), (2, 16), (3, 16), (4, 16), (5, 16), (6, 16), (7, 16), (8, 16), (9, 16), (0, 17), (1, 17), (2, 17), (3, 17), (4, 17), (5, 17), (6, 17), (7, 17), (8, 17), (9, 17), (0, 18), (1, 18), (2, 18), (3, 18), (4, 18), (5, 18), (6, 18), (7, 18), (8, 18), (0, 19), (1, 19), (2, 19), (3, 19), (4, 19), (5, 19), (6, 19), (7, 19), (8, 19)]) (by kernel_rfl) (by kernel_rfl) ?_ | (apply EvH_ndec <;> intro _) | (apply EvH_dec <;> intro _) | (apply EvC_nbool <;> intro _) | (apply EvC_bool <;> intro _) | (apply EvG_nbool <;> intro _) | (apply EvG_bool <;> intro _) | (apply EvH_nbool <;> intro _) | (apply EvH_bool <;> intro _)
  refine ind_loop (fun t m h' n' => t ≤ H.length ∧ m.n = 65 ∧ m.dfs = [] ∧ m.get 0 = .pointer (some ⟨lb2, 0, none⟩) ∧ m.get 3 = .slice (some ⟨N, 0, none⟩) sz sz ∧ m.get 4 = .int .i64 t ∧ n' = N + 1 ∧ (∀ j, j < N → h'.get j = h.get j) ∧ h'.get N = some (.cells (PT.ofList .leaf 0 ((iniL p5 p6 sz H t).map (.int .u64))) false)) H.length ?_ ?_
  · refine ⟨Nat.le_refl _, ?_⟩
    rw [hlast]
    simp (config := { maxSteps := 2000000 }) (disch := first | omega | (repeat first | assumption | exact Kept.refl _ | refine Kept.set' (by assumption) ?_ ?_ | refine Kept.set (by assumption) ?_ ?_ | omega)) only [go_sem, *, Nat.reduceLT, Nat.reduceAdd, Nat.reduceMul, Nat.reduceSub, Nat.reduceEqDiff, Nat.reduceLeDiff, Int.reduceToNat, Int.reduceLT, Int.reduceLE, Int.reduceEq, Int.reduceNe, Int.reduceAdd, Int.reduceSub, Int.reduceMul, Int.reduceNeg, ↓reduceIte, reduceCtorEq]
    exact fun j hj => by simp (disch := omega) only [heap_ne]
  · rintro t m h' n' ih ⟨ht, m1, m2, m3, m4, m5, rfl, q1, q2⟩
    have hb' := (q1 _ hlbn).trans hb
    rcases Nat.eq_zero_or_pos t with rfl | hpos
    · repeat' first | simp (config := { maxSteps := 2000000 }) (disch := first | omega | (repeat first | assumption | exact Kept.refl _ | refine Kept.set' (by assumption) ?_ ?_ | refine Kept.set (by assumption) ?_ ?_ | omega)) only [go_sem, *, Try.results24, Nat.reduceLT, Nat.reduceAdd, Nat.reduceMul, Nat.reduceSub, Nat.reduceEqDiff, Nat.reduceLeDiff, Int.reduceToNat, Int.reduceLT, Int.reduceLE, Int.reduceEq, Int.reduceNe, Int.reduceAdd, Int.reduceSub, Int.reduceMul, Int.reduceNeg, ↓reduceIte, reduceCtorEq] | (apply EvG_ndec <;> intro _) | (apply EvC_ndec <;> intro _) | (apply EvG_dec <;> intro _) | (apply EvC_dec <;> intro _) | refine EvK_draw (id := 8) (L := [(0, 1), (0, 2), (0, 3), (0, 4), (0, 5), (0, 6), (1, 6), (2, 6), (3, 6), (4, 6), (5, 6), (0, 7), (0, 8), (0, 9), (1, 9), (2, 9), (3, 9), (4, 9), (5, 9), (6, 9), (7, 9), (8, 9), (0, 10), (1, 10), (2, 10), (3, 10), (4, 10), (5, 10), (6, 10), (7, 10), (8, 10), (9, 10), (0, 11), (1, 11), (2, 11), (3, 11), (4, 11), (5, 11), (6, 11), (7, 11), (8, 11), (9, 11), (0, 12), (1, 12), (2, 12), (3, 12), (4, 12), (5, 12), (6, 12), (7, 12), (8, 12), (9, 12), (0, 13), (1, 13), (2, 13), (3, 13), (4, 13), (5, 13), (6, 13), (7, 13), (8, 13), (9, 13), (0, 14), (1, 14), (2, 14), (3, 14), (4, 14), (5, 14), (6, 14), (7, 14), (8, 14), (9, 14), (0, 15), (1, 15), (2, 15), (3, 15), (4, 15), (5, 15), (6, 15), (7, 15), (8, 15), (9, 15), (10, 15), (11, 15), (12, 15), (13, 15), (14, 15), (0, 16), (1, 16), (2, 16), (3, 16), (4, 16), (5, 16), (6, 16), (7, 16), (8, 16), (9, 16), (0, 17), (1, 17), (2, 17), (3, 17), (4, 17), (5, 17), (6, 17), (7, 17), (8, 17), (9, 17), (0, 18), (1, 18), (2, 18), (3, 18), (4, 18), (5, 18), (6, 18), (7, 18), (8, 18), (0, 19), (1, 19), (2, 19), (3, 19), (4, 19), (5, 19), (6, 19), (7, 19), (8, 19)]) (by kernel_rfl) (by kernel_rfl) ?_ | (apply EvH_ndec <;> intro _) | (apply EvH_dec <;> intro _) | (apply EvC_nbool <;> intro _) | (apply EvC_bool <;> intro _) | (apply EvG_nbool <;> intro _) | (apply EvG_bool <;> intro _) | (apply EvH_nbool <;> intro _) | (apply EvH_bool <;> intro _)
      exact fun i B e => (q1 i (hW.lt e)).trans e
    · obtain ⟨u, rfl⟩ : ∃ u, t = u + 1 := ⟨t - 1, by omega⟩
      obtain ⟨hd, ehd⟩ : ∃ hd : Nat, H.getD u 0 = (hd : Int) := ⟨(H.getD u 0).toNat, by have := (hbd u (by omega)).1; omega⟩
      obtain ⟨b1, b2⟩ := hbd u (by omega)
      rw [ehd] at b1 b2
      have hstep := iniL_step h6 hs (show u < H.length by omega) ehd (by omega) (by omega)
      obtain ⟨bk, off, sp, L, ro', rfl, hbk, hL⟩ := hA u (by omega)
      rw [ehd] at hL
      have hbkn := hW.lt hbk
      have hbk' := (q1 _ hbkn).trans hbk
      have hWl : (iniL p5 p6 sz H (u + 1)).length = sz := iniL_length ..
      generalize iniL p5 p6 sz H (u + 1) = W at *
      have hx : (W.map (Value.int .u64))[p5 + hd - 1]? = some (.int .u64 (W.getD (p5 + hd - 1) 0)) := by
        rw [List.getElem?_map, List.getElem?_eq_getElem (by omega)]; simp [List.getD, show p5 + hd - 1 < W.length by omega]
      have hWm : (W.map (Value.int .u64)).length = sz := by rw [List.length_map]; exact hWl
      have m5' : m.get 4 = .int .i64 ((u : Int) + 1) := by rw [m5]; simp
      have g1 : (1 : Int) ≤ (u : Int) + 1 := by omega
      have g2 : (u : Int) + 1 - 1 = u := by omega
      have g3 : (p6 : Int) + ((u : Int) + 1) - 1 = ((p6 + u : Nat) : Int) := by omega
      have g4 : (p5 : Int) + (hd : Int) - 1 = ((p5 + hd - 1 : Nat) : Int) := by omega
      have g5 : p6 + u < sz := by omega
      have g6 : p5 + hd - 1 < sz := by omega
      generalize p5 + hd - 1 = y5 at *
      generalize p6 + u = y6 at *
      clear m5 hbd hA hlast hrep e2
      repeat' first | simp (config := { maxSteps := 2000000 }) (disch := first | omega | (repeat first | assumption | exact Kept.refl _ | refine Kept.set' (by assumption) ?_ ?_ | refine Kept.set (by assumption) ?_ ?_ | omega)) only [go_sem, *, Try.results24, List.length_set, Nat.reduceLT, Nat.reduceAdd, Nat.reduceMul, Nat.reduceSub, Nat.reduceEqDiff, Nat.reduceLeDiff, Int.reduceToNat, Int.reduceLT, Int.reduceLE, Int.reduceEq, Int.reduceNe, Int.reduceAdd, Int.reduceSub, Int.reduceMul, Int.reduceNeg, ↓reduceIte, reduceCtorEq] | (apply EvG_ndec <;> intro _) | (apply EvC_ndec <;> intro _) | (apply EvG_dec <;> intro _) | (apply EvC_dec <;> intro _) | refine EvK_draw (id := 8) (L := [(0, 1), (0, 2), (0, 3), (0, 4), (0, 5), (0, 6), (1, 6), (2, 6), (3, 6), (4, 6), (5, 6), (0, 7), (0, 8), (0, 9), (1, 9), (2, 9), (3, 9), (4, 9), (5, 9), (6, 9), (7, 9), (8, 9), (0, 10), (1, 10), (2, 10), (3, 10), (4, 10), (5, 10), (6, 10), (7, 10), (8, 10), (9, 10), (0, 11), (1, 11), (2, 11), (3, 11), (4, 11), (5, 11), (6, 11), (7, 11), (8, 11), (9, 11), (0, 12), (1, 12), (2, 12), (3, 12), (4, 12), (5, 12), (6, 12), (7, 12), (8, 12), (9, 12), (0, 13), (1, 13), (2, 13), (3, 13), (4, 13), (5, 13), (6, 13), (7, 13), (8, 13), (9, 13), (0, 14), (1, 14), (2, 14), (3, 14), (4, 14), (5, 14), (6, 14), (7, 14), (8, 14), (9, 14), (0, 15), (1, 15), (2, 15), (3, 15), (4, 15), (5, 15), (6, 15), (7, 15), (8, 15), (9, 15), (10, 15), (11, 15), (12, 15), (13, 15), (14, 15), (0, 16), (1, 16), (2, 16), (3, 16), (4, 16), (5, 16), (6, 16), (7, 16), (8, 16), (9, 16), (0, 17), (1, 17), (2, 17), (3, 17), (4, 17), (5, 17), (6, 17), (7, 17), (8, 17), (9, 17), (0, 18), (1, 18), (2, 18), (3, 18), (4, 18), (5, 18), (6, 18), (7, 18), (8, 18), (0, 19), (1, 19), (2, 19), (3, 19), (4, 19), (5, 19), (6, 19), (7, 19), (8, 19)]) (by kernel_rfl) (by kernel_rfl) ?_ | (apply EvH_ndec <;> intro _) | (apply EvH_dec <;> intro _) | (apply EvC_nbool <;> intro _) | (apply EvC_bool <;> intro _) | (apply EvG_nbool <;> intro _) | (apply EvG_bool <;> intro _) | (apply EvH_nbool <;> intro _) | (apply EvH_bool <;> intro _)
      refine ih u _ _ _ (by omega) ⟨by omega, ?_⟩
      rw [hstep, List.map_set, List.map_set]
      simp (config := { maxSteps := 2000000 }) (disch := first | omega | (repeat first | assumption | exact Kept.refl _ | refine Kept.set' (by assumption) ?_ ?_ | refine Kept.set (by assumption) ?_ ?_ | omega)) only [go_sem, *, Nat.reduceLT, Nat.reduceAdd, Nat.reduceMul, Nat.reduceSub, Nat.reduceEqDiff, Nat.reduceLeDiff, Int.reduceToNat, Int.reduceLT, Int.reduceLE, Int.reduceEq, Int.reduceNe, Int.reduceAdd, Int.reduceSub, Int.reduceMul, Int.reduceNeg, ↓reduceIte, reduceCtorEq]
      exact fun j hj => by simp (disch := omega) only [heap_ne, q1 j hj]
end Go.Proofs.Ytakfjoelpploeaa

set_option linter.unusedVariables false
set_option linter.unusedSimpArgs false
namespace Go.Proofs.Ytakfjoelpploeaa
open Go.Am


set_option maxRecDepth 100000 in
set_option maxHeartbeats 8000000 in
theorem layIni {O : Over} (o53 : O 53 = topS) (v0 v1 v2 v3 v4 v5 v6 v7 v8 v9 v10 v11 v12 v13 v14 v15 gv tv Vv : Value) (q0 q1 q2 q3 q4 q7 q8 : Int) (p5 p6 sz : Nat) (a : Option Addr) (cap : Nat) (H : List Int) (lb2 : Nat) (ro : Bool) (h : PT ABlk) (N : Nat) (hW : WfH h N)
    (hb : h.get lb2 = some (.cells (PT.ofList .leaf 0 [v0, v1, v2, v3, v4, v5, v6, v7, v8, v9, v10, v11, v12, v13, v14, v15, .int .i64 q0, .int .i64 q1, .int .i64 q2, .int .i64 q3, .int .i64 q4, .int .i64 (p5 : Int), .int .i64 (p6 : Int), .int .i64 q7, .int .i64 q8, .int .i64 (sz : Int), gv, .slice a H.length cap, tv, Vv]) ro)) (hH : IsInts .i64 h (.slice a H.length cap) H)
    (hbd : ∀ i, i < H.length → 1 ≤ H.getD i 0 ∧ H.getD i 0 ≤ 6) (hasc : Asc H) (h6 : p5 + 6 = p6) (hs : p6 + H.length ≤ sz) (hz : sz ≤ 100000) (hn : H.length ≤ 1024) :
    EvB Try.prog O 22 [.pointer (some ⟨lb2, 0, none⟩)] h N fun v h' n' => v = .slice (some ⟨N, 0, none⟩) sz sz ∧ Kept h h' ∧ n' = N + 1 ∧ h'.get N = some (.cells (PT.ofList .leaf 0 ((iniL p5 p6 sz H 0).map (.int .u64))) false) := by
  have hlbn := hW.lt hb
  obtain ⟨a', cap', e, hA⟩ := hH.len
  injection e with e1 e2 e3
  subst e1 e3
  have hzero := fwdL_zero p5 p6 sz H
  have hrep := rep_ints sz
  have hend := fwdL_end (p5 := p5) (p6 := p6) (sz := sz) hasc
  refine EvB_run (N := 69) Try.func22 rfl rfl fun z hP hO hro hN hQ => ?_
  repeat' first | simp (config := { maxSteps := 2000000 }) (disch := first | omega | (repeat first | assumption | exact Kept.refl _ | refine Kept.set' (by assumption) ?_ ?_ | refine Kept.set (by assumption) ?_ ?_ | omega)) only [go_sem, *, Try.results22, Nat.reduceLT, Nat.reduceAdd, Nat.reduceMul, Nat.reduceSub, Nat.reduceEqDiff, Nat.reduceLeDiff, Int.reduceToNat, Int.reduceLT, Int.reduceLE, Int.reduceEq, Int.reduceNe, Int.reduceAdd, Int.reduceSub, Int.reduceMul, Int.reduceNeg, ↓reduceIte, reduceCtorEq] | (apply EvG_ndec <;> intro _) | (apply EvC_ndec <;> intro _) | (apply EvG_dec <;> intro _) | (apply EvC_dec <;> intro _) | refine EvK_draw (id := 9) (L := [(0, 1), (0, 2), (0, 3), (0, 4), (0, 5), (0, 6), (1, 6), (2, 6), (3, 6), (4, 6), (5, 6), (0, 7), (0, 8), (0, 9), (1, 9), (2, 9), (3, 9), (4, 9), (5, 9), (6, 9), (7, 9), (8, 9), (0, 10), (1, 10), (2, 10), (3, 10), (4, 10), (5, 10), (6, 10), (7, 10), (8, 10), (0, 11), (1, 11), (2, 11), (3, 11), (4, 11), (5, 11), (6, 11), (7, 11), (8, 11), (0, 12), (1, 12), (2, 12), (3, 12), (4, 12), (5, 12), (6, 12), (7, 12), (8, 12), (0, 13), (1, 13), (2, 13), (3, 13), (4, 13), (5, 13), (6, 13), (7, 13), (8, 13), (0, 14), (1, 14), (2, 14), (3, 14), (4, 14), (5, 14), (6, 14), (7, 14), (8, 14), (13, 14), (14, 15), (14, 16)]) (by kernel_rfl) (by kernel_rfl) ?_ | (apply EvH_ndec <;> intro _) | (apply EvH_dec <;> intro _) | (apply EvC_nbool <;> intro _) | (apply EvC_bool <;> intro _) | (apply EvG_nbool <;> intro _) | (apply EvG_bool <;> intro _) | (apply EvH_nbool <;> intro _) | (apply EvH_bool <;> intro _)
  refine ind_loop (fun t m h' n' => ∃ i : Nat, i ≤ H.length ∧ t = H.length - i ∧ m.n = 69 ∧ m.dfs = [] ∧ m.get 0 = .pointer (some ⟨lb2, 0, none⟩) ∧ m.get 3 = .slice (some ⟨N, 0, none⟩) sz sz ∧ m.get 17 = .slice a H.length cap ∧ m.get 18 = .int .i64 H.length ∧ m.get 19 = .int .i64 i ∧ n' = N + 1 ∧ (∀ j, j < N → h'.get j = h.get j) ∧ h'.get N = some (.cells (PT.ofList .leaf 0 ((fwdL p5 p6 sz H i).map (.int .u64))) false)) H.length ?_ ?_
  · refine ⟨0, by omega, by omega, ?_⟩
    rw [hzero]
    simp (config := { maxSteps := 2000000 }) (disch := first | omega | (repeat first | assumption | exact Kept.refl _ | refine Kept.set' (by assumption) ?_ ?_ | refine Kept.set (by assumption) ?_ ?_ | omega)) only [go_sem, *, Nat.reduceLT, Nat.reduceAdd, Nat.reduceMul, Nat.reduceSub, Nat.reduceEqDiff, Nat.reduceLeDiff, Int.reduceToNat, Int.reduceLT, Int.reduceLE, Int.reduceEq, Int.reduceNe, Int.reduceAdd, Int.reduceSub, Int.reduceMul, Int.reduceNeg, ↓reduceIte, reduceCtorEq]
    exact fun j hj => by simp (disch := omega) only [heap_ne]
  · rintro t m h' n' ih ⟨i, hi, rfl, m1, m2, m3, m4, m5, m6, m7, rfl, q1, q2⟩
    have hb' := (q1 _ hlbn).trans hb
    rcases Nat.lt_or_ge i H.length with hlt | hge
    · have e7 : (i : Int) < H.length := by omega
      obtain ⟨hd, ehd⟩ : ∃ hd : Nat, H.getD i 0 = (hd : Int) := ⟨(H.getD i 0).toNat, by have := (hbd i hlt).1; omega⟩
      obtain ⟨b1, b2⟩ := hbd i hlt
      rw [ehd] at b1 b2
      obtain ⟨bk, off, sp, L, ro', rfl, hbk, hL⟩ := hA i hlt
      have hL' := hL
      rw [ehd] at hL'
      have hbkn := hW.lt hbk
      have hWl : (fwdL p5 p6 sz H i).length = sz := fwdL_length ..
      have hWm : ((fwdL p5 p6 sz H i).map (Value.int .u64)).length = sz := by rw [List.length_map]; exact hWl
      by_cases hi0 : i = 0
      · subst hi0
        have hstep := fwdL_new h6 hasc hlt (.inl rfl) ehd (by omega) (by omega) (sz := sz)
        generalize fwdL p5 p6 sz H 0 = W at *
        have m7' : m.get 19 = .int .i64 (0 : Int) := m7
        have g4 : (p5 : Int) + (hd : Int) - 1 = ((p5 + hd - 1 : Nat) : Int) := by omega
        have g6 : p5 + hd - 1 < sz := by omega
        have e8 : (0 : Int) < H.length := by omega
        have hL2 : L[off]? = some (.int .i64 (hd : Int)) := by simpa using hL'
        generalize p5 + hd - 1 = y5 at *
        clear m7 hbd hA hrep hzero hend e2 hL hL' e7
        repeat' first | simp (config := { maxSteps := 2000000 }) (disch := first | omega | (repeat first | assumption | exact Kept.refl _ | refine Kept.set' (by assumption) ?_ ?_ | refine Kept.set (by assumption) ?_ ?_ | omega)) only [go_sem, *, Try.results22, topS, Nat.reduceLT, Nat.reduceAdd, Nat.reduceMul, Nat.reduceSub, Nat.reduceEqDiff, Nat.reduceLeDiff, Int.reduceToNat, Int.reduceLT, Int.reduceLE, Int.reduceEq, Int.reduceNe, Int.reduceAdd, Int.reduceSub, Int.reduceMul, Int.reduceNeg, ↓reduceIte, reduceCtorEq] | (apply EvG_ndec <;> intro _) | (apply EvC_ndec <;> intro _) | (apply EvG_dec <;> intro _) | (apply EvC_dec <;> intro _) | refine EvK_draw (id := 9) (L := [(0, 1), (0, 2), (0, 3), (0, 4), (0, 5), (0, 6), (1, 6), (2, 6), (3, 6), (4, 6), (5, 6), (0, 7), (0, 8), (0, 9), (1, 9), (2, 9), (3, 9), (4, 9), (5, 9), (6, 9), (7, 9), (8, 9), (0, 10), (1, 10), (2, 10), (3, 10), (4, 10), (5, 10), (6, 10), (7, 10), (8, 10), (0, 11), (1, 11), (2, 11), (3, 11), (4, 11), (5, 11), (6, 11), (7, 11), (8, 11), (0, 12), (1, 12), (2, 12), (3, 12), (4, 12), (5, 12), (6, 12), (7, 12), (8, 12), (0, 13), (1, 13), (2, 13), (3, 13), (4, 13), (5, 13), (6, 13), (7, 13), (8, 13), (0, 14), (1, 14), (2, 14), (3, 14), (4, 14), (5, 14), (6, 14), (7, 14), (8, 14), (13, 14), (14, 15), (14, 16)]) (by kernel_rfl) (by kernel_rfl) ?_ | (apply EvH_ndec <;> intro _) | (apply EvH_dec <;> intro _) | (apply EvC_nbool <;> intro _) | (apply EvC_bool <;> intro _) | (apply EvG_nbool <;> intro _) | (apply EvG_bool <;> intro _) | (apply EvH_nbool <;> intro _) | (apply EvH_bool <;> intro _)
        refine ih (H.length - 1) _ _ _ (by omega) ⟨1, by omega, rfl, ?_⟩
        rw [hstep, List.map_set]
        simp (config := { maxSteps := 2000000 }) (disch := first | omega | (repeat first | assumption | exact Kept.refl _ | refine Kept.set' (by assumption) ?_ ?_ | refine Kept.set (by assumption) ?_ ?_ | omega)) only [go_sem, *, Nat.reduceLT, Nat.reduceAdd, Nat.reduceMul, Nat.reduceSub, Nat.reduceEqDiff, Nat.reduceLeDiff, Int.reduceToNat, Int.reduceLT, Int.reduceLE, Int.reduceEq, Int.reduceNe, Int.reduceAdd, Int.reduceSub, Int.reduceMul, Int.reduceNeg, ↓reduceIte, reduceCtorEq]
        exact ⟨by simp, fun j hj => by simp (disch := omega) only [heap_ne, q1 j hj]⟩
      · obtain ⟨u, rfl⟩ : ∃ u, i = u + 1 := ⟨i - 1, by omega⟩
        obtain ⟨bk', off', sp', L2, ro2, e', hbk2, hL2⟩ := hA u (by omega)
        cases e'
        rw [hbk] at hbk2
        obtain rfl := ofList_inj (ABlk.cells.inj (Option.some.inj hbk2)).1
        have m7' : m.get 19 = .int .i64 ((u : Int) + 1) := by rw [m7]; simp
        have e8 : (u : Int) + 1 < H.length := by omega
        have e9 : (u : Int) + 1 - 1 = u := by omega
        have e10 : (0 : Int) < (u : Int) + 1 := by omega
        have e11 : (u : Int) < H.length := by omega
        have hL3 : L[off + ((u : Int) + 1).toNat]? = some (.int .i64 (hd : Int)) := hL'
        by_cases hsm : H.getD u 0 = (hd : Int)
        · have hstep := fwdL_same h6 hlt (by omega) (by rw [ehd]; exact hsm) (sz := sz)
          rw [show p6 + (u + 1) - 1 = p6 + u by omega] at hstep
          rw [hsm] at hL2
          have g3 : (p6 : Int) + ((u : Int) + 1) - 1 = ((p6 + u : Nat) : Int) := by omega
          have g5 : p6 + u < sz := by omega
          generalize p6 + u = y6 at *
          generalize fwdL p5 p6 sz H (u + 1) = W at *
          clear m7 hbd hA hrep hzero hend e2 hL hL' e7 hbk2 hi0
          repeat' first | simp (config := { maxSteps := 2000000 }) (disch := first | omega | (repeat first | assumption | exact Kept.refl _ | refine Kept.set' (by assumption) ?_ ?_ | refine Kept.set (by assumption) ?_ ?_ | omega)) only [go_sem, *, Try.results22, topS, Nat.reduceLT, Nat.reduceAdd, Nat.reduceMul, Nat.reduceSub, Nat.reduceEqDiff, Nat.reduceLeDiff, Int.reduceToNat, Int.reduceLT, Int.reduceLE, Int.reduceEq, Int.reduceNe, Int.reduceAdd, Int.reduceSub, Int.reduceMul, Int.reduceNeg, ↓reduceIte, reduceCtorEq] | (apply EvG_ndec <;> intro _) | (apply EvC_ndec <;> intro _) | (apply EvG_dec <;> intro _) | (apply EvC_dec <;> intro _) | refine EvK_draw (id := 9) (L := [(0, 1), (0, 2), (0, 3), (0, 4), (0, 5), (0, 6), (1, 6), (2, 6), (3, 6), (4, 6), (5, 6), (0, 7), (0, 8), (0, 9), (1, 9), (2, 9), (3, 9), (4, 9), (5, 9), (6, 9), (7, 9), (8, 9), (0, 10), (1, 10), (2, 10), (3, 10), (4, 10), (5, 10), (6, 10), (7, 10), (8, 10), (0, 11), (1, 11), (2, 11), (3, 11), (4, 11), (5, 11), (6, 11), (7, 11), (8, 11), (0, 12), (1, 12), (2, 12), (3, 12), (4, 12), (5, 12), (6, 12), (7, 12), (8, 12), (0, 13), (1, 13), (2, 13), (3, 13), (4, 13), (5, 13), (6, 13), (7, 13), (8, 13), (0, 14), (1, 14), (2, 14), (3, 14), (4, 14), (5, 14), (6, 14), (7, 14), (8, 14), (13, 14), (14, 15), (14, 16)]) (by kernel_rfl) (by kernel_rfl) ?_ | (apply EvH_ndec <;> intro _) | (apply EvH_dec <;> intro _) | (apply EvC_nbool <;> intro _) | (apply EvC_bool <;> intro _) | (apply EvG_nbool <;> intro _) | (apply EvG_bool <;> intro _) | (apply EvH_nbool <;> intro _) | (apply EvH_bool <;> intro _)
          refine ih (H.length - (u + 1 + 1)) _ _ _ (by omega) ⟨u + 1 + 1, by omega, rfl, ?_⟩
          rw [hstep, List.map_set]
          simp (config := { maxSteps := 2000000 }) (disch := first | omega | (repeat first | assumption | exact Kept.refl _ | refine Kept.set' (by assumption) ?_ ?_ | refine Kept.set (by assumption) ?_ ?_ | omega)) only [go_sem, *, Nat.reduceLT, Nat.reduceAdd, Nat.reduceMul, Nat.reduceSub, Nat.reduceEqDiff, Nat.reduceLeDiff, Int.reduceToNat, Int.reduceLT, Int.reduceLE, Int.reduceEq, Int.reduceNe, Int.reduceAdd, Int.reduceSub, Int.reduceMul, Int.reduceNeg, ↓reduceIte, reduceCtorEq]
          exact ⟨by simp, fun j hj => by simp (disch := omega) only [heap_ne, q1 j hj], by simp⟩
        · have hstep := fwdL_new h6 hasc hlt (.inr (by rw [ehd]; exact hsm)) ehd (by omega) (by omega) (sz := sz)
          have g4 : (p5 : Int) + (hd : Int) - 1 = ((p5 + hd - 1 : Nat) : Int) := by omega
          have g6 : p5 + hd - 1 < sz := by omega
          generalize p5 + hd - 1 = y5 at *
          generalize fwdL p5 p6 sz H (u + 1) = W at *
          clear m7 hbd hA hrep hzero hend e2 hL hL' e7 hbk2 hi0
          have htop : topS [.int .u64 0, .int .i64 ((u : Int) + 1 + 1)] = some (.pure (.tuple ⟨[.int .u64 ((u : Int) + 1 + 1), .int .i64 0]⟩)) := by
            simp only [topS]; rw [if_pos ⟨trivial, by omega, by omega⟩]
          repeat' first | simp (config := { maxSteps := 2000000 }) (disch := first | omega | (repeat first | assumption | exact Kept.refl _ | refine Kept.set' (by assumption) ?_ ?_ | refine Kept.set (by assumption) ?_ ?_ | omega)) only [go_sem, *, Try.results22, Nat.reduceLT, Nat.reduceAdd, Nat.reduceMul, Nat.reduceSub, Nat.reduceEqDiff, Nat.reduceLeDiff, Int.reduceToNat, Int.reduceLT, Int.reduceLE, Int.reduceEq, Int.reduceNe, Int.reduceAdd, Int.reduceSub, Int.reduceMul, Int.reduceNeg, ↓reduceIte, reduceCtorEq] | (apply EvG_ndec <;> intro _) | (apply EvC_ndec <;> intro _) | (apply EvG_dec <;> intro _) | (apply EvC_dec <;> intro _) | refine EvK_draw (id := 9) (L := [(0, 1), (0, 2), (0, 3), (0, 4), (0, 5), (0, 6), (1, 6), (2, 6), (3, 6), (4, 6), (5, 6), (0, 7), (0, 8), (0, 9), (1, 9), (2, 9), (3, 9), (4, 9), (5, 9), (6, 9), (7, 9), (8, 9), (0, 10), (1, 10), (2, 10), (3, 10), (4, 10), (5, 10), (6, 10), (7, 10), (8, 10), (0, 11), (1, 11), (2, 11), (3, 11), (4, 11), (5, 11), (6, 11), (7, 11), (8, 11), (0, 12), (1, 12), (2, 12), (3, 12), (4, 12), (5, 12), (6, 12), (7, 12), (8, 12), (0, 13), (1, 13), (2, 13), (3, 13), (4, 13), (5, 13), (6, 13), (7, 13), (8, 13), (0, 14), (1, 14), (2, 14), (3, 14), (4, 14), (5, 14), (6, 14), (7, 14), (8, 14), (13, 14), (14, 15), (14, 16)]) (by kernel_rfl) (by kernel_rfl) ?_ | (apply EvH_ndec <;> intro _) | (apply EvH_dec <;> intro _) | (apply EvC_nbool <;> intro _) | (apply EvC_bool <;> intro _) | (apply EvG_nbool <;> intro _) | (apply EvG_bool <;> intro _) | (apply EvH_nbool <;> intro _) | (apply EvH_bool <;> intro _)
          refine ih (H.length - (u + 1 + 1)) _ _ _ (by omega) ⟨u + 1 + 1, by omega, rfl, ?_⟩
          rw [hstep, List.map_set]
          simp (config := { maxSteps := 2000000 }) (disch := first | omega | (repeat first | assumption | exact Kept.refl _ | refine Kept.set' (by assumption) ?_ ?_ | refine Kept.set (by assumption) ?_ ?_ | omega)) only [go_sem, *, Nat.reduceLT, Nat.reduceAdd, Nat.reduceMul, Nat.reduceSub, Nat.reduceEqDiff, Nat.reduceLeDiff, Int.reduceToNat, Int.reduceLT, Int.reduceLE, Int.reduceEq, Int.reduceNe, Int.reduceAdd, Int.reduceSub, Int.reduceMul, Int.reduceNeg, ↓reduceIte, reduceCtorEq]
          exact ⟨by simp, fun j hj => by simp (disch := omega) only [heap_ne, q1 j hj], by simp⟩
    · have e7 : ¬ (i : Int) < H.length := by omega
      obtain rfl : i = H.length := by omega
      rw [hend] at q2
      repeat' first | simp (config := { maxSteps := 2000000 }) (disch := first | omega | (repeat first | assumption | exact Kept.refl _ | refine Kept.set' (by assumption) ?_ ?_ | refine Kept.set (by assumption) ?_ ?_ | omega)) only [go_sem, *, Try.results22, Nat.reduceLT, Nat.reduceAdd, Nat.reduceMul, Nat.reduceSub, Nat.reduceEqDiff, Nat.reduceLeDiff, Int.reduceToNat, Int.reduceLT, Int.reduceLE, Int.reduceEq, Int.reduceNe, Int.reduceAdd, Int.reduceSub, Int.reduceMul, Int.reduceNeg, ↓reduceIte, reduceCtorEq] | (apply EvG_ndec <;> intro _) | (apply EvC_ndec <;> intro _) | (apply EvG_dec <;> intro _) | (apply EvC_dec <;> intro _) | refine EvK_draw (id := 9) (L := [(0, 1), (0, 2), (0, 3), (0, 4), (0, 5), (0, 6), (1, 6), (2, 6), (3, 6), (4, 6), (5, 6), (0, 7), (0, 8), (0, 9), (1, 9), (2, 9), (3, 9), (4, 9), (5, 9), (6, 9), (7, 9), (8, 9), (0, 10), (1, 10), (2, 10), (3, 10), (4, 10), (5, 10), (6, 10), (7, 10), (8, 10), (0, 11), (1, 11), (2, 11), (3, 11), (4, 11), (5, 11), (6, 11), (7, 11), (8, 11), (0, 12), (1, 12), (2, 12), (3, 12), (4, 12), (5, 12), (6, 12), (7, 12), (8, 12), (0, 13), (1, 13), (2, 13), (3, 13), (4, 13), (5, 13), (6, 13), (7, 13), (8, 13), (0, 14), (1, 14), (2, 14), (3, 14), (4, 14), (5, 14), (6, 14), (7, 14), (8, 14), (13, 14), (14, 15), (14, 16)]) (by kernel_rfl) (by kernel_rfl) ?_ | (apply EvH_ndec <;> intro _) | (apply EvH_dec <;> intro _) | (apply EvC_nbool <;> intro _) | (apply EvC_bool <;> intro _) | (apply EvG_nbool <;> intro _) | (apply EvG_bool <;> intro _) | (apply EvH_nbool <;> intro _) | (apply EvH_bool <;> intro _)
      exact fun i B e => (q1 i (hW.lt e)).trans e
end Go.Proofs.Ytakfjoelpploeaa
