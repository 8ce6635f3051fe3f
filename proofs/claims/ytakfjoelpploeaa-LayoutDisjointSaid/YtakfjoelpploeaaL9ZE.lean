/-
  A part of the proof of the laws of layer 9: contracts of inner functions.
-/
import Derived.Test.YtakfjoelpploeaaL9L
import Derived.Test.YtakfjoelpploeaaL9P8
import Derived.Test.YtakfjoelpploeaaL9Q1
import Derived.Test.YtakfjoelpploeaaAmY9
import Derived.Test.YtakfjoelpploeaaL9W
set_option linter.unusedVariables false
set_option linter.unusedSimpArgs false
namespace Go.Proofs.Ytakfjoelpploeaa
open Go.Am

set_option maxRecDepth 100000 in
set_option maxHeartbeats 4000000 in
theorem refHeight {O : Over} (v0 v1 v2 v3 v4 v5 v6 v7 v8 v9 v10 v11 v12 v13 v14 v15 v16 v17 v18 v19 v20 v21 v22 v23 v24 v25 wv : Value) (a : Option Addr) (cap : Nat) (H : List Int) (lb2 : Nat) (ro : Bool) (t : Int) (h : PT ABlk) (N : Nat) (hW : WfH h N)
    (hb : h.get lb2 = some (.cells (PT.ofList .leaf 0 [v0, v1, v2, v3, v4, v5, v6, v7, v8, v9, v10, v11, v12, v13, v14, v15, v16, v17, v18, v19, v20, v21, v22, v23, v24, v25, .slice a H.length cap, wv]) ro)) (hH : IsInts .i64 h (.slice a H.length cap) H) (hn : H.length ≤ 100000) :
    EvB Try.prog O 26 [.pointer (some ⟨lb2, 0, none⟩), .int .i64 t] h N fun v h' n' => v = heightV H t ∧ h' = h ∧ n' = N := by
  by_cases hin : 1 ≤ t ∧ t ≤ H.length
  · obtain ⟨a', cap', e, hA⟩ := hH.len
    injection e with e1 e2 e3
    subst e1 e3
    obtain ⟨bk, off, sp, L, ro', rfl, hbk, hL⟩ := hA (t - 1).toNat (by omega)
    have g1 := hin.1
    have g2 := hin.2
    have g3 : ¬ t < 1 := by omega
    have g4 : ¬ (H.length : Int) < t := by omega
    clear hA
    refine EvB_run (N := 27) Try.func26 rfl rfl fun z hP hO hro hN hQ => ?_
    repeat' first | simp (config := { maxSteps := 2000000 }) (disch := first | omega | (repeat first | assumption | exact Kept.refl _ | refine Kept.set' (by assumption) ?_ ?_ | refine Kept.set (by assumption) ?_ ?_ | omega)) only [go_sem, *, Try.results26, heightV, hgtA, hgtE, Nat.reduceLT, Nat.reduceAdd, Nat.reduceMul, Nat.reduceSub, Nat.reduceEqDiff, Nat.reduceLeDiff, Int.reduceToNat, Int.reduceLT, Int.reduceLE, Int.reduceEq, Int.reduceNe, Int.reduceAdd, Int.reduceSub, Int.reduceMul, Int.reduceNeg, ↓reduceIte, reduceCtorEq] | (apply EvG_ndec <;> intro _) | (apply EvC_ndec <;> intro _) | (apply EvG_dec <;> intro _) | (apply EvC_dec <;> intro _) | fail | (apply EvH_ndec <;> intro _) | (apply EvH_dec <;> intro _) | (apply EvC_nbool <;> intro _) | (apply EvC_bool <;> intro _) | (apply EvG_nbool <;> intro _) | (apply EvG_bool <;> intro _) | (apply EvH_nbool <;> intro _) | (apply EvH_bool <;> intro _)
  · by_cases g3 : t < 1
    · refine EvB_run (N := 27) Try.func26 rfl rfl fun z hP hO hro hN hQ => ?_
      repeat' first | simp (config := { maxSteps := 2000000 }) (disch := first | omega | (repeat first | assumption | exact Kept.refl _ | refine Kept.set' (by assumption) ?_ ?_ | refine Kept.set (by assumption) ?_ ?_ | omega)) only [go_sem, *, Try.results26, heightV, hgtA, hgtE, Nat.reduceLT, Nat.reduceAdd, Nat.reduceMul, Nat.reduceSub, Nat.reduceEqDiff, Nat.reduceLeDiff, Int.reduceToNat, Int.reduceLT, Int.reduceLE, Int.reduceEq, Int.reduceNe, Int.reduceAdd, Int.reduceSub, Int.reduceMul, Int.reduceNeg, ↓reduceIte, reduceCtorEq] | (apply EvG_ndec <;> intro _) | (apply EvC_ndec <;> intro _) | (apply EvG_dec <;> intro _) | (apply EvC_dec <;> intro _) | fail | (apply EvH_ndec <;> intro _) | (apply EvH_dec <;> intro _) | (apply EvC_nbool <;> intro _) | (apply EvC_bool <;> intro _) | (apply EvG_nbool <;> intro _) | (apply EvG_bool <;> intro _) | (apply EvH_nbool <;> intro _) | (apply EvH_bool <;> intro _)
    · have g4 : (H.length : Int) < t := by omega
      refine EvB_run (N := 27) Try.func26 rfl rfl fun z hP hO hro hN hQ => ?_
      repeat' first | simp (config := { maxSteps := 2000000 }) (disch := first | omega | (repeat first | assumption | exact Kept.refl _ | refine Kept.set' (by assumption) ?_ ?_ | refine Kept.set (by assumption) ?_ ?_ | omega)) only [go_sem, *, Try.results26, heightV, hgtA, hgtE, Nat.reduceLT, Nat.reduceAdd, Nat.reduceMul, Nat.reduceSub, Nat.reduceEqDiff, Nat.reduceLeDiff, Int.reduceToNat, Int.reduceLT, Int.reduceLE, Int.reduceEq, Int.reduceNe, Int.reduceAdd, Int.reduceSub, Int.reduceMul, Int.reduceNeg, ↓reduceIte, reduceCtorEq] | (apply EvG_ndec <;> intro _) | (apply EvC_ndec <;> intro _) | (apply EvG_dec <;> intro _) | (apply EvC_dec <;> intro _) | fail | (apply EvH_ndec <;> intro _) | (apply EvH_dec <;> intro _) | (apply EvC_nbool <;> intro _) | (apply EvC_bool <;> intro _) | (apply EvG_nbool <;> intro _) | (apply EvG_bool <;> intro _) | (apply EvH_nbool <;> intro _) | (apply EvH_bool <;> intro _)
end Go.Proofs.Ytakfjoelpploeaa

set_option linter.unusedVariables false
set_option linter.unusedSimpArgs false
namespace Go.Proofs.Ytakfjoelpploeaa
open Go.Am

/-- Where a place stands first. -/
def fnd : List (Int × Int × Int) → Int × Int × Int → Int → Option Int
  | [], _, _ => none
  | y :: ys, x, b => if y = x then some b else fnd ys x (b + 1)
def findV (W : List (Int × Int × Int)) (x : Int × Int × Int) : Value := match fnd W x 0 with
  | some i => .tuple ⟨[.int .i64 i, .int .i64 0]⟩
  | none => .tuple ⟨[.int .i64 0, .int .i64 3]⟩
theorem plcs_drop : ∀ (W : List (Int × Int × Int)) (i : Nat), (plcs W).drop (i * 3) = plcs (W.drop i)
  | W, 0 => by simp
  | [], i + 1 => by simp [plcs]
  | y :: ys, i + 1 => by
    have : (i + 1) * 3 = i * 3 + 3 := by omega
    rw [this]
    simp only [List.drop_succ_cons]
    rw [← plcs_drop ys i]
    simp [plcs, plc]
theorem guard63 : Try.prog.eqGuardType Try.prog.depth 63 = false := by kernel_rfl
def eqPlc (x y : Int × Int × Int) : AP Bool := cond (x.1 == y.1) (cond (x.2.1 == y.2.1) (cond (x.2.2 == y.2.2) (.pure true) (.pure false)) (.pure false)) (.pure false)
theorem aEqual63 (x y : Int × Int × Int) : aEqual Try.prog 12 63 (.agg ⟨plc x⟩) (.agg ⟨plc y⟩) = eqPlc x y := by kernel_rfl
theorem eqPlc_eq (x y : Int × Int × Int) : eqPlc x y = .pure (decide (x = y)) := by
  obtain ⟨a, b, c⟩ := x
  obtain ⟨a', b', c'⟩ := y
  have q : ∀ x y : Int, (x == y) = decide (x = y) := fun x y => rfl
  unfold eqPlc
  by_cases h1 : a = a' <;> by_cases h2 : b = b' <;> by_cases h3 : c = c' <;> simp [q, h1, h2, h3]
theorem eq63 (a b c a' b' c' : Int) (cx cy : Bool) : binV Try.prog .eql 63 cx cy (.agg ⟨[.int .u8 a, .int .i64 b, .int .i64 c]⟩) (.agg ⟨[.int .u8 a', .int .i64 b', .int .i64 c']⟩) = .pure (.value (.bool (decide ((a, b, c) = (a', b', c'))))) := by
  have h := aEqual63 (a, b, c) (a', b', c')
  simp only [plc] at h
  simp only [binV, aBinOp, eqGuardOk, guard63, Bool.not_false, cond_true, h, eqPlc_eq, AP.bind]

theorem fnd_drop {W : List (Int × Int × Int)} {i : Nat} (hi : i < W.length) (x : Int × Int × Int) (b : Int) : fnd (W.drop i) x b = if W[i] = x then some b else fnd (W.drop (i + 1)) x (b + 1) := by
  rw [List.drop_eq_getElem_cons hi, fnd]

set_option maxRecDepth 100000 in
set_option maxHeartbeats 4000000 in
theorem refFind {O : Over} (v0 v1 v2 v3 v4 v5 v6 v7 v8 v9 v10 v11 v12 v13 v14 v15 v16 v17 v18 v19 v20 v21 v22 v23 v24 v25 v26 : Value) (wb : Nat) (W : List (Int × Int × Int)) (lb2 : Nat) (ro : Bool) (k x y : Int) (h : PT ABlk) (N : Nat) (hW : WfH h N)
    (hb : h.get lb2 = some (.cells (PT.ofList .leaf 0 [v0, v1, v2, v3, v4, v5, v6, v7, v8, v9, v10, v11, v12, v13, v14, v15, v16, v17, v18, v19, v20, v21, v22, v23, v24, v25, v26, .slice (some ⟨wb, 0, none⟩) W.length (capInf + 3)]) ro)) (hw : h.get wb = some (.cells (PT.ofList .leaf 0 (plcs W)) false)) (hn : W.length ≤ 100000) :
    EvB Try.prog O 54 [.pointer (some ⟨lb2, 0, none⟩), .agg ⟨[.int .u8 k, .int .i64 x, .int .i64 y]⟩] h N fun v h' n' => v = findV W (k, x, y) ∧ Kept h h' := by
  have hlbn := hW.lt hb
  have hwbn := hW.lt hw
  refine EvB_run (N := 28) Try.func54 rfl rfl fun z hP hO hro hN hQ => ?_
  repeat' first | simp (config := { maxSteps := 2000000 }) (disch := first | omega | (repeat first | assumption | exact Kept.refl _ | refine Kept.set' (by assumption) ?_ ?_ | refine Kept.set (by assumption) ?_ ?_ | omega)) only [go_sem, *, Try.results54, Nat.reduceLT, Nat.reduceAdd, Nat.reduceMul, Nat.reduceSub, Nat.reduceEqDiff, Nat.reduceLeDiff, Int.reduceToNat, Int.reduceLT, Int.reduceLE, Int.reduceEq, Int.reduceNe, Int.reduceAdd, Int.reduceSub, Int.reduceMul, Int.reduceNeg, ↓reduceIte, reduceCtorEq] | (apply EvG_ndec <;> intro _) | (apply EvC_ndec <;> intro _) | (apply EvG_dec <;> intro _) | (apply EvC_dec <;> intro _) | refine EvK_draw (id := 6) (L := [(0, 4), (1, 4), (2, 4), (3, 4), (0, 7), (1, 7), (2, 7), (3, 7), (4, 7), (5, 7), (6, 7)]) (by kernel_rfl) (by kernel_rfl) ?_ | (apply EvH_ndec <;> intro _) | (apply EvH_dec <;> intro _) | (apply EvC_nbool <;> intro _) | (apply EvC_bool <;> intro _) | (apply EvG_nbool <;> intro _) | (apply EvG_bool <;> intro _) | (apply EvH_nbool <;> intro _) | (apply EvH_bool <;> intro _)
  refine ind_loop (fun t m h' n' => ∃ i : Nat, i ≤ W.length ∧ t = W.length - i ∧ m.n = 28 ∧ m.dfs = [] ∧ m.get 0 = .pointer (some ⟨lb2, 0, none⟩) ∧ m.get 3 = .pointer (some ⟨N, 0, none⟩) ∧ m.get 6 = .int .i64 i ∧ n' = N + 1 ∧ Kept h h' ∧ h'.get N = some (.cells (PT.ofList .leaf 0 [.int .u8 k, .int .i64 x, .int .i64 y]) false) ∧ findV W (k, x, y) = (match fnd (W.drop i) (k, x, y) i with | some j => .tuple ⟨[.int .i64 j, .int .i64 0]⟩ | none => .tuple ⟨[.int .i64 0, .int .i64 3]⟩)) W.length ?_ ?_
  · refine ⟨0, by omega, by omega, ?_⟩
    simp (config := { maxSteps := 2000000 }) (disch := first | omega | (repeat first | assumption | exact Kept.refl _ | refine Kept.set' (by assumption) ?_ ?_ | refine Kept.set (by assumption) ?_ ?_ | omega)) only [go_sem, *, Nat.reduceLT, Nat.reduceAdd, Nat.reduceMul, Nat.reduceSub, Nat.reduceEqDiff, Nat.reduceLeDiff, Int.reduceToNat, Int.reduceLT, Int.reduceLE, Int.reduceEq, Int.reduceNe, Int.reduceAdd, Int.reduceSub, Int.reduceMul, Int.reduceNeg, ↓reduceIte, reduceCtorEq]
    exact ⟨hW.kept (Nat.le_refl _), rfl⟩
  · rintro t m h' n' ih ⟨i, hi, rfl, m1, m2, m3, m4, m5, rfl, q1, q2, q3⟩
    have hb' := q1 _ _ hb
    have hw' := q1 _ _ hw
    rcases Nat.lt_or_ge i W.length with hlt | hge
    · have e7 : (i : Int) < W.length := by omega
      rw [fnd_drop hlt] at q3
      obtain ⟨⟨k', x', y'⟩, hwi⟩ : ∃ w, W[i] = w := ⟨_, rfl⟩
      have hrow : ((plcs W).drop (i * 3)).take 3 = [.int .u8 k', .int .i64 x', .int .i64 y'] := by
        rw [plcs_drop, List.drop_eq_getElem_cons hlt, hwi]; simp [plcs, plc]
      have hpl : (plcs W).length = W.length * 3 := plcs_length W
      rw [hwi] at q3
      by_cases he : (k', x', y') = (k, x, y)
      · rw [if_pos he] at q3
        repeat' first | simp (config := { maxSteps := 2000000 }) (disch := first | omega | (repeat first | assumption | exact Kept.refl _ | refine Kept.set' (by assumption) ?_ ?_ | refine Kept.set (by assumption) ?_ ?_ | omega)) only [go_sem, *, Try.results54, eq63, Nat.reduceLT, Nat.reduceAdd, Nat.reduceMul, Nat.reduceSub, Nat.reduceEqDiff, Nat.reduceLeDiff, Int.reduceToNat, Int.reduceLT, Int.reduceLE, Int.reduceEq, Int.reduceNe, Int.reduceAdd, Int.reduceSub, Int.reduceMul, Int.reduceNeg, ↓reduceIte, reduceCtorEq] | (apply EvG_ndec <;> intro _) | (apply EvC_ndec <;> intro _) | (apply EvG_dec <;> intro _) | (apply EvC_dec <;> intro _) | refine EvK_draw (id := 6) (L := [(0, 4), (1, 4), (2, 4), (3, 4), (0, 7), (1, 7), (2, 7), (3, 7), (4, 7), (5, 7), (6, 7)]) (by kernel_rfl) (by kernel_rfl) ?_ | (apply EvH_ndec <;> intro _) | (apply EvH_dec <;> intro _) | (apply EvC_nbool <;> intro _) | (apply EvC_bool <;> intro _) | (apply EvG_nbool <;> intro _) | (apply EvG_bool <;> intro _) | (apply EvH_nbool <;> intro _) | (apply EvH_bool <;> intro _)
      · rw [if_neg he] at q3
        repeat' first | simp (config := { maxSteps := 2000000 }) (disch := first | omega | (repeat first | assumption | exact Kept.refl _ | refine Kept.set' (by assumption) ?_ ?_ | refine Kept.set (by assumption) ?_ ?_ | omega)) only [go_sem, *, Try.results54, eq63, Nat.reduceLT, Nat.reduceAdd, Nat.reduceMul, Nat.reduceSub, Nat.reduceEqDiff, Nat.reduceLeDiff, Int.reduceToNat, Int.reduceLT, Int.reduceLE, Int.reduceEq, Int.reduceNe, Int.reduceAdd, Int.reduceSub, Int.reduceMul, Int.reduceNeg, ↓reduceIte, reduceCtorEq] | (apply EvG_ndec <;> intro _) | (apply EvC_ndec <;> intro _) | (apply EvG_dec <;> intro _) | (apply EvC_dec <;> intro _) | refine EvK_draw (id := 6) (L := [(0, 4), (1, 4), (2, 4), (3, 4), (0, 7), (1, 7), (2, 7), (3, 7), (4, 7), (5, 7), (6, 7)]) (by kernel_rfl) (by kernel_rfl) ?_ | (apply EvH_ndec <;> intro _) | (apply EvH_dec <;> intro _) | (apply EvC_nbool <;> intro _) | (apply EvC_bool <;> intro _) | (apply EvG_nbool <;> intro _) | (apply EvG_bool <;> intro _) | (apply EvH_nbool <;> intro _) | (apply EvH_bool <;> intro _)
        refine ih (W.length - (i + 1)) _ _ _ (by omega) ⟨i + 1, by omega, rfl, ?_⟩
        have hci : ((i + 1 : Nat) : Int) = (i : Int) + 1 := by omega
        rw [hci]
        simp (config := { maxSteps := 2000000 }) (disch := first | omega | (repeat first | assumption | exact Kept.refl _ | refine Kept.set' (by assumption) ?_ ?_ | refine Kept.set (by assumption) ?_ ?_ | omega)) only [go_sem, *, Nat.reduceLT, Nat.reduceAdd, Nat.reduceMul, Nat.reduceSub, Nat.reduceEqDiff, Nat.reduceLeDiff, Int.reduceToNat, Int.reduceLT, Int.reduceLE, Int.reduceEq, Int.reduceNe, Int.reduceAdd, Int.reduceSub, Int.reduceMul, Int.reduceNeg, ↓reduceIte, reduceCtorEq]
    · have e7 : ¬ (i : Int) < W.length := by omega
      rw [List.drop_eq_nil_of_le hge] at q3
      repeat' first | simp (config := { maxSteps := 2000000 }) (disch := first | omega | (repeat first | assumption | exact Kept.refl _ | refine Kept.set' (by assumption) ?_ ?_ | refine Kept.set (by assumption) ?_ ?_ | omega)) only [go_sem, *, Try.results54, fnd, Nat.reduceLT, Nat.reduceAdd, Nat.reduceMul, Nat.reduceSub, Nat.reduceEqDiff, Nat.reduceLeDiff, Int.reduceToNat, Int.reduceLT, Int.reduceLE, Int.reduceEq, Int.reduceNe, Int.reduceAdd, Int.reduceSub, Int.reduceMul, Int.reduceNeg, ↓reduceIte, reduceCtorEq] | (apply EvG_ndec <;> intro _) | (apply EvC_ndec <;> intro _) | (apply EvG_dec <;> intro _) | (apply EvC_dec <;> intro _) | refine EvK_draw (id := 6) (L := [(0, 4), (1, 4), (2, 4), (3, 4), (0, 7), (1, 7), (2, 7), (3, 7), (4, 7), (5, 7), (6, 7)]) (by kernel_rfl) (by kernel_rfl) ?_ | (apply EvH_ndec <;> intro _) | (apply EvH_dec <;> intro _) | (apply EvC_nbool <;> intro _) | (apply EvC_bool <;> intro _) | (apply EvG_nbool <;> intro _) | (apply EvG_bool <;> intro _) | (apply EvH_nbool <;> intro _) | (apply EvH_bool <;> intro _)
end Go.Proofs.Ytakfjoelpploeaa

set_option linter.unusedVariables false
set_option linter.unusedSimpArgs false
namespace Go.Proofs.Ytakfjoelpploeaa
open Go.Am

def fI (W : List (Int × Int × Int)) (x : Int × Int × Int) : Int := (fnd W x 0).getD 0
def fE (W : List (Int × Int × Int)) (x : Int × Int × Int) : Int := if (fnd W x 0).isSome then 0 else 3
theorem findV_eq (W : List (Int × Int × Int)) (x : Int × Int × Int) : findV W x = .tuple ⟨[.int .i64 (fI W x), .int .i64 (fE W x)]⟩ := by
  unfold findV fI fE
  cases fnd W x 0 <;> rfl
def wrdR (W : List (Int × Int × Int)) (t w : Int) : Value := if w < 0 ∨ 4 < w then .tuple ⟨[.int .i64 0, .int .i64 3]⟩ else findV W (9, t, w)
def ltcR (W : List (Int × Int × Int)) (r : Int) : Value := if r = 0 then .tuple ⟨[.int .i64 0, .int .i64 3]⟩ else if 0 < r then findV W (9, r, 3) else findV W (8, IntKind.i64.wrap (-1 - r), 0)

set_option maxRecDepth 100000 in
set_option maxHeartbeats 4000000 in
theorem refWord {O : Over} (o54 : ∀ a, O 54 a = none) (v0 v1 v2 v3 v4 v5 v6 v7 v8 v9 v10 v11 v12 v13 v14 v15 v16 v17 v18 v19 v20 v21 v22 v23 v24 v25 v26 : Value) (wb : Nat) (W : List (Int × Int × Int)) (lb2 : Nat) (ro : Bool) (t w : Int) (h : PT ABlk) (N : Nat) (hW : WfH h N)
    (hb : h.get lb2 = some (.cells (PT.ofList .leaf 0 [v0, v1, v2, v3, v4, v5, v6, v7, v8, v9, v10, v11, v12, v13, v14, v15, v16, v17, v18, v19, v20, v21, v22, v23, v24, v25, v26, .slice (some ⟨wb, 0, none⟩) W.length (capInf + 3)]) ro)) (hw : h.get wb = some (.cells (PT.ofList .leaf 0 (plcs W)) false)) (hn : W.length ≤ 100000) :
    EvB Try.prog O 28 [.pointer (some ⟨lb2, 0, none⟩), .int .i64 t, .int .i64 w] h N fun v h' n' => v = wrdR W t w ∧ Kept h h' := by
  unfold wrdR
  by_cases g1 : w < 0
  · rw [if_pos (.inl g1)]
    refine EvB_run (N := 25) Try.func28 rfl rfl fun z hP hO hro hN hQ => ?_
    repeat' first | simp (config := { maxSteps := 2000000 }) (disch := first | omega | (repeat first | assumption | exact Kept.refl _ | refine Kept.set' (by assumption) ?_ ?_ | refine Kept.set (by assumption) ?_ ?_ | omega)) only [go_sem, *, Try.results28, Nat.reduceLT, Nat.reduceAdd, Nat.reduceMul, Nat.reduceSub, Nat.reduceEqDiff, Nat.reduceLeDiff, Int.reduceToNat, Int.reduceLT, Int.reduceLE, Int.reduceEq, Int.reduceNe, Int.reduceAdd, Int.reduceSub, Int.reduceMul, Int.reduceNeg, ↓reduceIte, reduceCtorEq] | (apply EvG_ndec <;> intro _) | (apply EvC_ndec <;> intro _) | (apply EvG_dec <;> intro _) | (apply EvC_dec <;> intro _) | fail | (apply EvH_ndec <;> intro _) | (apply EvH_dec <;> intro _) | (apply EvC_nbool <;> intro _) | (apply EvC_bool <;> intro _) | (apply EvG_nbool <;> intro _) | (apply EvG_bool <;> intro _) | (apply EvH_nbool <;> intro _) | (apply EvH_bool <;> intro _)
    all_goals exact Kept.refl _
  · by_cases g2 : 4 < w
    · rw [if_pos (.inr g2)]
      refine EvB_run (N := 25) Try.func28 rfl rfl fun z hP hO hro hN hQ => ?_
      repeat' first | simp (config := { maxSteps := 2000000 }) (disch := first | omega | (repeat first | assumption | exact Kept.refl _ | refine Kept.set' (by assumption) ?_ ?_ | refine Kept.set (by assumption) ?_ ?_ | omega)) only [go_sem, *, Try.results28, Nat.reduceLT, Nat.reduceAdd, Nat.reduceMul, Nat.reduceSub, Nat.reduceEqDiff, Nat.reduceLeDiff, Int.reduceToNat, Int.reduceLT, Int.reduceLE, Int.reduceEq, Int.reduceNe, Int.reduceAdd, Int.reduceSub, Int.reduceMul, Int.reduceNeg, ↓reduceIte, reduceCtorEq] | (apply EvG_ndec <;> intro _) | (apply EvC_ndec <;> intro _) | (apply EvG_dec <;> intro _) | (apply EvC_dec <;> intro _) | fail | (apply EvH_ndec <;> intro _) | (apply EvH_dec <;> intro _) | (apply EvC_nbool <;> intro _) | (apply EvC_bool <;> intro _) | (apply EvG_nbool <;> intro _) | (apply EvG_bool <;> intro _) | (apply EvH_nbool <;> intro _) | (apply EvH_bool <;> intro _)
      all_goals exact Kept.refl _
    · rw [if_neg (by omega)]
      refine EvB_run (N := 25) Try.func28 rfl rfl fun z hP hO hro hN hQ => ?_
      repeat' first | simp (config := { maxSteps := 2000000 }) (disch := first | omega | (repeat first | assumption | exact Kept.refl _ | refine Kept.set' (by assumption) ?_ ?_ | refine Kept.set (by assumption) ?_ ?_ | omega)) only [go_sem, *, Try.results28, Nat.reduceLT, Nat.reduceAdd, Nat.reduceMul, Nat.reduceSub, Nat.reduceEqDiff, Nat.reduceLeDiff, Int.reduceToNat, Int.reduceLT, Int.reduceLE, Int.reduceEq, Int.reduceNe, Int.reduceAdd, Int.reduceSub, Int.reduceMul, Int.reduceNeg, ↓reduceIte, reduceCtorEq] | (apply EvG_ndec <;> intro _) | (apply EvC_ndec <;> intro _) | (apply EvG_dec <;> intro _) | (apply EvC_dec <;> intro _) | fail | (apply EvH_ndec <;> intro _) | (apply EvH_dec <;> intro _) | (apply EvC_nbool <;> intro _) | (apply EvC_bool <;> intro _) | (apply EvG_nbool <;> intro _) | (apply EvG_bool <;> intro _) | (apply EvH_nbool <;> intro _) | (apply EvH_bool <;> intro _)
      refine EvQ_call ?_ ?_ (by rw [hP, hO]; exact refFind v0 v1 v2 v3 v4 v5 v6 v7 v8 v9 v10 v11 v12 v13 v14 v15 v16 v17 v18 v19 v20 v21 v22 v23 v24 v25 v26 wb W lb2 ro 9 t w h N hW hb hw hn) ?_
      · simp (config := { maxSteps := 2000000 }) (disch := first | omega | (repeat first | assumption | exact Kept.refl _ | refine Kept.set' (by assumption) ?_ ?_ | refine Kept.set (by assumption) ?_ ?_ | omega)) only [go_sem, *, Nat.reduceLT, Nat.reduceAdd, Nat.reduceMul, Nat.reduceSub, Nat.reduceEqDiff, Nat.reduceLeDiff, Int.reduceToNat, Int.reduceLT, Int.reduceLE, Int.reduceEq, Int.reduceNe, Int.reduceAdd, Int.reduceSub, Int.reduceMul, Int.reduceNeg, ↓reduceIte, reduceCtorEq]
      · simp (config := { maxSteps := 2000000 }) (disch := first | omega | (repeat first | assumption | exact Kept.refl _ | refine Kept.set' (by assumption) ?_ ?_ | refine Kept.set (by assumption) ?_ ?_ | omega)) only [go_sem, *, Nat.reduceLT, Nat.reduceAdd, Nat.reduceMul, Nat.reduceSub, Nat.reduceEqDiff, Nat.reduceLeDiff, Int.reduceToNat, Int.reduceLT, Int.reduceLE, Int.reduceEq, Int.reduceNe, Int.reduceAdd, Int.reduceSub, Int.reduceMul, Int.reduceNeg, ↓reduceIte, reduceCtorEq]
      rintro v h2 n2 ⟨rfl, hk⟩
      rw [findV_eq]
      rw [findV_eq] at hQ
      repeat' first | simp (config := { maxSteps := 2000000 }) (disch := first | omega | (repeat first | assumption | exact Kept.refl _ | refine Kept.set' (by assumption) ?_ ?_ | refine Kept.set (by assumption) ?_ ?_ | omega)) only [go_sem, *, Try.results28, Nat.reduceLT, Nat.reduceAdd, Nat.reduceMul, Nat.reduceSub, Nat.reduceEqDiff, Nat.reduceLeDiff, Int.reduceToNat, Int.reduceLT, Int.reduceLE, Int.reduceEq, Int.reduceNe, Int.reduceAdd, Int.reduceSub, Int.reduceMul, Int.reduceNeg, ↓reduceIte, reduceCtorEq] | (apply EvG_ndec <;> intro _) | (apply EvC_ndec <;> intro _) | (apply EvG_dec <;> intro _) | (apply EvC_dec <;> intro _) | fail | (apply EvH_ndec <;> intro _) | (apply EvH_dec <;> intro _) | (apply EvC_nbool <;> intro _) | (apply EvC_bool <;> intro _) | (apply EvG_nbool <;> intro _) | (apply EvG_bool <;> intro _) | (apply EvH_nbool <;> intro _) | (apply EvH_bool <;> intro _)
set_option maxRecDepth 100000 in
set_option maxHeartbeats 4000000 in
theorem refLatch {O : Over} (o54 : ∀ a, O 54 a = none) (v0 v1 v2 v3 v4 v5 v6 v7 v8 v9 v10 v11 v12 v13 v14 v15 v16 v17 v18 v19 v20 v21 v22 v23 v24 v25 v26 : Value) (wb : Nat) (W : List (Int × Int × Int)) (lb2 : Nat) (ro : Bool) (r : Int) (h : PT ABlk) (N : Nat) (hW : WfH h N)
    (hb : h.get lb2 = some (.cells (PT.ofList .leaf 0 [v0, v1, v2, v3, v4, v5, v6, v7, v8, v9, v10, v11, v12, v13, v14, v15, v16, v17, v18, v19, v20, v21, v22, v23, v24, v25, v26, .slice (some ⟨wb, 0, none⟩) W.length (capInf + 3)]) ro)) (hw : h.get wb = some (.cells (PT.ofList .leaf 0 (plcs W)) false)) (hn : W.length ≤ 100000) :
    EvB Try.prog O 32 [.pointer (some ⟨lb2, 0, none⟩), .int .i64 r] h N fun v h' n' => v = ltcR W r ∧ Kept h h' := by
  unfold ltcR
  by_cases g1 : r = 0
  · rw [if_pos g1]
    refine EvB_run (N := 27) Try.func32 rfl rfl fun z hP hO hro hN hQ => ?_
    repeat' first | simp (config := { maxSteps := 2000000 }) (disch := first | omega | (repeat first | assumption | exact Kept.refl _ | refine Kept.set' (by assumption) ?_ ?_ | refine Kept.set (by assumption) ?_ ?_ | omega)) only [go_sem, *, Try.results32, Nat.reduceLT, Nat.reduceAdd, Nat.reduceMul, Nat.reduceSub, Nat.reduceEqDiff, Nat.reduceLeDiff, Int.reduceToNat, Int.reduceLT, Int.reduceLE, Int.reduceEq, Int.reduceNe, Int.reduceAdd, Int.reduceSub, Int.reduceMul, Int.reduceNeg, ↓reduceIte, reduceCtorEq] | (apply EvG_ndec <;> intro _) | (apply EvC_ndec <;> intro _) | (apply EvG_dec <;> intro _) | (apply EvC_dec <;> intro _) | fail | (apply EvH_ndec <;> intro _) | (apply EvH_dec <;> intro _) | (apply EvC_nbool <;> intro _) | (apply EvC_bool <;> intro _) | (apply EvG_nbool <;> intro _) | (apply EvG_bool <;> intro _) | (apply EvH_nbool <;> intro _) | (apply EvH_bool <;> intro _)
    all_goals exact Kept.refl _
  · rw [if_neg g1]
    by_cases g2 : 0 < r
    · rw [if_pos g2]
      refine EvB_run (N := 27) Try.func32 rfl rfl fun z hP hO hro hN hQ => ?_
      repeat' first | simp (config := { maxSteps := 2000000 }) (disch := first | omega | (repeat first | assumption | exact Kept.refl _ | refine Kept.set' (by assumption) ?_ ?_ | refine Kept.set (by assumption) ?_ ?_ | omega)) only [go_sem, *, Try.results32, Nat.reduceLT, Nat.reduceAdd, Nat.reduceMul, Nat.reduceSub, Nat.reduceEqDiff, Nat.reduceLeDiff, Int.reduceToNat, Int.reduceLT, Int.reduceLE, Int.reduceEq, Int.reduceNe, Int.reduceAdd, Int.reduceSub, Int.reduceMul, Int.reduceNeg, ↓reduceIte, reduceCtorEq] | (apply EvG_ndec <;> intro _) | (apply EvC_ndec <;> intro _) | (apply EvG_dec <;> intro _) | (apply EvC_dec <;> intro _) | fail | (apply EvH_ndec <;> intro _) | (apply EvH_dec <;> intro _) | (apply EvC_nbool <;> intro _) | (apply EvC_bool <;> intro _) | (apply EvG_nbool <;> intro _) | (apply EvG_bool <;> intro _) | (apply EvH_nbool <;> intro _) | (apply EvH_bool <;> intro _)
      refine EvQ_call ?_ ?_ (by rw [hP, hO]; exact refFind v0 v1 v2 v3 v4 v5 v6 v7 v8 v9 v10 v11 v12 v13 v14 v15 v16 v17 v18 v19 v20 v21 v22 v23 v24 v25 v26 wb W lb2 ro 9 r 3 h N hW hb hw hn) ?_
      · simp (config := { maxSteps := 2000000 }) (disch := first | omega | (repeat first | assumption | exact Kept.refl _ | refine Kept.set' (by assumption) ?_ ?_ | refine Kept.set (by assumption) ?_ ?_ | omega)) only [go_sem, *, Nat.reduceLT, Nat.reduceAdd, Nat.reduceMul, Nat.reduceSub, Nat.reduceEqDiff, Nat.reduceLeDiff, Int.reduceToNat, Int.reduceLT, Int.reduceLE, Int.reduceEq, Int.reduceNe, Int.reduceAdd, Int.reduceSub, Int.reduceMul, Int.reduceNeg, ↓reduceIte, reduceCtorEq]
      · simp (config := { maxSteps := 2000000 }) (disch := first | omega | (repeat first | assumption | exact Kept.refl _ | refine Kept.set' (by assumption) ?_ ?_ | refine Kept.set (by assumption) ?_ ?_ | omega)) only [go_sem, *, Nat.reduceLT, Nat.reduceAdd, Nat.reduceMul, Nat.reduceSub, Nat.reduceEqDiff, Nat.reduceLeDiff, Int.reduceToNat, Int.reduceLT, Int.reduceLE, Int.reduceEq, Int.reduceNe, Int.reduceAdd, Int.reduceSub, Int.reduceMul, Int.reduceNeg, ↓reduceIte, reduceCtorEq]
      rintro v h2 n2 ⟨rfl, hk⟩
      rw [findV_eq]
      rw [findV_eq] at hQ
      repeat' first | simp (config := { maxSteps := 2000000 }) (disch := first | omega | (repeat first | assumption | exact Kept.refl _ | refine Kept.set' (by assumption) ?_ ?_ | refine Kept.set (by assumption) ?_ ?_ | omega)) only [go_sem, *, Try.results32, Nat.reduceLT, Nat.reduceAdd, Nat.reduceMul, Nat.reduceSub, Nat.reduceEqDiff, Nat.reduceLeDiff, Int.reduceToNat, Int.reduceLT, Int.reduceLE, Int.reduceEq, Int.reduceNe, Int.reduceAdd, Int.reduceSub, Int.reduceMul, Int.reduceNeg, ↓reduceIte, reduceCtorEq] | (apply EvG_ndec <;> intro _) | (apply EvC_ndec <;> intro _) | (apply EvG_dec <;> intro _) | (apply EvC_dec <;> intro _) | fail | (apply EvH_ndec <;> intro _) | (apply EvH_dec <;> intro _) | (apply EvC_nbool <;> intro _) | (apply EvC_bool <;> intro _) | (apply EvG_nbool <;> intro _) | (apply EvG_bool <;> intro _) | (apply EvH_nbool <;> intro _) | (apply EvH_bool <;> intro _)
    · rw [if_neg g2]
      refine EvB_run (N := 27) Try.func32 rfl rfl fun z hP hO hro hN hQ => ?_
      repeat' first | simp (config := { maxSteps := 2000000 }) (disch := first | omega | (repeat first | assumption | exact Kept.refl _ | refine Kept.set' (by assumption) ?_ ?_ | refine Kept.set (by assumption) ?_ ?_ | omega)) only [go_sem, *, Try.results32, Nat.reduceLT, Nat.reduceAdd, Nat.reduceMul, Nat.reduceSub, Nat.reduceEqDiff, Nat.reduceLeDiff, Int.reduceToNat, Int.reduceLT, Int.reduceLE, Int.reduceEq, Int.reduceNe, Int.reduceAdd, Int.reduceSub, Int.reduceMul, Int.reduceNeg, ↓reduceIte, reduceCtorEq] | (apply EvG_ndec <;> intro _) | (apply EvC_ndec <;> intro _) | (apply EvG_dec <;> intro _) | (apply EvC_dec <;> intro _) | fail | (apply EvH_ndec <;> intro _) | (apply EvH_dec <;> intro _) | (apply EvC_nbool <;> intro _) | (apply EvC_bool <;> intro _) | (apply EvG_nbool <;> intro _) | (apply EvG_bool <;> intro _) | (apply EvH_nbool <;> intro _) | (apply EvH_bool <;> intro _)
      refine EvQ_call ?_ ?_ (by rw [hP, hO]; exact refFind v0 v1 v2 v3 v4 v5 v6 v7 v8 v9 v10 v11 v12 v13 v14 v15 v16 v17 v18 v19 v20 v21 v22 v23 v24 v25 v26 wb W lb2 ro 8 (IntKind.i64.wrap (-1 - r)) 0 h N hW hb hw hn) ?_
      · simp (config := { maxSteps := 2000000 }) (disch := first | omega | (repeat first | assumption | exact Kept.refl _ | refine Kept.set' (by assumption) ?_ ?_ | refine Kept.set (by assumption) ?_ ?_ | omega)) only [go_sem, *, Nat.reduceLT, Nat.reduceAdd, Nat.reduceMul, Nat.reduceSub, Nat.reduceEqDiff, Nat.reduceLeDiff, Int.reduceToNat, Int.reduceLT, Int.reduceLE, Int.reduceEq, Int.reduceNe, Int.reduceAdd, Int.reduceSub, Int.reduceMul, Int.reduceNeg, ↓reduceIte, reduceCtorEq]
      · simp (config := { maxSteps := 2000000 }) (disch := first | omega | (repeat first | assumption | exact Kept.refl _ | refine Kept.set' (by assumption) ?_ ?_ | refine Kept.set (by assumption) ?_ ?_ | omega)) only [go_sem, *, Nat.reduceLT, Nat.reduceAdd, Nat.reduceMul, Nat.reduceSub, Nat.reduceEqDiff, Nat.reduceLeDiff, Int.reduceToNat, Int.reduceLT, Int.reduceLE, Int.reduceEq, Int.reduceNe, Int.reduceAdd, Int.reduceSub, Int.reduceMul, Int.reduceNeg, ↓reduceIte, reduceCtorEq]
      rintro v h2 n2 ⟨rfl, hk⟩
      rw [findV_eq]
      rw [findV_eq] at hQ
      repeat' first | simp (config := { maxSteps := 2000000 }) (disch := first | omega | (repeat first | assumption | exact Kept.refl _ | refine Kept.set' (by assumption) ?_ ?_ | refine Kept.set (by assumption) ?_ ?_ | omega)) only [go_sem, *, Try.results32, Nat.reduceLT, Nat.reduceAdd, Nat.reduceMul, Nat.reduceSub, Nat.reduceEqDiff, Nat.reduceLeDiff, Int.reduceToNat, Int.reduceLT, Int.reduceLE, Int.reduceEq, Int.reduceNe, Int.reduceAdd, Int.reduceSub, Int.reduceMul, Int.reduceNeg, ↓reduceIte, reduceCtorEq] | (apply EvG_ndec <;> intro _) | (apply EvC_ndec <;> intro _) | (apply EvG_dec <;> intro _) | (apply EvC_dec <;> intro _) | fail | (apply EvH_ndec <;> intro _) | (apply EvH_dec <;> intro _) | (apply EvC_nbool <;> intro _) | (apply EvC_bool <;> intro _) | (apply EvG_nbool <;> intro _) | (apply EvG_bool <;> intro _) | (apply EvH_nbool <;> intro _) | (apply EvH_bool <;> intro _)
end Go.Proofs.Ytakfjoelpploeaa

set_option linter.unusedVariables false
set_option linter.unusedSimpArgs false
namespace Go.Proofs.Ytakfjoelpploeaa
open Go.Am

def nxtR (W : List (Int × Int × Int)) (r lv : Int) : Value := if (lv < 0 ∨ 6 ≤ lv) ∨ r = 0 then .tuple ⟨[.int .i64 0, .int .i64 3]⟩ else if 0 < r then findV W (9, r, 5 + lv) else findV W (8, IntKind.i64.wrap (-1 - r), 1 + lv)

set_option maxRecDepth 100000 in
set_option maxHeartbeats 4000000 in
theorem refNext {O : Over} (o54 : ∀ a, O 54 a = none) (v0 v1 v2 v3 v4 v5 v6 v7 v8 v9 v10 v11 v12 v13 v14 v15 v16 v17 v18 v19 v20 v21 v22 v23 v24 v25 v26 : Value) (wb : Nat) (W : List (Int × Int × Int)) (lb2 : Nat) (ro : Bool) (r lv : Int) (h : PT ABlk) (N : Nat) (hW : WfH h N)
    (hb : h.get lb2 = some (.cells (PT.ofList .leaf 0 [v0, v1, v2, v3, v4, v5, v6, v7, v8, v9, v10, v11, v12, v13, v14, v15, v16, v17, v18, v19, v20, v21, v22, v23, v24, v25, v26, .slice (some ⟨wb, 0, none⟩) W.length (capInf + 3)]) ro)) (hw : h.get wb = some (.cells (PT.ofList .leaf 0 (plcs W)) false)) (hn : W.length ≤ 100000) :
    EvB Try.prog O 30 [.pointer (some ⟨lb2, 0, none⟩), .int .i64 r, .int .i64 lv] h N fun v h' n' => v = nxtR W r lv ∧ Kept h h' := by
  unfold nxtR
  by_cases g1 : lv < 0
  · rw [if_pos (.inl (.inl g1))]
    refine EvB_run (N := 41) Try.func30 rfl rfl fun z hP hO hro hN hQ => ?_
    repeat' first | simp (config := { maxSteps := 2000000 }) (disch := first | omega | (repeat first | assumption | exact Kept.refl _ | refine Kept.set' (by assumption) ?_ ?_ | refine Kept.set (by assumption) ?_ ?_ | omega)) only [go_sem, *, Try.results30, Nat.reduceLT, Nat.reduceAdd, Nat.reduceMul, Nat.reduceSub, Nat.reduceEqDiff, Nat.reduceLeDiff, Int.reduceToNat, Int.reduceLT, Int.reduceLE, Int.reduceEq, Int.reduceNe, Int.reduceAdd, Int.reduceSub, Int.reduceMul, Int.reduceNeg, ↓reduceIte, reduceCtorEq] | (apply EvG_ndec <;> intro _) | (apply EvC_ndec <;> intro _) | (apply EvG_dec <;> intro _) | (apply EvC_dec <;> intro _) | fail | (apply EvH_ndec <;> intro _) | (apply EvH_dec <;> intro _) | (apply EvC_nbool <;> intro _) | (apply EvC_bool <;> intro _) | (apply EvG_nbool <;> intro _) | (apply EvG_bool <;> intro _) | (apply EvH_nbool <;> intro _) | (apply EvH_bool <;> intro _)
    all_goals exact Kept.refl _
  · by_cases g2 : 6 ≤ lv
    · rw [if_pos (.inl (.inr g2))]
      refine EvB_run (N := 41) Try.func30 rfl rfl fun z hP hO hro hN hQ => ?_
      repeat' first | simp (config := { maxSteps := 2000000 }) (disch := first | omega | (repeat first | assumption | exact Kept.refl _ | refine Kept.set' (by assumption) ?_ ?_ | refine Kept.set (by assumption) ?_ ?_ | omega)) only [go_sem, *, Try.results30, Nat.reduceLT, Nat.reduceAdd, Nat.reduceMul, Nat.reduceSub, Nat.reduceEqDiff, Nat.reduceLeDiff, Int.reduceToNat, Int.reduceLT, Int.reduceLE, Int.reduceEq, Int.reduceNe, Int.reduceAdd, Int.reduceSub, Int.reduceMul, Int.reduceNeg, ↓reduceIte, reduceCtorEq] | (apply EvG_ndec <;> intro _) | (apply EvC_ndec <;> intro _) | (apply EvG_dec <;> intro _) | (apply EvC_dec <;> intro _) | fail | (apply EvH_ndec <;> intro _) | (apply EvH_dec <;> intro _) | (apply EvC_nbool <;> intro _) | (apply EvC_bool <;> intro _) | (apply EvG_nbool <;> intro _) | (apply EvG_bool <;> intro _) | (apply EvH_nbool <;> intro _) | (apply EvH_bool <;> intro _)
      all_goals exact Kept.refl _
    · by_cases g3 : r = 0
      · rw [if_pos (.inr g3)]
        refine EvB_run (N := 41) Try.func30 rfl rfl fun z hP hO hro hN hQ => ?_
        repeat' first | simp (config := { maxSteps := 2000000 }) (disch := first | omega | (repeat first | assumption | exact Kept.refl _ | refine Kept.set' (by assumption) ?_ ?_ | refine Kept.set (by assumption) ?_ ?_ | omega)) only [go_sem, *, Try.results30, Nat.reduceLT, Nat.reduceAdd, Nat.reduceMul, Nat.reduceSub, Nat.reduceEqDiff, Nat.reduceLeDiff, Int.reduceToNat, Int.reduceLT, Int.reduceLE, Int.reduceEq, Int.reduceNe, Int.reduceAdd, Int.reduceSub, Int.reduceMul, Int.reduceNeg, ↓reduceIte, reduceCtorEq] | (apply EvG_ndec <;> intro _) | (apply EvC_ndec <;> intro _) | (apply EvG_dec <;> intro _) | (apply EvC_dec <;> intro _) | fail | (apply EvH_ndec <;> intro _) | (apply EvH_dec <;> intro _) | (apply EvC_nbool <;> intro _) | (apply EvC_bool <;> intro _) | (apply EvG_nbool <;> intro _) | (apply EvG_bool <;> intro _) | (apply EvH_nbool <;> intro _) | (apply EvH_bool <;> intro _)
        all_goals exact Kept.refl _
      · rw [if_neg (by omega)]
        by_cases g4 : 0 < r
        · rw [if_pos g4]
          refine EvB_run (N := 41) Try.func30 rfl rfl fun z hP hO hro hN hQ => ?_
          repeat' first | simp (config := { maxSteps := 2000000 }) (disch := first | omega | (repeat first | assumption | exact Kept.refl _ | refine Kept.set' (by assumption) ?_ ?_ | refine Kept.set (by assumption) ?_ ?_ | omega)) only [go_sem, *, Try.results30, Nat.reduceLT, Nat.reduceAdd, Nat.reduceMul, Nat.reduceSub, Nat.reduceEqDiff, Nat.reduceLeDiff, Int.reduceToNat, Int.reduceLT, Int.reduceLE, Int.reduceEq, Int.reduceNe, Int.reduceAdd, Int.reduceSub, Int.reduceMul, Int.reduceNeg, ↓reduceIte, reduceCtorEq] | (apply EvG_ndec <;> intro _) | (apply EvC_ndec <;> intro _) | (apply EvG_dec <;> intro _) | (apply EvC_dec <;> intro _) | fail | (apply EvH_ndec <;> intro _) | (apply EvH_dec <;> intro _) | (apply EvC_nbool <;> intro _) | (apply EvC_bool <;> intro _) | (apply EvG_nbool <;> intro _) | (apply EvG_bool <;> intro _) | (apply EvH_nbool <;> intro _) | (apply EvH_bool <;> intro _)
          refine EvQ_call ?_ ?_ (by rw [hP, hO]; exact refFind v0 v1 v2 v3 v4 v5 v6 v7 v8 v9 v10 v11 v12 v13 v14 v15 v16 v17 v18 v19 v20 v21 v22 v23 v24 v25 v26 wb W lb2 ro 9 r (5 + lv) h N hW hb hw hn) ?_
          · simp (config := { maxSteps := 2000000 }) (disch := first | omega | (repeat first | assumption | exact Kept.refl _ | refine Kept.set' (by assumption) ?_ ?_ | refine Kept.set (by assumption) ?_ ?_ | omega)) only [go_sem, *, Nat.reduceLT, Nat.reduceAdd, Nat.reduceMul, Nat.reduceSub, Nat.reduceEqDiff, Nat.reduceLeDiff, Int.reduceToNat, Int.reduceLT, Int.reduceLE, Int.reduceEq, Int.reduceNe, Int.reduceAdd, Int.reduceSub, Int.reduceMul, Int.reduceNeg, ↓reduceIte, reduceCtorEq]
          · simp (config := { maxSteps := 2000000 }) (disch := first | omega | (repeat first | assumption | exact Kept.refl _ | refine Kept.set' (by assumption) ?_ ?_ | refine Kept.set (by assumption) ?_ ?_ | omega)) only [go_sem, *, Nat.reduceLT, Nat.reduceAdd, Nat.reduceMul, Nat.reduceSub, Nat.reduceEqDiff, Nat.reduceLeDiff, Int.reduceToNat, Int.reduceLT, Int.reduceLE, Int.reduceEq, Int.reduceNe, Int.reduceAdd, Int.reduceSub, Int.reduceMul, Int.reduceNeg, ↓reduceIte, reduceCtorEq]
          rintro v h2 n2 ⟨rfl, hk⟩
          rw [findV_eq]
          rw [findV_eq] at hQ
          repeat' first | simp (config := { maxSteps := 2000000 }) (disch := first | omega | (repeat first | assumption | exact Kept.refl _ | refine Kept.set' (by assumption) ?_ ?_ | refine Kept.set (by assumption) ?_ ?_ | omega)) only [go_sem, *, Try.results30, Nat.reduceLT, Nat.reduceAdd, Nat.reduceMul, Nat.reduceSub, Nat.reduceEqDiff, Nat.reduceLeDiff, Int.reduceToNat, Int.reduceLT, Int.reduceLE, Int.reduceEq, Int.reduceNe, Int.reduceAdd, Int.reduceSub, Int.reduceMul, Int.reduceNeg, ↓reduceIte, reduceCtorEq] | (apply EvG_ndec <;> intro _) | (apply EvC_ndec <;> intro _) | (apply EvG_dec <;> intro _) | (apply EvC_dec <;> intro _) | fail | (apply EvH_ndec <;> intro _) | (apply EvH_dec <;> intro _) | (apply EvC_nbool <;> intro _) | (apply EvC_bool <;> intro _) | (apply EvG_nbool <;> intro _) | (apply EvG_bool <;> intro _) | (apply EvH_nbool <;> intro _) | (apply EvH_bool <;> intro _)
        · rw [if_neg g4]
          refine EvB_run (N := 41) Try.func30 rfl rfl fun z hP hO hro hN hQ => ?_
          repeat' first | simp (config := { maxSteps := 2000000 }) (disch := first | omega | (repeat first | assumption | exact Kept.refl _ | refine Kept.set' (by assumption) ?_ ?_ | refine Kept.set (by assumption) ?_ ?_ | omega)) only [go_sem, *, Try.results30, Nat.reduceLT, Nat.reduceAdd, Nat.reduceMul, Nat.reduceSub, Nat.reduceEqDiff, Nat.reduceLeDiff, Int.reduceToNat, Int.reduceLT, Int.reduceLE, Int.reduceEq, Int.reduceNe, Int.reduceAdd, Int.reduceSub, Int.reduceMul, Int.reduceNeg, ↓reduceIte, reduceCtorEq] | (apply EvG_ndec <;> intro _) | (apply EvC_ndec <;> intro _) | (apply EvG_dec <;> intro _) | (apply EvC_dec <;> intro _) | fail | (apply EvH_ndec <;> intro _) | (apply EvH_dec <;> intro _) | (apply EvC_nbool <;> intro _) | (apply EvC_bool <;> intro _) | (apply EvG_nbool <;> intro _) | (apply EvG_bool <;> intro _) | (apply EvH_nbool <;> intro _) | (apply EvH_bool <;> intro _)
          refine EvQ_call ?_ ?_ (by rw [hP, hO]; exact refFind v0 v1 v2 v3 v4 v5 v6 v7 v8 v9 v10 v11 v12 v13 v14 v15 v16 v17 v18 v19 v20 v21 v22 v23 v24 v25 v26 wb W lb2 ro 8 (IntKind.i64.wrap (-1 - r)) (1 + lv) h N hW hb hw hn) ?_
          · simp (config := { maxSteps := 2000000 }) (disch := first | omega | (repeat first | assumption | exact Kept.refl _ | refine Kept.set' (by assumption) ?_ ?_ | refine Kept.set (by assumption) ?_ ?_ | omega)) only [go_sem, *, Nat.reduceLT, Nat.reduceAdd, Nat.reduceMul, Nat.reduceSub, Nat.reduceEqDiff, Nat.reduceLeDiff, Int.reduceToNat, Int.reduceLT, Int.reduceLE, Int.reduceEq, Int.reduceNe, Int.reduceAdd, Int.reduceSub, Int.reduceMul, Int.reduceNeg, ↓reduceIte, reduceCtorEq]
          · simp (config := { maxSteps := 2000000 }) (disch := first | omega | (repeat first | assumption | exact Kept.refl _ | refine Kept.set' (by assumption) ?_ ?_ | refine Kept.set (by assumption) ?_ ?_ | omega)) only [go_sem, *, Nat.reduceLT, Nat.reduceAdd, Nat.reduceMul, Nat.reduceSub, Nat.reduceEqDiff, Nat.reduceLeDiff, Int.reduceToNat, Int.reduceLT, Int.reduceLE, Int.reduceEq, Int.reduceNe, Int.reduceAdd, Int.reduceSub, Int.reduceMul, Int.reduceNeg, ↓reduceIte, reduceCtorEq]
          rintro v h2 n2 ⟨rfl, hk⟩
          rw [findV_eq]
          rw [findV_eq] at hQ
          repeat' first | simp (config := { maxSteps := 2000000 }) (disch := first | omega | (repeat first | assumption | exact Kept.refl _ | refine Kept.set' (by assumption) ?_ ?_ | refine Kept.set (by assumption) ?_ ?_ | omega)) only [go_sem, *, Try.results30, Nat.reduceLT, Nat.reduceAdd, Nat.reduceMul, Nat.reduceSub, Nat.reduceEqDiff, Nat.reduceLeDiff, Int.reduceToNat, Int.reduceLT, Int.reduceLE, Int.reduceEq, Int.reduceNe, Int.reduceAdd, Int.reduceSub, Int.reduceMul, Int.reduceNeg, ↓reduceIte, reduceCtorEq] | (apply EvG_ndec <;> intro _) | (apply EvC_ndec <;> intro _) | (apply EvG_dec <;> intro _) | (apply EvC_dec <;> intro _) | fail | (apply EvH_ndec <;> intro _) | (apply EvH_dec <;> intro _) | (apply EvC_nbool <;> intro _) | (apply EvC_bool <;> intro _) | (apply EvG_nbool <;> intro _) | (apply EvG_bool <;> intro _) | (apply EvH_nbool <;> intro _) | (apply EvH_bool <;> intro _)
end Go.Proofs.Ytakfjoelpploeaa

set_option linter.unusedVariables false
set_option linter.unusedSimpArgs false
namespace Go.Proofs.Ytakfjoelpploeaa
open Go.Am

theorem fnd_append : ∀ (A B : List (Int × Int × Int)) (x : Int × Int × Int) (b : Int), fnd (A ++ B) x b = (fnd A x b).or (fnd B x (b + A.length))
  | [], B, x, b => by simp [fnd]
  | y :: A, B, x, b => by
    rw [List.cons_append, fnd, fnd, fnd_append A B x (b + 1)]
    by_cases e : y = x
    · simp [e]
    · simp only [if_neg e, List.length_cons]
      congr 2
      omega
theorem fnd_none : ∀ (A : List (Int × Int × Int)) (x : Int × Int × Int) (b : Int), ¬ x ∈ A → fnd A x b = none
  | [], _, _, _ => rfl
  | y :: A, x, b, h => by
    simp only [List.mem_cons, not_or] at h
    rw [fnd, if_neg (fun e => h.1 e.symm), fnd_none A x (b + 1) h.2]
/-- The first of a row that is given by its entries. -/
theorem fnd_at : ∀ (A : List (Int × Int × Int)) (x : Int × Int × Int) (b : Int) (i : Nat), A[i]? = some x → (∀ j, j < i → A[j]? ≠ some x) → fnd A x b = some (b + i)
  | [], x, b, i, h, _ => by simp at h
  | y :: A, x, b, 0, h, _ => by
    simp at h; subst h; simp [fnd]
  | y :: A, x, b, i + 1, h, hn => by
    have h0 := hn 0 (by omega)
    simp only [List.getElem?_cons_zero, ne_eq, Option.some.injEq] at h0
    rw [fnd, if_neg h0, fnd_at A x (b + 1) i (by simpa using h) fun j hj => by have := hn (j + 1) (by omega); simpa using this]
    congr 1; omega
theorem grp_get {kind first : Int} {p n i : Nat} (hi : i < n) : (grp kind first p n)[i]? = some (kind, first + ((i / p : Nat) : Int), ((i % p : Nat) : Int)) := by
  simp [grp, hi]
theorem fnd_grp_in {kind first a c b : Int} {p n u v : Nat} (hp : 0 < p) (ha : a = first + (u : Int)) (hc : c = (v : Int)) (hv : v < p) (hn : u * p + v < n) : fnd (grp kind first p n) (kind, a, c) b = some (b + ((u * p + v : Nat) : Int)) := by
  have e1 : (u * p + v) / p = u := by
    rw [Nat.add_comm, Nat.add_mul_div_right _ _ hp, Nat.div_eq_of_lt hv, Nat.zero_add]
  have e2 : (u * p + v) % p = v := by
    rw [Nat.add_comm, Nat.add_mul_mod_self_right, Nat.mod_eq_of_lt hv]
  refine fnd_at _ _ _ _ ?_ fun j hj => ?_
  · rw [grp_get hn, e1, e2, ha, hc]
  · rw [grp_get (by omega)]
    intro e
    simp only [Option.some.injEq, Prod.mk.injEq, true_and] at e
    have h1 : j / p = u := by omega
    have h2 : j % p = v := by omega
    have := Nat.div_add_mod j p
    rw [h1, h2, Nat.mul_comm] at this
    omega
theorem fnd_grp_out {kind first b k a c : Int} {p n : Nat} (h : ∀ u v : Nat, v < p → u * p + v < n → ¬ (k = kind ∧ a = first + (u : Int) ∧ c = (v : Int))) (hp : 0 < p) : fnd (grp kind first p n) (k, a, c) b = none := by
  refine fnd_none _ _ _ fun hm => ?_
  obtain ⟨i, hi⟩ := List.getElem?_of_mem hm
  have hin : i < n := by
    have := (List.getElem?_eq_some_iff.1 hi).1
    rwa [grp_length] at this
  rw [grp_get hin] at hi
  simp only [Option.some.injEq, Prod.mk.injEq] at hi
  have hd := Nat.div_add_mod i p
  refine h (i / p) (i % p) (Nat.mod_lt _ hp) (by rw [Nat.mul_comm]; omega) ⟨hi.1.symm, hi.2.1.symm, hi.2.2.symm⟩
theorem fnd_grp_kind {kind first b k a c : Int} {p n : Nat} (h : k ≠ kind) : fnd (grp kind first p n) (k, a, c) b = none := by
  refine fnd_none _ _ _ fun hm => ?_
  simp only [grp, List.mem_map, Prod.mk.injEq] at hm
  obtain ⟨i, _, hi, _⟩ := hm
  exact h hi.symm
theorem twrs_tag : ∀ (H : List Int) (t : Int) (y : Int × Int × Int), y ∈ twrs t H → y.1 = 9 ∧ t ≤ y.2.1 ∧ y.2.1 < t + H.length
  | [], t, y, h => by simp [twrs] at h
  | x :: r, t, y, h => by
    rw [twrs, List.mem_append] at h
    rcases h with h | h
    · simp only [grp, List.mem_map, List.mem_range] at h
      obtain ⟨i, hi, rfl⟩ := h
      rw [Nat.div_eq_of_lt hi]
      refine ⟨rfl, by simp, ?_⟩
      simp only [List.length_cons]; omega
    · have := twrs_tag r (t + 1) y h
      simp only [List.length_cons]
      omega
theorem fnd_twrs_in : ∀ (H : List Int) (t b w : Int) (i : Nat), i < H.length → 0 ≤ w → w < 5 + H.getD i 0 → (∀ j, j < H.length → 1 ≤ H.getD j 0) → fnd (twrs t H) (9, t + (i : Int), w) b = some ((adr b H).getD i 0 + w)
  | [], t, b, w, i, hi, _, _, _ => by simp at hi
  | x :: r, t, b, w, 0, _, h0, h1, hb => by
    simp only [List.getD_cons_zero] at h1
    have hx := hb 0 (by simp)
    simp only [List.getD_cons_zero] at hx
    rw [twrs, fnd_append, fnd_grp_in (u := 0) (v := w.toNat) (by omega) (by simp) (by omega) (by omega) (by omega)]
    simp only [adr, Option.some_or, List.getD_cons_zero, Option.some.injEq]
    omega
  | x :: r, t, b, w, i + 1, hi, h0, h1, hb => by
    have hx := hb 0 (by simp)
    simp only [List.getD_cons_zero] at hx
    simp only [List.getD_cons_succ] at h1
    have hr := fnd_twrs_in r (t + 1) (b + (5 + x)) w i (by simpa using hi) h0 h1 (fun j hj => by have := hb (j + 1) (by simpa using hj); simpa using this)
    have e1 : t + ((i + 1 : Nat) : Int) = t + 1 + (i : Int) := by omega
    have e2 : fnd (grp 9 t (5 + x).toNat (5 + x).toNat) (9, t + 1 + (i : Int), w) b = none := by
      refine fnd_grp_out (fun u v hv hn => ?_) (by omega)
      rintro ⟨_, ha, _⟩
      have : u = i + 1 := by omega
      subst this
      have : (i + 1) * (5 + x).toNat ≥ (5 + x).toNat := Nat.le_mul_of_pos_left _ (by omega)
      omega
    rw [twrs, fnd_append, e1, e2, grp_length, Option.none_or, show b + (((5 + x).toNat : Nat) : Int) = b + (5 + x) by omega, hr]
    simp only [adr, List.getD_cons_succ]
theorem fnd_what9 {sl en bu lo V t w : Int} {H : List Int} (h1 : 0 ≤ sl) (h2 : 0 ≤ engW en sl bu) (h3 : 0 ≤ lo) (h4 : 0 ≤ V) : fnd (whatOf sl en bu lo V H) (9, t, w) 0 = fnd (twrs 1 H) (9, t, w) (p7Of sl en bu lo H + V * 7) := by
  unfold whatOf
  simp only [fnd_append, fnd_grp_kind (show (9 : Int) ≠ 1 by omega), fnd_grp_kind (show (9 : Int) ≠ 2 by omega), fnd_grp_kind (show (9 : Int) ≠ 3 by omega), fnd_grp_kind (show (9 : Int) ≠ 4 by omega), fnd_grp_kind (show (9 : Int) ≠ 5 by omega), fnd_grp_kind (show (9 : Int) ≠ 6 by omega), fnd_grp_kind (show (9 : Int) ≠ 7 by omega), fnd_grp_kind (show (9 : Int) ≠ 8 by omega), Option.none_or, List.length_append, grp_length]
  congr 1
  unfold p7Of
  omega
theorem fnd_what8 {sl en bu lo V v c : Int} {H : List Int} (h1 : 0 ≤ sl) (h2 : 0 ≤ engW en sl bu) (h3 : 0 ≤ lo) (h4 : 0 ≤ V) : fnd (whatOf sl en bu lo V H) (8, v, c) 0 = if (0 ≤ v ∧ v < V) ∧ 0 ≤ c ∧ c < 7 then some (p7Of sl en bu lo H + v * 7 + c) else none := by
  have ht : fnd (twrs 1 H) (8, v, c) = fun _ => none := by
    funext b
    exact fnd_none _ _ _ fun hm => absurd (twrs_tag H 1 _ hm).1 (by simp)
  have e : fnd (whatOf sl en bu lo V H) (8, v, c) 0 = fnd (grp 8 0 7 (V * 7).toNat) (8, v, c) (p7Of sl en bu lo H) := by
    unfold whatOf
    simp only [fnd_append, ht, fnd_grp_kind (show (8 : Int) ≠ 1 by omega), fnd_grp_kind (show (8 : Int) ≠ 2 by omega), fnd_grp_kind (show (8 : Int) ≠ 3 by omega), fnd_grp_kind (show (8 : Int) ≠ 4 by omega), fnd_grp_kind (show (8 : Int) ≠ 5 by omega), fnd_grp_kind (show (8 : Int) ≠ 6 by omega), fnd_grp_kind (show (8 : Int) ≠ 7 by omega), Option.none_or, Option.or_none, List.length_append, grp_length]
    congr 1
    unfold p7Of
    omega
  rw [e]
  split
  · rename_i hc
    rw [fnd_grp_in (u := v.toNat) (v := c.toNat) (by omega) (by omega) (by omega) (by omega) (by omega)]
    simp only [Option.some.injEq]
    omega
  · rename_i hc
    refine fnd_grp_out (fun u w hw hn => ?_) (by omega)
    rintro ⟨_, rfl, rfl⟩
    exact hc ⟨⟨by omega, by omega⟩, by omega, by omega⟩
end Go.Proofs.Ytakfjoelpploeaa

set_option linter.unusedVariables false
set_option linter.unusedSimpArgs false
namespace Go.Proofs.Ytakfjoelpploeaa
open Go.Am

theorem adr_le : ∀ (H : List Int) (a : Int) (i : Nat), i < H.length → (∀ j, j < H.length → 1 ≤ H.getD j 0 ∧ H.getD j 0 ≤ 6) → a ≤ (adr a H).getD i 0 ∧ (adr a H).getD i 0 ≤ a + 11 * (i : Int)
  | [], a, i, hi, _ => by simp at hi
  | x :: r, a, 0, _, _ => by simp [adr]
  | x :: r, a, i + 1, hi, hb => by
    have hx := hb 0 (by simp)
    simp only [List.getD_cons_zero] at hx
    have hr := adr_le r (a + (5 + x)) i (by simpa using hi) (fun j hj => by have := hb (j + 1) (by simpa using hj); simpa using this)
    simp only [adr, List.getD_cons_succ]
    omega

/-- Word: the same of both sides. -/
theorem word_same {l : LayV} {sl en bu lo V t w : Int} {H : List Int} (h1 : 0 ≤ sl) (h2 : 0 ≤ engW en sl bu) (h3 : 0 ≤ lo) (h4 : 0 ≤ V) (hH : l.H = H) (hT : l.T = adr (p7Of sl en bu lo H + V * 7) H) (hb : ∀ j, j < H.length → 1 ≤ H.getD j 0 ∧ H.getD j 0 ≤ 6)
    (hp : 0 ≤ p7Of sl en bu lo H + V * 7 ∧ p7Of sl en bu lo H + V * 7 ≤ 100000) (hn : H.length ≤ 100000) : wordV l t w = wrdR (whatOf sl en bu lo V H) t w := by
  unfold wordV wrdA wrdE wrdR
  rw [hH, hT]
  by_cases hw : w < 0 ∨ 4 < w
  · rw [if_pos hw, if_neg (by omega), if_neg (by omega)]
  · rw [if_neg hw]
    unfold findV
    rw [fnd_what9 h1 h2 h3 h4]
    by_cases ht : 1 ≤ t ∧ t ≤ H.length
    · have hi : (t - 1).toNat < H.length := by omega
      have e : t = 1 + (((t - 1).toNat : Nat) : Int) := by omega
      have hbi := hb _ hi
      have hf := fnd_twrs_in H 1 (p7Of sl en bu lo H + V * 7) w _ hi (by omega) (by omega) fun j hj => (hb j hj).1
      rw [← e] at hf
      have hal := adr_le H (p7Of sl en bu lo H + V * 7) _ hi hb
      rw [if_pos (by omega), if_pos (by omega), hf, wrap_i64 (by omega) (by omega)]
    · rw [if_neg (by omega), if_neg (by omega), fnd_none]
      intro hm
      have := twrs_tag H 1 _ hm
      simp only at this
      omega

/-- Latch: the same of both sides. -/
theorem latch_same {l : LayV} {sl en bu lo V r : Int} {H : List Int} (h1 : 0 ≤ sl) (h2 : 0 ≤ engW en sl bu) (h3 : 0 ≤ lo) (h4 : 0 ≤ V) (hH : l.H = H) (hT : l.T = adr (p7Of sl en bu lo H + V * 7) H) (hV : l.V = V) (hP : l.P.getD 7 0 = p7Of sl en bu lo H) (hb : ∀ j, j < H.length → 1 ≤ H.getD j 0 ∧ H.getD j 0 ≤ 6)
    (hp : 0 ≤ p7Of sl en bu lo H ∧ p7Of sl en bu lo H ≤ 90000) (hV2 : V ≤ 100) (hn : H.length ≤ 100000) (hr : -9223372036854775808 ≤ r ∧ r ≤ 9223372036854775807) : latchV l r = ltcR (whatOf sl en bu lo V H) r := by
  by_cases h0 : 0 < r
  · have hw := word_same (t := r) (w := 3) h1 h2 h3 h4 hH hT hb (by omega) hn
    unfold wrdR at hw
    rw [if_neg (by omega)] at hw
    unfold ltcR latchV ltcA ltcE
    have hnh : ¬ isHead l r := fun h => absurd h.1 (by omega)
    have h00' : ¬ r = 0 := by omega
    rw [if_neg hnh, if_neg hnh, if_neg h00', if_pos h0, ← hw]
    rfl
  · by_cases h00 : r = 0
    · subst h00
      have hnh : ¬ isHead l 0 := fun h => absurd h.1 (by omega)
      unfold ltcR latchV ltcA ltcE
      rw [if_pos rfl, if_neg hnh, if_neg hnh]
      unfold wrdA wrdE
      rw [if_neg (by omega), if_neg (by omega)]
    · have hwr : IntKind.i64.wrap (-1 - r) = -1 - r := wrap_i64 (by omega) (by omega)
      unfold ltcR latchV ltcA ltcE
      rw [if_neg h00, if_neg h0, hwr]
      unfold findV
      rw [fnd_what8 h1 h2 h3 h4]
      by_cases hin : -1 - r < V
      · have hih : isHead l r := ⟨by omega, by rw [hwr, hV]; exact hin⟩
        have hc : (0 ≤ -1 - r ∧ -1 - r < V) ∧ (0 : Int) ≤ 0 ∧ (0 : Int) < 7 := by omega
        rw [if_pos hih, if_pos hih, if_pos hc]
        unfold headA
        have hi : IntKind.i64.wrap ((-1 - r) * 7) = (-1 - r) * 7 := wrap_i64 (by omega) (by omega)
        rw [hwr, hP, hi, wrap_i64 (by omega) (by omega)]
        simp
      · have hih : ¬ isHead l r := fun h => hin (by have := h.2; rwa [hwr, hV] at this)
        have hc : ¬ ((0 ≤ -1 - r ∧ -1 - r < V) ∧ (0 : Int) ≤ 0 ∧ (0 : Int) < 7) := by omega
        have hd : ¬ ((1 ≤ r ∧ r ≤ l.H.length) ∧ (0 : Int) ≤ 3 ∧ (3 : Int) ≤ 4) := by omega
        rw [if_neg hih, if_neg hih, if_neg hc]
        unfold wrdA wrdE
        rw [if_neg hd, if_neg hd]
end Go.Proofs.Ytakfjoelpploeaa

set_option linter.unusedVariables false
set_option linter.unusedSimpArgs false
namespace Go.Proofs.Ytakfjoelpploeaa
open Go.Am

theorem twrs_word : ∀ (H : List Int) (t : Int) (y : Int × Int × Int), y ∈ twrs t H → (∀ j, j < H.length → 1 ≤ H.getD j 0) → y.2.2 < 5 + H.getD (y.2.1 - t).toNat 0
  | [], t, y, h, _ => by simp [twrs] at h
  | x :: r, t, y, h, hb => by
    have hx := hb 0 (by simp)
    simp only [List.getD_cons_zero] at hx
    rw [twrs, List.mem_append] at h
    rcases h with h | h
    · simp only [grp, List.mem_map, List.mem_range] at h
      obtain ⟨i, hi, rfl⟩ := h
      rw [Nat.div_eq_of_lt hi, Nat.mod_eq_of_lt hi]
      simp only [Int.natCast_zero, Int.add_zero, Int.sub_self, Int.toNat_zero, List.getD_cons_zero]
      omega
    · have h1 := twrs_tag r (t + 1) y h
      have h2 := twrs_word r (t + 1) y h fun j hj => by have := hb (j + 1) (by simpa using hj); simpa using this
      have e : (y.2.1 - t).toNat = (y.2.1 - (t + 1)).toNat + 1 := by omega
      rw [e, List.getD_cons_succ]
      exact h2
theorem fnd_twrs_out (H : List Int) (t b w : Int) (i : Nat) (hw : 5 + H.getD i 0 ≤ w) (hb : ∀ j, j < H.length → 1 ≤ H.getD j 0) : fnd (twrs t H) (9, t + (i : Int), w) b = none := by
  refine fnd_none _ _ _ fun hm => ?_
  have := twrs_word H t _ hm hb
  simp only [show t + (i : Int) - t = (i : Int) by omega, Int.toNat_natCast] at this
  omega

/-- Next: the same of both sides. -/
theorem next_same {l : LayV} {sl en bu lo V r lv : Int} {H : List Int} (h1 : 0 ≤ sl) (h2 : 0 ≤ engW en sl bu) (h3 : 0 ≤ lo) (h4 : 0 ≤ V) (hH : l.H = H) (hT : l.T = adr (p7Of sl en bu lo H + V * 7) H) (hV : l.V = V) (hP : l.P.getD 7 0 = p7Of sl en bu lo H) (hb : ∀ j, j < H.length → 1 ≤ H.getD j 0 ∧ H.getD j 0 ≤ 6)
    (hp : 0 ≤ p7Of sl en bu lo H ∧ p7Of sl en bu lo H ≤ 90000) (hV2 : V ≤ 100) (hn : H.length ≤ 100000) (hr : -9223372036854775808 ≤ r ∧ r ≤ 9223372036854775807) : nextV l r lv = nxtR (whatOf sl en bu lo V H) r lv := by
  have hd : ∀ i, i < H.length → ∀ q, q ∈ [H.getD i 0 - 1] → IntKind.i64.wrap q = q := fun i hi q hq => by
    have := hb i hi
    simp only [List.mem_singleton] at hq
    subst hq
    exact wrap_i64 (by omega) (by omega)
  by_cases hlv : lv < 0 ∨ 6 ≤ lv
  · have c1 : ¬ (isHead l r ∧ (0 ≤ lv ∧ lv ≤ 5)) := fun h => by have := h.2; omega
    have c2 : ¬ nxtH l r lv := by
      rintro ⟨g1, g2⟩
      rw [hH] at g1 g2
      have := hb (r - 1).toNat (by omega)
      rw [hd (r - 1).toNat (by omega) _ (by simp)] at g2
      omega
    unfold nextV nxtA nxtE nxtR
    rw [if_neg c1, if_neg c1, if_neg c2, if_neg c2, if_pos (.inl hlv)]
  · by_cases h0 : 0 < r
    · have c1 : ¬ (isHead l r ∧ (0 ≤ lv ∧ lv ≤ 5)) := fun h => by have := h.1.1; omega
      unfold nextV nxtA nxtE nxtR
      have c3 : ¬ ((lv < 0 ∨ 6 ≤ lv) ∨ r = 0) := by omega
      rw [if_neg c1, if_neg c1, if_neg c3, if_pos h0]
      unfold findV
      rw [fnd_what9 h1 h2 h3 h4]
      by_cases ht : 1 ≤ r ∧ r ≤ H.length
      · have hi : (r - 1).toNat < H.length := by omega
        have e : r = 1 + (((r - 1).toNat : Nat) : Int) := by omega
        have hbi := hb _ hi
        have hal := adr_le H (p7Of sl en bu lo H + V * 7) _ hi hb
        have hw := hd _ hi _ (List.mem_singleton_self _)
        by_cases hh : lv < H.getD (r - 1).toNat 0
        · have hf := fnd_twrs_in H 1 (p7Of sl en bu lo H + V * 7) (5 + lv) _ hi (by omega) (by omega) fun j hj => (hb j hj).1
          rw [← e] at hf
          have c2 : nxtH l r lv := by
            unfold nxtH
            rw [hH, hw]
            omega
          rw [if_pos c2, if_pos c2, hf, hT, wrap_i64 (x := _ + 5) (by omega) (by omega), wrap_i64 (by omega) (by omega), Int.add_assoc]
        · have c2 : ¬ nxtH l r lv := by
            unfold nxtH
            rw [hH, hw]
            omega
          have hf := fnd_twrs_out H 1 (p7Of sl en bu lo H + V * 7) (5 + lv) (r - 1).toNat (by omega) fun j hj => (hb j hj).1
          rw [← e] at hf
          rw [if_neg c2, if_neg c2, hf]
      · have c2 : ¬ nxtH l r lv := by
          unfold nxtH
          rw [hH]
          omega
        rw [if_neg c2, if_neg c2, fnd_none]
        intro hm
        have := twrs_tag H 1 _ hm
        simp only at this
        omega
    · have c2 : ¬ nxtH l r lv := by
        unfold nxtH
        omega
      unfold nextV nxtA nxtE nxtR
      rw [if_neg c2, if_neg c2]
      by_cases h00 : r = 0
      · have c1 : ¬ (isHead l r ∧ (0 ≤ lv ∧ lv ≤ 5)) := fun h => by have := h.1.1; omega
        rw [if_neg c1, if_neg c1, if_pos (.inr h00)]
      · have hwr : IntKind.i64.wrap (-1 - r) = -1 - r := wrap_i64 (by omega) (by omega)
        rw [if_neg (by omega : ¬ ((lv < 0 ∨ 6 ≤ lv) ∨ r = 0)), if_neg h0, hwr]
        unfold findV
        rw [fnd_what8 h1 h2 h3 h4]
        by_cases hin : -1 - r < V
        · have hih : isHead l r := ⟨by omega, by rw [hwr, hV]; exact hin⟩
          have c1 : isHead l r ∧ (0 ≤ lv ∧ lv ≤ 5) := ⟨hih, by omega⟩
          have hc : (0 ≤ -1 - r ∧ -1 - r < V) ∧ (0 : Int) ≤ 1 + lv ∧ 1 + lv < 7 := by omega
          rw [if_pos c1, if_pos c1, if_pos hc]
          unfold headA
          have hi : IntKind.i64.wrap ((-1 - r) * 7) = (-1 - r) * 7 := wrap_i64 (by omega) (by omega)
          rw [hwr, hP, hi, wrap_i64 (x := p7Of sl en bu lo H + (-1 - r) * 7) (by omega) (by omega), wrap_i64 (x := _ + 1) (by omega) (by omega), wrap_i64 (by omega) (by omega), Int.add_assoc (_ + _) 1 lv]
        · have c1 : ¬ (isHead l r ∧ (0 ≤ lv ∧ lv ≤ 5)) := fun h => hin (by have := h.1.2; rwa [hwr, hV] at this)
          have hc : ¬ ((0 ≤ -1 - r ∧ -1 - r < V) ∧ (0 : Int) ≤ 1 + lv ∧ 1 + lv < 7) := by omega
          rw [if_neg c1, if_neg c1, if_neg hc]
end Go.Proofs.Ytakfjoelpploeaa

set_option linter.unusedVariables false
set_option linter.unusedSimpArgs false
namespace Go.Proofs.Ytakfjoelpploeaa
open Go.Am

/-- How many numbers at the beginning are at most a. -/
def cntL : List Int → Int → Nat
  | [], _ => 0
  | x :: r, a => if x ≤ a then cntL r a + 1 else 0
theorem cntL_eq : ∀ (T : List Int) (a : Int) (t : Nat), t ≤ T.length → (∀ j, j < t → T.getD j 0 ≤ a) → (t = T.length ∨ a < T.getD t 0) → cntL T a = t
  | [], a, t, h, _, _ => by simp at h; subst h; rfl
  | x :: r, a, 0, _, _, h => by
    rcases h with h | h
    · simp at h
    · simp only [List.getD_cons_zero] at h
      rw [cntL, if_neg (by omega)]
  | x :: r, a, t + 1, h1, h2, h3 => by
    have h0 := h2 0 (by omega)
    simp only [List.getD_cons_zero] at h0
    rw [cntL, if_pos h0, cntL_eq r a t (by simpa using h1) (fun j hj => by have := h2 (j + 1) (by omega); simpa using this) (by simpa using h3)]
/-- What an address belongs to, by the groups. -/
def gOf : List (Int × Int × Int × Int) → Int → Int × Int × Int
  | [], _ => (0, 0, 0)
  | (k, f, m, w) :: r, a => if 0 < w ∧ a - f < m * w then (k, if k = 7 then (a - f).tdiv w + 1 else (a - f).tdiv w, (a - f).tmod w) else gOf r a
/-- What an address belongs to: the first word of the towers, the end, the groups, the towers. -/
def ofL (p8 p9 : Int) (G : List (Int × Int × Int × Int)) (T : List Int) (a : Int) : Int × Int × Int :=
  if a < 0 ∨ p9 ≤ a then (0, 0, 0) else if p8 ≤ a then (9, (cntL T a : Int), a - T.getD (cntL T a - 1) 0) else gOf G a
def ofR (W : List (Int × Int × Int)) (a : Int) : Int × Int × Int := if a < 0 ∨ (W.length : Int) ≤ a then (0, 0, 0) else W.getD a.toNat (0, 0, 0)

theorem cntL_adr0 : ∀ (H : List Int) (b a : Int), a < b → cntL (adr b H) a = 0
  | [], b, a, _ => rfl
  | x :: r, b, a, h => by rw [adr, cntL, if_neg (by omega)]
theorem adrEnd_ge : ∀ (H : List Int) (b : Int), (∀ j, j < H.length → 1 ≤ H.getD j 0) → b ≤ adrEnd b H
  | [], b, _ => by simp [adrEnd]
  | x :: r, b, h => by
    have hx := h 0 (by simp)
    simp only [List.getD_cons_zero] at hx
    have := adrEnd_ge r (b + (5 + x)) fun j hj => by have := h (j + 1) (by simpa using hj); simpa using this
    simp only [adrEnd]; omega
theorem twrs_length : ∀ (H : List Int) (t b : Int), (∀ j, j < H.length → 1 ≤ H.getD j 0) → b + ((twrs t H).length : Int) = adrEnd b H
  | [], t, b, _ => by simp [twrs, adrEnd]
  | x :: r, t, b, h => by
    have hx := h 0 (by simp)
    simp only [List.getD_cons_zero] at hx
    have := twrs_length r (t + 1) (b + (5 + x)) fun j hj => by have := h (j + 1) (by simpa using hj); simpa using this
    rw [twrs, List.length_append, grp_length, adrEnd, ← this]
    omega
theorem twrs_at : ∀ (H : List Int) (t b a : Int), (∀ j, j < H.length → 1 ≤ H.getD j 0) → b ≤ a → a < adrEnd b H → (twrs t H)[(a - b).toNat]? = some (9, t - 1 + (cntL (adr b H) a : Int), a - (adr b H).getD (cntL (adr b H) a - 1) 0) ∧ 1 ≤ cntL (adr b H) a
  | [], t, b, a, _, h1, h2 => by simp [adrEnd] at h2; omega
  | x :: r, t, b, a, h, h1, h2 => by
    have hx := h 0 (by simp)
    simp only [List.getD_cons_zero] at hx
    have hr : ∀ j, j < r.length → 1 ≤ r.getD j 0 := fun j hj => by have := h (j + 1) (by simpa using hj); simpa using this
    rw [twrs, adr, cntL, if_pos h1]
    refine ⟨?_, by omega⟩
    by_cases hin : a < b + (5 + x)
    · rw [cntL_adr0 _ _ _ hin, List.getElem?_append_left (by rw [grp_length]; omega), grp_get (by omega), Nat.div_eq_of_lt (by omega), Nat.mod_eq_of_lt (by omega)]
      simp only [Option.some.injEq, Prod.mk.injEq, true_and, Nat.zero_add, Nat.sub_self, List.getD_cons_zero]
      omega
    · rw [List.getElem?_append_right (by rw [grp_length]; omega), grp_length]
      simp only [adrEnd] at h2
      obtain ⟨e, e1⟩ := twrs_at r (t + 1) (b + (5 + x)) a hr (by omega) h2
      rw [show (a - b).toNat - (5 + x).toNat = (a - (b + (5 + x))).toNat by omega, e]
      obtain ⟨c, hc⟩ : ∃ c, cntL (adr (b + (5 + x)) r) a = c + 1 := ⟨cntL (adr (b + (5 + x)) r) a - 1, by omega⟩
      rw [hc]
      simp only [Option.some.injEq, Prod.mk.injEq, true_and, Nat.add_sub_cancel, List.getD_cons_succ, and_true]
      omega

/-- The groups one behind the other: their entries in the program, and the words. -/
def gTab : Int → List (Int × Int × Int) → List (Int × Int × Int × Int)
  | _, [] => []
  | f, (k, m, w) :: r => (k, f, m, w) :: gTab (f + m * w) r
def gWds : List (Int × Int × Int) → List (Int × Int × Int)
  | [] => []
  | (k, m, w) :: r => grp k (if k = 7 then 1 else 0) w.toNat (m * w).toNat ++ gWds r
theorem gOf_at : ∀ (L : List (Int × Int × Int)) (f a : Int), (∀ x ∈ L, 0 ≤ x.2.1 ∧ 0 ≤ x.2.2) → f ≤ a → a - f < (gWds L).length → (gWds L)[(a - f).toNat]? = some (gOf (gTab f L) a)
  | [], f, a, _, h1, h2 => by simp [gWds] at h2; omega
  | (k, m, w) :: r, f, a, h, h1, h2 => by
    obtain ⟨hm, hw⟩ := h (k, m, w) (by simp)
    simp only at hm hw
    have hmw : 0 ≤ m * w := Int.mul_nonneg hm hw
    rw [gWds, gTab, gOf]
    by_cases hin : a - f < m * w
    · have hw0 : 0 < w := by
        rcases Int.lt_or_eq_of_le hw with q | q
        · exact q
        · rw [← q, Int.mul_zero] at hin; omega
      have hc : 0 < w ∧ a - f < m * w := ⟨hw0, hin⟩
      rw [if_pos hc, List.getElem?_append_left (by rw [grp_length]; omega), grp_get (by omega)]
      have e1 : (((a - f).toNat / w.toNat : Nat) : Int) = (a - f).tdiv w := by
        rw [Int.natCast_ediv, Int.toNat_of_nonneg (by omega), Int.toNat_of_nonneg (by omega), Int.tdiv_eq_ediv_of_nonneg (by omega)]
      have e2 : (((a - f).toNat % w.toNat : Nat) : Int) = (a - f).tmod w := by
        rw [Int.natCast_emod, Int.toNat_of_nonneg (by omega), Int.toNat_of_nonneg (by omega), Int.tmod_eq_emod_of_nonneg (by omega)]
      rw [e1, e2]
      by_cases hk : k = 7
      · rw [if_pos hk, if_pos hk, Int.add_comm]
      · rw [if_neg hk, if_neg hk, Int.zero_add]
    · have hc : ¬ (0 < w ∧ a - f < m * w) := fun q => hin q.2
      rw [if_neg hc, List.getElem?_append_right (by rw [grp_length]; omega), grp_length]
      rw [gWds, List.length_append, grp_length] at h2
      have := gOf_at r (f + m * w) a (fun x hx => h x (List.mem_cons_of_mem _ hx)) (by omega) (by omega)
      rw [← this]
      congr 1
      omega
theorem gWds_length : ∀ (L : List (Int × Int × Int)) (f : Int), (∀ x ∈ L, 0 ≤ x.2.1 ∧ 0 ≤ x.2.2) → f + ((gWds L).length : Int) = L.foldl (fun f x => f + x.2.1 * x.2.2) f
  | [], f, _ => by simp [gWds]
  | (k, m, w) :: r, f, h => by
    obtain ⟨hm, hw⟩ := h (k, m, w) (by simp)
    simp only at hm hw
    have hmw : 0 ≤ m * w := Int.mul_nonneg hm hw
    rw [gWds, List.length_append, grp_length, List.foldl_cons, ← gWds_length r _ fun x hx => h x (List.mem_cons_of_mem _ hx)]
    simp only
    omega

def gList (sl en bu lo V : Int) (H : List Int) : List (Int × Int × Int) := [(1, sl, 1), (2, 1, engW en sl bu), (3, 1, 1), (4, lo, 3), (5, lo, 1), (6, 6, 1), (7, (H.length : Int), 1), (8, V, 7)]
theorem whatOf_eq {sl en bu lo V : Int} {H : List Int} : whatOf sl en bu lo V H = gWds (gList sl en bu lo V H) ++ twrs 1 H := by
  unfold whatOf gList
  simp only [gWds, List.append_nil, List.append_assoc, Int.mul_one, Int.one_mul, Int.mul_comm lo 3]
  simp [show ¬ ((1 : Int) = 7) by omega]
theorem gTab_eq {sl en bu lo V : Int} {H : List Int} : gTab 0 (gList sl en bu lo V H) = [(1, 0, sl, 1), (2, 0 + sl * 1, 1, engW en sl bu), (3, 0 + sl * 1 + 1 * engW en sl bu, 1, 1), (4, 0 + sl * 1 + 1 * engW en sl bu + 1, lo, 3), (5, 0 + sl * 1 + 1 * engW en sl bu + 1 + lo * 3, lo, 1), (6, 0 + sl * 1 + 1 * engW en sl bu + 1 + lo * 3 + lo * 1, 6, 1), (7, 0 + sl * 1 + 1 * engW en sl bu + 1 + lo * 3 + lo * 1 + 6, (H.length : Int), 1), (8, p7Of sl en bu lo H, V, 7)] := rfl
/-- Of: the same of both sides. -/
theorem of_same {sl en bu lo V a : Int} {H : List Int} (h1 : 0 ≤ sl) (h2 : 0 ≤ engW en sl bu) (h3 : 0 ≤ lo) (h4 : 0 ≤ V) (hb : ∀ j, j < H.length → 1 ≤ H.getD j 0 ∧ H.getD j 0 ≤ 6) :
    ofL (p7Of sl en bu lo H + V * 7) (adrEnd (p7Of sl en bu lo H + V * 7) H) (gTab 0 (gList sl en bu lo V H)) (adr (p7Of sl en bu lo H + V * 7) H) a = ofR (whatOf sl en bu lo V H) a := by
  have hall : ∀ x ∈ gList sl en bu lo V H, 0 ≤ x.2.1 ∧ 0 ≤ x.2.2 := by
    intro x hx
    simp only [gList, List.mem_cons, List.not_mem_nil, or_false] at hx
    rcases hx with rfl | rfl | rfl | rfl | rfl | rfl | rfl | rfl <;> simp only <;> omega
  have hg : ((gWds (gList sl en bu lo V H)).length : Int) = p7Of sl en bu lo H + V * 7 := by
    have := gWds_length (gList sl en bu lo V H) 0 hall
    rw [Int.zero_add] at this
    rw [this]
    rfl
  have hb1 : ∀ j, j < H.length → 1 ≤ H.getD j 0 := fun j hj => (hb j hj).1
  have hl : ((whatOf sl en bu lo V H).length : Int) = adrEnd (p7Of sl en bu lo H + V * 7) H := by
    rw [whatOf_eq, List.length_append, Int.natCast_add, hg]
    exact twrs_length H 1 _ hb1
  unfold ofL ofR
  rw [hl]
  by_cases c : a < 0 ∨ adrEnd (p7Of sl en bu lo H + V * 7) H ≤ a
  · rw [if_pos c, if_pos c]
  · rw [if_neg c, if_neg c, whatOf_eq, show (gWds (gList sl en bu lo V H) ++ twrs 1 H).getD a.toNat (0, 0, 0) = ((gWds (gList sl en bu lo V H) ++ twrs 1 H)[a.toNat]?).getD (0, 0, 0) from List.getD_eq_getElem?_getD ..]
    by_cases c2 : p7Of sl en bu lo H + V * 7 ≤ a
    · obtain ⟨e, -⟩ := twrs_at H 1 (p7Of sl en bu lo H + V * 7) a hb1 c2 (by omega)
      rw [if_pos c2, List.getElem?_append_right (by omega), show a.toNat - (gWds (gList sl en bu lo V H)).length = (a - (p7Of sl en bu lo H + V * 7)).toNat by omega, e]
      simp
    · have e := gOf_at (gList sl en bu lo V H) 0 a hall (by omega) (by omega)
      rw [Int.sub_zero] at e
      rw [if_neg c2, List.getElem?_append_left (by omega), e]
      rfl
end Go.Proofs.Ytakfjoelpploeaa

set_option linter.unusedVariables false
set_option linter.unusedSimpArgs false
namespace Go.Proofs.Ytakfjoelpploeaa
open Go.Am

@[go_sem] theorem guardQ_undef {b : Bool} : guardQ (some undefV) b = false := rfl
theorem fdiv_half (a : Nat) : Int.fdiv (a : Int) 2 = ((a / 2 : Nat) : Int) := by
  rw [Int.fdiv_eq_ediv_of_nonneg _ (by omega)]; rfl
theorem isNan61 {O : Over} (a : Int) (h : PT ABlk) (n : Nat) : EvB Try.prog O 61 [.int .i64 a] h n fun v h' n' => v = .bool false ∧ h' = h ∧ n' = n := by
  refine EvB_run (N := 6) Try.func61 rfl rfl ?_
  intro z hP hO hro hN hQ
  repeat' first | simp (config := { maxSteps := 2000000 }) (disch := first | omega | (repeat first | assumption | exact Kept.refl _ | refine Kept.set' (by assumption) ?_ ?_ | refine Kept.set (by assumption) ?_ ?_ | omega)) only [go_sem, *, Try.results61, Nat.reduceLT, Nat.reduceAdd, Nat.reduceMul, Nat.reduceSub, Nat.reduceEqDiff, Nat.reduceLeDiff, Int.reduceToNat, Int.reduceLT, Int.reduceLE, Int.reduceEq, Int.reduceNe, Int.reduceAdd, Int.reduceSub, Int.reduceMul, Int.reduceNeg, ↓reduceIte, reduceCtorEq] | (apply EvG_ndec <;> intro _) | (apply EvC_ndec <;> intro _) | (apply EvG_dec <;> intro _) | (apply EvC_dec <;> intro _) | refine EvK_draw (by cbv) (by first | rfl | cbv) ?_ | (apply EvH_ndec <;> intro _) | (apply EvH_dec <;> intro _) | (apply EvC_nbool <;> intro _) | (apply EvC_bool <;> intro _) | (apply EvG_nbool <;> intro _) | (apply EvG_bool <;> intro _) | (apply EvH_nbool <;> intro _) | (apply EvH_bool <;> intro _)
theorem isNan60 {O : Over} (a : Int) (h : PT ABlk) (n : Nat) : EvB Try.prog O 60 [.int .i64 a] h n fun v h' n' => v = .bool false ∧ h' = h ∧ n' = n := by
  refine EvB_run (N := 6) Try.func60 rfl rfl ?_
  intro z hP hO hro hN hQ
  repeat' first | simp (config := { maxSteps := 2000000 }) (disch := first | omega | (repeat first | assumption | exact Kept.refl _ | refine Kept.set' (by assumption) ?_ ?_ | refine Kept.set (by assumption) ?_ ?_ | omega)) only [go_sem, *, Try.results60, Nat.reduceLT, Nat.reduceAdd, Nat.reduceMul, Nat.reduceSub, Nat.reduceEqDiff, Nat.reduceLeDiff, Int.reduceToNat, Int.reduceLT, Int.reduceLE, Int.reduceEq, Int.reduceNe, Int.reduceAdd, Int.reduceSub, Int.reduceMul, Int.reduceNeg, ↓reduceIte, reduceCtorEq] | (apply EvG_ndec <;> intro _) | (apply EvC_ndec <;> intro _) | (apply EvG_dec <;> intro _) | (apply EvC_dec <;> intro _) | refine EvK_draw (by cbv) (by first | rfl | cbv) ?_ | (apply EvH_ndec <;> intro _) | (apply EvH_dec <;> intro _) | (apply EvC_nbool <;> intro _) | (apply EvC_bool <;> intro _) | (apply EvG_nbool <;> intro _) | (apply EvG_bool <;> intro _) | (apply EvH_nbool <;> intro _) | (apply EvH_bool <;> intro _)
theorem less59 {O : Over} (o61 : O 61 = fun _ => none) (a b : Int) (h : PT ABlk) (n : Nat) : EvB Try.prog O 59 [.int .i64 a, .int .i64 b] h n fun v h' n' => v = .bool (decide (a < b)) ∧ h' = h ∧ n' = n := by
  refine EvB_run (N := 17) Try.func59 rfl rfl ?_
  intro z hP hO hro hN hQ
  repeat' first | simp (config := { maxSteps := 2000000 }) (disch := first | omega | (repeat first | assumption | exact Kept.refl _ | refine Kept.set' (by assumption) ?_ ?_ | refine Kept.set (by assumption) ?_ ?_ | omega)) only [go_sem, *, Try.results59, Nat.reduceLT, Nat.reduceAdd, Nat.reduceMul, Nat.reduceSub, Nat.reduceEqDiff, Nat.reduceLeDiff, Int.reduceToNat, Int.reduceLT, Int.reduceLE, Int.reduceEq, Int.reduceNe, Int.reduceAdd, Int.reduceSub, Int.reduceMul, Int.reduceNeg, ↓reduceIte, reduceCtorEq] | (apply EvG_ndec <;> intro _) | (apply EvC_ndec <;> intro _) | (apply EvG_dec <;> intro _) | (apply EvC_dec <;> intro _) | refine EvK_draw (by cbv) (by first | rfl | cbv) ?_ | (apply EvH_ndec <;> intro _) | (apply EvH_dec <;> intro _) | (apply EvC_nbool <;> intro _) | (apply EvC_bool <;> intro _) | (apply EvG_nbool <;> intro _) | (apply EvG_bool <;> intro _) | (apply EvH_nbool <;> intro _) | (apply EvH_bool <;> intro _)
  refine EvQ_call ?_ ?_ (by rw [hP, hO]; exact isNan61 a _ _) ?_
  · simp (config := { maxSteps := 2000000 }) (disch := first | omega | (repeat first | assumption | exact Kept.refl _ | refine Kept.set' (by assumption) ?_ ?_ | refine Kept.set (by assumption) ?_ ?_ | omega)) only [go_sem, *, Nat.reduceLT, Nat.reduceAdd, Nat.reduceMul, Nat.reduceSub, Nat.reduceEqDiff, Nat.reduceLeDiff, Int.reduceToNat, Int.reduceLT, Int.reduceLE, Int.reduceEq, Int.reduceNe, Int.reduceAdd, Int.reduceSub, Int.reduceMul, Int.reduceNeg, ↓reduceIte, reduceCtorEq]
  · simp (config := { maxSteps := 2000000 }) (disch := first | omega | (repeat first | assumption | exact Kept.refl _ | refine Kept.set' (by assumption) ?_ ?_ | refine Kept.set (by assumption) ?_ ?_ | omega)) only [go_sem, *, Nat.reduceLT, Nat.reduceAdd, Nat.reduceMul, Nat.reduceSub, Nat.reduceEqDiff, Nat.reduceLeDiff, Int.reduceToNat, Int.reduceLT, Int.reduceLE, Int.reduceEq, Int.reduceNe, Int.reduceAdd, Int.reduceSub, Int.reduceMul, Int.reduceNeg, ↓reduceIte, reduceCtorEq]
  rintro v h2 n2 ⟨rfl, rfl, rfl⟩
  repeat' first | simp (config := { maxSteps := 2000000 }) (disch := first | omega | (repeat first | assumption | exact Kept.refl _ | refine Kept.set' (by assumption) ?_ ?_ | refine Kept.set (by assumption) ?_ ?_ | omega)) only [go_sem, *, Try.results59, Nat.reduceLT, Nat.reduceAdd, Nat.reduceMul, Nat.reduceSub, Nat.reduceEqDiff, Nat.reduceLeDiff, Int.reduceToNat, Int.reduceLT, Int.reduceLE, Int.reduceEq, Int.reduceNe, Int.reduceAdd, Int.reduceSub, Int.reduceMul, Int.reduceNeg, ↓reduceIte, reduceCtorEq] | (apply EvG_ndec <;> intro _) | (apply EvC_ndec <;> intro _) | (apply EvG_dec <;> intro _) | (apply EvC_dec <;> intro _) | refine EvK_draw (by cbv) (by first | rfl | cbv) ?_ | (apply EvH_ndec <;> intro _) | (apply EvH_dec <;> intro _) | (apply EvC_nbool <;> intro _) | (apply EvC_bool <;> intro _) | (apply EvG_nbool <;> intro _) | (apply EvG_bool <;> intro _) | (apply EvH_nbool <;> intro _) | (apply EvH_bool <;> intro _)

set_option maxRecDepth 100000 in
set_option maxHeartbeats 4000000 in
theorem bsearch {O : Over} (o59 : O 59 = fun _ => none) (o60 : O 60 = fun _ => none) (o61 : O 61 = fun _ => none) (s : Value) (T : List Int) (a : Int) (h : PT ABlk) (N : Nat) (hs : IsInts .i64 h s T) (hsort : ∀ i j, i ≤ j → j < T.length → T.getD i 0 ≤ T.getD j 0) (hn : T.length ≤ 100000) :
    EvB Try.prog O 56 [s, .int .i64 a] h N fun v h' n' => (∃ i : Nat, i ≤ T.length ∧ (∀ j, j < i → T.getD j 0 < a) ∧ (∀ j, i ≤ j → j < T.length → a ≤ T.getD j 0) ∧ v = .tuple ⟨[.int .i64 i, .bool (decide (i < T.length ∧ T.getD i 0 = a))]⟩) ∧ h' = h ∧ n' = N := by
  obtain ⟨ad, cap, rfl, hA⟩ := hs.len
  refine EvB_run (N := 54) Try.func56 rfl rfl fun z hP hO hro hN hQ => ?_
  repeat' first | simp (config := { maxSteps := 2000000 }) (disch := first | omega | (repeat first | assumption | exact Kept.refl _ | refine Kept.set' (by assumption) ?_ ?_ | refine Kept.set (by assumption) ?_ ?_ | omega)) only [go_sem, *, Try.results56, Nat.reduceLT, Nat.reduceAdd, Nat.reduceMul, Nat.reduceSub, Nat.reduceEqDiff, Nat.reduceLeDiff, Int.reduceToNat, Int.reduceLT, Int.reduceLE, Int.reduceEq, Int.reduceNe, Int.reduceAdd, Int.reduceSub, Int.reduceMul, Int.reduceNeg, ↓reduceIte, reduceCtorEq] | (apply EvG_ndec <;> intro _) | (apply EvC_ndec <;> intro _) | (apply EvG_dec <;> intro _) | (apply EvC_dec <;> intro _) | fail | (apply EvH_ndec <;> intro _) | (apply EvH_dec <;> intro _) | (apply EvC_nbool <;> intro _) | (apply EvC_bool <;> intro _) | (apply EvG_nbool <;> intro _) | (apply EvG_bool <;> intro _) | (apply EvH_nbool <;> intro _) | (apply EvH_bool <;> intro _)
  refine ind_loop (fun t m h' n' => ∃ lo hi : Nat, lo ≤ hi ∧ hi ≤ T.length ∧ t = hi - lo ∧ m.n = 54 ∧ m.dfs = [] ∧ m.get 0 = .slice ad T.length cap ∧ m.get 1 = .int .i64 a ∧ m.get 4 = .int .i64 0 ∧ m.get 5 = .bool false ∧ m.get 6 = .int .i64 T.length ∧ m.get 7 = .int .i64 lo ∧ m.get 8 = .int .i64 hi ∧ h' = h ∧ n' = N ∧ (∀ j, j < lo → T.getD j 0 < a) ∧ ∀ j, hi ≤ j → j < T.length → a ≤ T.getD j 0) T.length ?_ ?_
  · refine ⟨0, T.length, by omega, by omega, by omega, ?_⟩
    simp (config := { maxSteps := 2000000 }) (disch := first | omega | (repeat first | assumption | exact Kept.refl _ | refine Kept.set' (by assumption) ?_ ?_ | refine Kept.set (by assumption) ?_ ?_ | omega)) only [go_sem, *, Nat.reduceLT, Nat.reduceAdd, Nat.reduceMul, Nat.reduceSub, Nat.reduceEqDiff, Nat.reduceLeDiff, Int.reduceToNat, Int.reduceLT, Int.reduceLE, Int.reduceEq, Int.reduceNe, Int.reduceAdd, Int.reduceSub, Int.reduceMul, Int.reduceNeg, ↓reduceIte, reduceCtorEq]
    exact ⟨fun j hj => by omega, fun j h1 h2 => by omega⟩
  · rintro t m h' n' ih ⟨lo, hi, hlh, hhi, rfl, m1, m2, m3, m4, m5, m6, m7, m8, m9, rfl, rfl, q1, q2⟩
    by_cases hlt : lo < hi
    · have e7 : (lo : Int) < hi := by omega
      have hmid : lo ≤ (lo + hi) / 2 ∧ (lo + hi) / 2 < hi := by omega
      generalize hmm : (lo + hi) / 2 = mid at hmid
      obtain ⟨bk, off, sp, L, ro, rfl, hbk, hL⟩ := hA mid (by omega)
      have hw : IntKind.u64.wrap ((lo : Int) + hi) = ((lo + hi : Nat) : Int) := by
        have := wrap_u64 (x := (lo : Int) + hi) (by omega) (by omega)
        omega
      have hfd : ((lo + hi : Nat) : Int).fdiv (2 ^ min 1 64) = ((mid : Nat) : Int) := by
        rw [← hmm]; exact fdiv_half (lo + hi)
      have hmT : mid < T.length := by omega
      clear hA
      by_cases hc : T.getD mid 0 < a
      · repeat' first | simp (config := { maxSteps := 2000000 }) (disch := first | omega | (repeat first | assumption | exact Kept.refl _ | refine Kept.set' (by assumption) ?_ ?_ | refine Kept.set (by assumption) ?_ ?_ | omega)) only [go_sem, *, Try.results56, Nat.reduceLT, Nat.reduceAdd, Nat.reduceMul, Nat.reduceSub, Nat.reduceEqDiff, Nat.reduceLeDiff, Int.reduceToNat, Int.reduceLT, Int.reduceLE, Int.reduceEq, Int.reduceNe, Int.reduceAdd, Int.reduceSub, Int.reduceMul, Int.reduceNeg, ↓reduceIte, reduceCtorEq] | (apply EvG_ndec <;> intro _) | (apply EvC_ndec <;> intro _) | (apply EvG_dec <;> intro _) | (apply EvC_dec <;> intro _) | fail | (apply EvH_ndec <;> intro _) | (apply EvH_dec <;> intro _) | (apply EvC_nbool <;> intro _) | (apply EvC_bool <;> intro _) | (apply EvG_nbool <;> intro _) | (apply EvG_bool <;> intro _) | (apply EvH_nbool <;> intro _) | (apply EvH_bool <;> intro _)
        refine EvQ_call ?_ ?_ (by rw [hP, hO]; exact less59 o61 _ a _ _) ?_
        · simp (config := { maxSteps := 2000000 }) (disch := first | omega | (repeat first | assumption | exact Kept.refl _ | refine Kept.set' (by assumption) ?_ ?_ | refine Kept.set (by assumption) ?_ ?_ | omega)) only [go_sem, *, Nat.reduceLT, Nat.reduceAdd, Nat.reduceMul, Nat.reduceSub, Nat.reduceEqDiff, Nat.reduceLeDiff, Int.reduceToNat, Int.reduceLT, Int.reduceLE, Int.reduceEq, Int.reduceNe, Int.reduceAdd, Int.reduceSub, Int.reduceMul, Int.reduceNeg, ↓reduceIte, reduceCtorEq]
        · simp (config := { maxSteps := 2000000 }) (disch := first | omega | (repeat first | assumption | exact Kept.refl _ | refine Kept.set' (by assumption) ?_ ?_ | refine Kept.set (by assumption) ?_ ?_ | omega)) only [go_sem, *, Nat.reduceLT, Nat.reduceAdd, Nat.reduceMul, Nat.reduceSub, Nat.reduceEqDiff, Nat.reduceLeDiff, Int.reduceToNat, Int.reduceLT, Int.reduceLE, Int.reduceEq, Int.reduceNe, Int.reduceAdd, Int.reduceSub, Int.reduceMul, Int.reduceNeg, ↓reduceIte, reduceCtorEq]
        rintro v h2 n2 ⟨rfl, rfl, rfl⟩
        repeat' first | simp (config := { maxSteps := 2000000 }) (disch := first | omega | (repeat first | assumption | exact Kept.refl _ | refine Kept.set' (by assumption) ?_ ?_ | refine Kept.set (by assumption) ?_ ?_ | omega)) only [go_sem, *, Try.results56, Nat.reduceLT, Nat.reduceAdd, Nat.reduceMul, Nat.reduceSub, Nat.reduceEqDiff, Nat.reduceLeDiff, Int.reduceToNat, Int.reduceLT, Int.reduceLE, Int.reduceEq, Int.reduceNe, Int.reduceAdd, Int.reduceSub, Int.reduceMul, Int.reduceNeg, ↓reduceIte, reduceCtorEq] | (apply EvG_ndec <;> intro _) | (apply EvC_ndec <;> intro _) | (apply EvG_dec <;> intro _) | (apply EvC_dec <;> intro _) | fail | (apply EvH_ndec <;> intro _) | (apply EvH_dec <;> intro _) | (apply EvC_nbool <;> intro _) | (apply EvC_bool <;> intro _) | (apply EvG_nbool <;> intro _) | (apply EvG_bool <;> intro _) | (apply EvH_nbool <;> intro _) | (apply EvH_bool <;> intro _)
        refine ih (hi - (mid + 1)) _ _ _ (by omega) ⟨mid + 1, hi, by omega, hhi, rfl, ?_⟩
        have hci : ((mid + 1 : Nat) : Int) = (mid : Int) + 1 := by omega
        rw [hci]
        simp (config := { maxSteps := 2000000 }) (disch := first | omega | (repeat first | assumption | exact Kept.refl _ | refine Kept.set' (by assumption) ?_ ?_ | refine Kept.set (by assumption) ?_ ?_ | omega)) only [go_sem, *, Nat.reduceLT, Nat.reduceAdd, Nat.reduceMul, Nat.reduceSub, Nat.reduceEqDiff, Nat.reduceLeDiff, Int.reduceToNat, Int.reduceLT, Int.reduceLE, Int.reduceEq, Int.reduceNe, Int.reduceAdd, Int.reduceSub, Int.reduceMul, Int.reduceNeg, ↓reduceIte, reduceCtorEq]
        exact ⟨fun j hj => Int.lt_of_le_of_lt (hsort j mid (by omega) hmT) hc, q2⟩
      · repeat' first | simp (config := { maxSteps := 2000000 }) (disch := first | omega | (repeat first | assumption | exact Kept.refl _ | refine Kept.set' (by assumption) ?_ ?_ | refine Kept.set (by assumption) ?_ ?_ | omega)) only [go_sem, *, Try.results56, Nat.reduceLT, Nat.reduceAdd, Nat.reduceMul, Nat.reduceSub, Nat.reduceEqDiff, Nat.reduceLeDiff, Int.reduceToNat, Int.reduceLT, Int.reduceLE, Int.reduceEq, Int.reduceNe, Int.reduceAdd, Int.reduceSub, Int.reduceMul, Int.reduceNeg, ↓reduceIte, reduceCtorEq] | (apply EvG_ndec <;> intro _) | (apply EvC_ndec <;> intro _) | (apply EvG_dec <;> intro _) | (apply EvC_dec <;> intro _) | fail | (apply EvH_ndec <;> intro _) | (apply EvH_dec <;> intro _) | (apply EvC_nbool <;> intro _) | (apply EvC_bool <;> intro _) | (apply EvG_nbool <;> intro _) | (apply EvG_bool <;> intro _) | (apply EvH_nbool <;> intro _) | (apply EvH_bool <;> intro _)
        refine EvQ_call ?_ ?_ (by rw [hP, hO]; exact less59 o61 _ a _ _) ?_
        · simp (config := { maxSteps := 2000000 }) (disch := first | omega | (repeat first | assumption | exact Kept.refl _ | refine Kept.set' (by assumption) ?_ ?_ | refine Kept.set (by assumption) ?_ ?_ | omega)) only [go_sem, *, Nat.reduceLT, Nat.reduceAdd, Nat.reduceMul, Nat.reduceSub, Nat.reduceEqDiff, Nat.reduceLeDiff, Int.reduceToNat, Int.reduceLT, Int.reduceLE, Int.reduceEq, Int.reduceNe, Int.reduceAdd, Int.reduceSub, Int.reduceMul, Int.reduceNeg, ↓reduceIte, reduceCtorEq]
        · simp (config := { maxSteps := 2000000 }) (disch := first | omega | (repeat first | assumption | exact Kept.refl _ | refine Kept.set' (by assumption) ?_ ?_ | refine Kept.set (by assumption) ?_ ?_ | omega)) only [go_sem, *, Nat.reduceLT, Nat.reduceAdd, Nat.reduceMul, Nat.reduceSub, Nat.reduceEqDiff, Nat.reduceLeDiff, Int.reduceToNat, Int.reduceLT, Int.reduceLE, Int.reduceEq, Int.reduceNe, Int.reduceAdd, Int.reduceSub, Int.reduceMul, Int.reduceNeg, ↓reduceIte, reduceCtorEq]
        rintro v h2 n2 ⟨rfl, rfl, rfl⟩
        repeat' first | simp (config := { maxSteps := 2000000 }) (disch := first | omega | (repeat first | assumption | exact Kept.refl _ | refine Kept.set' (by assumption) ?_ ?_ | refine Kept.set (by assumption) ?_ ?_ | omega)) only [go_sem, *, Try.results56, Nat.reduceLT, Nat.reduceAdd, Nat.reduceMul, Nat.reduceSub, Nat.reduceEqDiff, Nat.reduceLeDiff, Int.reduceToNat, Int.reduceLT, Int.reduceLE, Int.reduceEq, Int.reduceNe, Int.reduceAdd, Int.reduceSub, Int.reduceMul, Int.reduceNeg, ↓reduceIte, reduceCtorEq] | (apply EvG_ndec <;> intro _) | (apply EvC_ndec <;> intro _) | (apply EvG_dec <;> intro _) | (apply EvC_dec <;> intro _) | fail | (apply EvH_ndec <;> intro _) | (apply EvH_dec <;> intro _) | (apply EvC_nbool <;> intro _) | (apply EvC_bool <;> intro _) | (apply EvG_nbool <;> intro _) | (apply EvG_bool <;> intro _) | (apply EvH_nbool <;> intro _) | (apply EvH_bool <;> intro _)
        refine ih (mid - lo) _ _ _ (by omega) ⟨lo, mid, by omega, by omega, rfl, ?_⟩
        simp (config := { maxSteps := 2000000 }) (disch := first | omega | (repeat first | assumption | exact Kept.refl _ | refine Kept.set' (by assumption) ?_ ?_ | refine Kept.set (by assumption) ?_ ?_ | omega)) only [go_sem, *, Nat.reduceLT, Nat.reduceAdd, Nat.reduceMul, Nat.reduceSub, Nat.reduceEqDiff, Nat.reduceLeDiff, Int.reduceToNat, Int.reduceLT, Int.reduceLE, Int.reduceEq, Int.reduceNe, Int.reduceAdd, Int.reduceSub, Int.reduceMul, Int.reduceNeg, ↓reduceIte, reduceCtorEq]
        exact ⟨q1, fun j h1 h2 => Int.le_trans (Int.not_lt.1 hc) (hsort mid j h1 h2)⟩
    · have e7 : ¬ (lo : Int) < hi := by omega
      by_cases hl : lo < T.length
      · have e8 : (lo : Int) < T.length := by omega
        obtain ⟨bk, off, sp, L, ro, rfl, hbk, hL⟩ := hA lo hl
        by_cases he : T.getD lo 0 = a
        · clear hA ih
          repeat' first | simp (config := { maxSteps := 2000000 }) (disch := first | omega | (repeat first | assumption | exact Kept.refl _ | refine Kept.set' (by assumption) ?_ ?_ | refine Kept.set (by assumption) ?_ ?_ | omega)) only [go_sem, *, Try.results56, Nat.reduceLT, Nat.reduceAdd, Nat.reduceMul, Nat.reduceSub, Nat.reduceEqDiff, Nat.reduceLeDiff, Int.reduceToNat, Int.reduceLT, Int.reduceLE, Int.reduceEq, Int.reduceNe, Int.reduceAdd, Int.reduceSub, Int.reduceMul, Int.reduceNeg, ↓reduceIte, reduceCtorEq] | (apply EvG_ndec <;> intro _) | (apply EvC_ndec <;> intro _) | (apply EvG_dec <;> intro _) | (apply EvC_dec <;> intro _) | fail | (apply EvH_ndec <;> intro _) | (apply EvH_dec <;> intro _) | (apply EvC_nbool <;> intro _) | (apply EvC_bool <;> intro _) | (apply EvG_nbool <;> intro _) | (apply EvG_bool <;> intro _) | (apply EvH_nbool <;> intro _) | (apply EvH_bool <;> intro _)
          exact ⟨lo, by omega, q1, fun j h1 h2 => q2 j (by omega) h2, by rw [decide_eq_true ⟨hl, he⟩]⟩
        · clear hA ih
          repeat' first | simp (config := { maxSteps := 2000000 }) (disch := first | omega | (repeat first | assumption | exact Kept.refl _ | refine Kept.set' (by assumption) ?_ ?_ | refine Kept.set (by assumption) ?_ ?_ | omega)) only [go_sem, *, Try.results56, Nat.reduceLT, Nat.reduceAdd, Nat.reduceMul, Nat.reduceSub, Nat.reduceEqDiff, Nat.reduceLeDiff, Int.reduceToNat, Int.reduceLT, Int.reduceLE, Int.reduceEq, Int.reduceNe, Int.reduceAdd, Int.reduceSub, Int.reduceMul, Int.reduceNeg, ↓reduceIte, reduceCtorEq] | (apply EvG_ndec <;> intro _) | (apply EvC_ndec <;> intro _) | (apply EvG_dec <;> intro _) | (apply EvC_dec <;> intro _) | fail | (apply EvH_ndec <;> intro _) | (apply EvH_dec <;> intro _) | (apply EvC_nbool <;> intro _) | (apply EvC_bool <;> intro _) | (apply EvG_nbool <;> intro _) | (apply EvG_bool <;> intro _) | (apply EvH_nbool <;> intro _) | (apply EvH_bool <;> intro _)
          refine EvQ_call ?_ ?_ (by rw [hP, hO]; exact isNan60 _ _ _) ?_
          · simp (config := { maxSteps := 2000000 }) (disch := first | omega | (repeat first | assumption | exact Kept.refl _ | refine Kept.set' (by assumption) ?_ ?_ | refine Kept.set (by assumption) ?_ ?_ | omega)) only [go_sem, *, Nat.reduceLT, Nat.reduceAdd, Nat.reduceMul, Nat.reduceSub, Nat.reduceEqDiff, Nat.reduceLeDiff, Int.reduceToNat, Int.reduceLT, Int.reduceLE, Int.reduceEq, Int.reduceNe, Int.reduceAdd, Int.reduceSub, Int.reduceMul, Int.reduceNeg, ↓reduceIte, reduceCtorEq]
          · simp (config := { maxSteps := 2000000 }) (disch := first | omega | (repeat first | assumption | exact Kept.refl _ | refine Kept.set' (by assumption) ?_ ?_ | refine Kept.set (by assumption) ?_ ?_ | omega)) only [go_sem, *, Nat.reduceLT, Nat.reduceAdd, Nat.reduceMul, Nat.reduceSub, Nat.reduceEqDiff, Nat.reduceLeDiff, Int.reduceToNat, Int.reduceLT, Int.reduceLE, Int.reduceEq, Int.reduceNe, Int.reduceAdd, Int.reduceSub, Int.reduceMul, Int.reduceNeg, ↓reduceIte, reduceCtorEq]
          rintro v h2 n2 ⟨rfl, rfl, rfl⟩
          repeat' first | simp (config := { maxSteps := 2000000 }) (disch := first | omega | (repeat first | assumption | exact Kept.refl _ | refine Kept.set' (by assumption) ?_ ?_ | refine Kept.set (by assumption) ?_ ?_ | omega)) only [go_sem, *, Try.results56, Nat.reduceLT, Nat.reduceAdd, Nat.reduceMul, Nat.reduceSub, Nat.reduceEqDiff, Nat.reduceLeDiff, Int.reduceToNat, Int.reduceLT, Int.reduceLE, Int.reduceEq, Int.reduceNe, Int.reduceAdd, Int.reduceSub, Int.reduceMul, Int.reduceNeg, ↓reduceIte, reduceCtorEq] | (apply EvG_ndec <;> intro _) | (apply EvC_ndec <;> intro _) | (apply EvG_dec <;> intro _) | (apply EvC_dec <;> intro _) | fail | (apply EvH_ndec <;> intro _) | (apply EvH_dec <;> intro _) | (apply EvC_nbool <;> intro _) | (apply EvC_bool <;> intro _) | (apply EvG_nbool <;> intro _) | (apply EvG_bool <;> intro _) | (apply EvH_nbool <;> intro _) | (apply EvH_bool <;> intro _)
          exact ⟨lo, by omega, q1, fun j h1 h2 => q2 j (by omega) h2, by rw [decide_eq_false fun q => he q.2]⟩
      · have e8 : ¬ (lo : Int) < T.length := by omega
        clear hA ih
        repeat' first | simp (config := { maxSteps := 2000000 }) (disch := first | omega | (repeat first | assumption | exact Kept.refl _ | refine Kept.set' (by assumption) ?_ ?_ | refine Kept.set (by assumption) ?_ ?_ | omega)) only [go_sem, *, Try.results56, Nat.reduceLT, Nat.reduceAdd, Nat.reduceMul, Nat.reduceSub, Nat.reduceEqDiff, Nat.reduceLeDiff, Int.reduceToNat, Int.reduceLT, Int.reduceLE, Int.reduceEq, Int.reduceNe, Int.reduceAdd, Int.reduceSub, Int.reduceMul, Int.reduceNeg, ↓reduceIte, reduceCtorEq] | (apply EvG_ndec <;> intro _) | (apply EvC_ndec <;> intro _) | (apply EvG_dec <;> intro _) | (apply EvC_dec <;> intro _) | fail | (apply EvH_ndec <;> intro _) | (apply EvH_dec <;> intro _) | (apply EvC_nbool <;> intro _) | (apply EvC_bool <;> intro _) | (apply EvG_nbool <;> intro _) | (apply EvG_bool <;> intro _) | (apply EvH_nbool <;> intro _) | (apply EvH_bool <;> intro _)
        exact ⟨lo, by omega, q1, fun j h1 h2 => q2 j (by omega) h2, by simp [hl]⟩
end Go.Proofs.Ytakfjoelpploeaa

set_option linter.unusedVariables false
set_option linter.unusedSimpArgs false
namespace Go.Proofs.Ytakfjoelpploeaa
open Go.Am

/-- The reference's list of places, as it is read. -/
def decPlcs : List Value → Option (List (Int × Int × Int))
  | [] => some []
  | .int .u8 a :: .int .i64 b :: .int .i64 c :: r => (decPlcs r).map ((a, b, c) :: ·)
  | _ => none
theorem decPlcs_plcs : ∀ W : List (Int × Int × Int), decPlcs (plcs W) = some W
  | [] => rfl
  | (a, b, c) :: W => by
    have := decPlcs_plcs W
    simp only [plcs, List.flatMap_cons, plc, List.cons_append, List.nil_append, decPlcs] at this ⊢
    rw [this]; rfl
theorem decPlcs_eq (L : List Value) : ∀ (W : List (Int × Int × Int)), decPlcs L = some W → L = plcs W := by
  induction L using decPlcs.induct with
  | case1 => intro W h; simp only [decPlcs, Option.some.injEq] at h; subst h; rfl
  | case2 a b c r ih =>
    intro W h
    simp only [decPlcs, Option.map_eq_some_iff] at h
    obtain ⟨V, hV, rfl⟩ := h
    rw [ih V hV]; rfl
  | case3 L h1 h2 =>
    intro W h
    rw [decPlcs] at h
    · simp at h
    · exact h1
    · exact h2

noncomputable def rdW : Value → AP (List (Int × Int × Int))
  | .pointer (some ⟨lb, 0, none⟩) => AP.row lb fun (S : List Value) _ => match (S[27]? : Option Value) with
    | some (.slice (some ⟨wb, 0, none⟩) n _) => AP.row wb fun (L : List Value) _ => match decPlcs L with
      | some W => cond (Nat.beq n W.length && Nat.ble n 100000 && Nat.beq S.length 28) (.pure W) (.fail "")
      | none => .fail ""
    | _ => .fail ""
  | _ => .fail ""
theorem rdW_reads (v : Value) : Reads (rdW v) := by
  unfold rdW
  split
  · refine row_reads fun S ro => ?_
    split
    · refine row_reads fun L ro => ?_
      split
      · exact .cond (.pure _) (.fail _)
      · exact .fail _
    · exact .fail _
  · exact .fail _
theorem rdW_look {v : Value} {h : PT ABlk} {W : List (Int × Int × Int)} (e : (rdW v).look h = some W) : ∃ lb ro S wb c ro', v = .pointer (some ⟨lb, 0, none⟩) ∧ h.get lb = some (.cells (PT.ofList .leaf 0 S) ro) ∧ S[27]? = some (.slice (some ⟨wb, 0, none⟩) W.length c) ∧
    h.get wb = some (.cells (PT.ofList .leaf 0 (plcs W)) ro') ∧ W.length ≤ 100000 ∧ S.length = 28 := by
  unfold rdW at e
  split at e
  · rename_i lb
    obtain ⟨S, ro, hb, e⟩ := look_row e
    split at e
    · rename_i wb n c h27
      obtain ⟨L, ro', hw, e⟩ := look_row e
      split at e
      · rename_i W' hL
        obtain ⟨hc, e⟩ := look_cond e
        rw [look_pure] at e
        obtain rfl := Option.some.inj e
        simp only [Bool.and_eq_true] at hc
        have h1 := Nat.eq_of_beq_eq_true hc.1.1
        subst h1
        rw [decPlcs_eq _ _ hL] at hw
        exact ⟨lb, ro, S, wb, c, ro', rfl, hb, h27, hw, Nat.le_of_ble_eq_true hc.1.2, Nat.eq_of_beq_eq_true hc.2⟩
      · simp [AP.look] at e
    · simp [AP.look] at e
  · simp [AP.look] at e
theorem rdW_mk {h : PT ABlk} {lb wb c : Nat} {S : List Value} {ro ro' : Bool} {W : List (Int × Int × Int)} (hb : h.get lb = some (.cells (PT.ofList .leaf 0 S) ro)) (h27 : S[27]? = some (.slice (some ⟨wb, 0, none⟩) W.length c)) (hw : h.get wb = some (.cells (PT.ofList .leaf 0 (plcs W)) ro')) (h1 : W.length ≤ 100000) (h2 : S.length = 28) :
    (rdW (.pointer (some ⟨lb, 0, none⟩))).look h = some W := by
  unfold rdW
  simp only [AP.row, look_get, hb, rowB_row, h27, hw, decPlcs_plcs]
  simp only [Nat.ble_eq_true_of_le h1, h2, show ∀ n, Nat.beq n n = true from Nat.beq_refl, Bool.and_self, cond_true, look_pure]

noncomputable def refOfS : List Value → Option (AP Value)
  | [.pointer (some p), .int .i64 a] => some ((rdW (.pointer (some p))).bind fun W => .pure (.agg ⟨plc (ofR W a)⟩))
  | _ => none
set_option maxRecDepth 100000 in
set_option maxHeartbeats 4000000 in
theorem refOfF : SoundF Try.prog 34 refOfS := by
  refine soundF_look (tab_sound .nil) orders ?_ ?_ ?_
  · intro args m hm
    unfold refOfS at hm
    split at hm
    · obtain rfl := Option.some.inj hm; exact (rdW_reads _).bind fun l => .pure _
    · simp at hm
  · intro args m h v hm e
    unfold refOfS at hm
    split at hm
    · obtain rfl := Option.some.inj hm
      obtain ⟨l, hl, e⟩ := look_bind_some e
      rw [look_pure] at e; obtain rfl := Option.some.inj e
      exact .agg _ (by simp [plc]; exact ⟨.int _ _, .int _ _, .int _ _⟩)
    · simp at hm
  · intro args m h N v hm hR hlt e
    unfold refOfS at hm
    split at hm
    · rename_i p a
      obtain rfl := Option.some.inj hm
      obtain ⟨W, hl, e⟩ := look_bind_some e
      rw [look_pure] at e; obtain rfl := Option.some.inj e
      have hW := WfH.of_lt hlt
      obtain ⟨lb, ro, S, wb, c, ro', hp, hb, h27, hw, hWl, hSl⟩ := rdW_look hl
      cases hp
      have hbN := hlt _ _ hb
      have hwN := hlt _ _ hw
      clear hm hl
      unfold ofR
      by_cases g1 : a < 0
      · rw [if_pos (.inl g1)]
        refine EvB_run (N := 28) Try.func34 rfl rfl fun z hP hO hro hN hQ => ?_
        repeat' first | simp (config := { maxSteps := 2000000 }) (disch := first | omega | (repeat first | assumption | exact Kept.refl _ | refine Kept.set' (by assumption) ?_ ?_ | refine Kept.set (by assumption) ?_ ?_ | omega)) only [go_sem, *, Try.results34, plc, Nat.reduceLT, Nat.reduceAdd, Nat.reduceMul, Nat.reduceSub, Nat.reduceEqDiff, Nat.reduceLeDiff, Int.reduceToNat, Int.reduceLT, Int.reduceLE, Int.reduceEq, Int.reduceNe, Int.reduceAdd, Int.reduceSub, Int.reduceMul, Int.reduceNeg, ↓reduceIte, reduceCtorEq] | (apply EvG_ndec <;> intro _) | (apply EvC_ndec <;> intro _) | (apply EvG_dec <;> intro _) | (apply EvC_dec <;> intro _) | fail | (apply EvH_ndec <;> intro _) | (apply EvH_dec <;> intro _) | (apply EvC_nbool <;> intro _) | (apply EvC_bool <;> intro _) | (apply EvG_nbool <;> intro _) | (apply EvG_bool <;> intro _) | (apply EvH_nbool <;> intro _) | (apply EvH_bool <;> intro _)
        all_goals exact fun i hi => by simp (disch := omega) only [heap_ne]
      · by_cases g2 : (W.length : Int) ≤ a
        · rw [if_pos (.inr g2)]
          refine EvB_run (N := 28) Try.func34 rfl rfl fun z hP hO hro hN hQ => ?_
          repeat' first | simp (config := { maxSteps := 2000000 }) (disch := first | omega | (repeat first | assumption | exact Kept.refl _ | refine Kept.set' (by assumption) ?_ ?_ | refine Kept.set (by assumption) ?_ ?_ | omega)) only [go_sem, *, Try.results34, plc, Nat.reduceLT, Nat.reduceAdd, Nat.reduceMul, Nat.reduceSub, Nat.reduceEqDiff, Nat.reduceLeDiff, Int.reduceToNat, Int.reduceLT, Int.reduceLE, Int.reduceEq, Int.reduceNe, Int.reduceAdd, Int.reduceSub, Int.reduceMul, Int.reduceNeg, ↓reduceIte, reduceCtorEq] | (apply EvG_ndec <;> intro _) | (apply EvC_ndec <;> intro _) | (apply EvG_dec <;> intro _) | (apply EvC_dec <;> intro _) | fail | (apply EvH_ndec <;> intro _) | (apply EvH_dec <;> intro _) | (apply EvC_nbool <;> intro _) | (apply EvC_bool <;> intro _) | (apply EvG_nbool <;> intro _) | (apply EvG_bool <;> intro _) | (apply EvH_nbool <;> intro _) | (apply EvH_bool <;> intro _)
          all_goals exact fun i hi => by simp (disch := omega) only [heap_ne]
        · rw [if_neg (by omega)]
          obtain ⟨i, rfl⟩ : ∃ i : Nat, a = i := ⟨a.toNat, by omega⟩
          have hlt2 : i < W.length := by omega
          obtain ⟨⟨k', x', y'⟩, hwi⟩ : ∃ w, W[i] = w := ⟨_, rfl⟩
          have hrow : ((plcs W).drop (i * 3)).take 3 = [.int .u8 k', .int .i64 x', .int .i64 y'] := by
            rw [plcs_drop, List.drop_eq_getElem_cons hlt2, hwi]; simp [plcs, plc]
          have hpl : (plcs W).length = W.length * 3 := plcs_length W
          have hgd : W.getD i (0, 0, 0) = (k', x', y') := by rw [List.getD_eq_getElem?_getD, List.getElem?_eq_getElem hlt2, hwi]; rfl
          rw [Int.toNat_natCast, hgd]
          refine EvB_run (N := 28) Try.func34 rfl rfl fun z hP hO hro hN hQ => ?_
          repeat' first | simp (config := { maxSteps := 2000000 }) (disch := first | omega | (repeat first | assumption | exact Kept.refl _ | refine Kept.set' (by assumption) ?_ ?_ | refine Kept.set (by assumption) ?_ ?_ | omega)) only [go_sem, *, Try.results34, plc, Nat.reduceLT, Nat.reduceAdd, Nat.reduceMul, Nat.reduceSub, Nat.reduceEqDiff, Nat.reduceLeDiff, Int.reduceToNat, Int.reduceLT, Int.reduceLE, Int.reduceEq, Int.reduceNe, Int.reduceAdd, Int.reduceSub, Int.reduceMul, Int.reduceNeg, ↓reduceIte, reduceCtorEq] | (apply EvG_ndec <;> intro _) | (apply EvC_ndec <;> intro _) | (apply EvG_dec <;> intro _) | (apply EvC_dec <;> intro _) | fail | (apply EvH_ndec <;> intro _) | (apply EvH_dec <;> intro _) | (apply EvC_nbool <;> intro _) | (apply EvC_bool <;> intro _) | (apply EvG_nbool <;> intro _) | (apply EvG_bool <;> intro _) | (apply EvH_nbool <;> intro _) | (apply EvH_bool <;> intro _)
          all_goals exact fun i hi => by simp (disch := omega) only [heap_ne]
    · simp at hm
end Go.Proofs.Ytakfjoelpploeaa

set_option linter.unusedVariables false
set_option linter.unusedSimpArgs false
namespace Go.Proofs.Ytakfjoelpploeaa
open Go.Am

/-- The groups, as they are read. -/
def grpC (g : Int × Int × Int × Int) : List Value := [.int .u8 g.1, .int .i64 g.2.1, .int .i64 g.2.2.1, .int .i64 g.2.2.2]
def grpCs (G : List (Int × Int × Int × Int)) : List Value := G.flatMap grpC
def decGrp : List Value → Option (List (Int × Int × Int × Int))
  | [] => some []
  | .int .u8 a :: .int .i64 b :: .int .i64 c :: .int .i64 d :: r => (decGrp r).map ((a, b, c, d) :: ·)
  | _ => none
theorem decGrp_cs : ∀ W : List (Int × Int × Int × Int), decGrp (grpCs W) = some W
  | [] => rfl
  | (a, b, c, d) :: W => by
    have := decGrp_cs W
    simp only [grpCs, List.flatMap_cons, grpC, List.cons_append, List.nil_append, decGrp] at this ⊢
    rw [this]; rfl
theorem decGrp_eq (L : List Value) : ∀ (W : List (Int × Int × Int × Int)), decGrp L = some W → L = grpCs W := by
  induction L using decGrp.induct with
  | case1 => intro W h; simp only [decGrp, Option.some.injEq] at h; subst h; rfl
  | case2 a b c d r ih =>
    intro W h
    simp only [decGrp, Option.map_eq_some_iff] at h
    obtain ⟨V, hV, rfl⟩ := h
    rw [ih V hV]; rfl
  | case3 L h1 h2 =>
    intro W h
    rw [decGrp] at h
    · simp at h
    · exact h1
    · exact h2
theorem grpCs_length : ∀ W : List (Int × Int × Int × Int), (grpCs W).length = W.length * 4
  | [] => rfl
  | x :: W => by
    have := grpCs_length W
    unfold grpCs at *
    rw [List.flatMap_cons, List.length_append, this]
    simp only [grpC, List.length_cons, List.length_nil]; omega
theorem grpCs_drop : ∀ (W : List (Int × Int × Int × Int)) (i : Nat), (grpCs W).drop (i * 4) = grpCs (W.drop i)
  | W, 0 => by simp
  | [], i + 1 => by simp [grpCs]
  | y :: ys, i + 1 => by
    have : (i + 1) * 4 = i * 4 + 4 := by omega
    rw [this]
    simp only [List.drop_succ_cons]
    rw [← grpCs_drop ys i]
    simp [grpCs, grpC]

structure OfV where
  p8 : Int
  p9 : Int
  G : List (Int × Int × Int × Int)
  T : List Int
structure OfOk (o : OfV) : Prop where
  p8 : 0 ≤ o.p8 ∧ o.p8 ≤ 1000000
  p9 : 0 ≤ o.p9 ∧ o.p9 ≤ 1000000
  G : ∀ g ∈ o.G, (0 ≤ g.1 ∧ g.1 < 256) ∧ (0 ≤ g.2.1 ∧ g.2.1 ≤ 1000000) ∧ (0 ≤ g.2.2.1 ∧ g.2.2.1 ≤ 1000000) ∧ 0 ≤ g.2.2.2 ∧ g.2.2.2 ≤ 1000000
  lenG : o.G.length ≤ 100
  lenT : o.T.length ≤ 100000
  T : ∀ i, i < o.T.length → 0 ≤ o.T.getD i 0 ∧ o.T.getD i 0 ≤ 1000000
  sort : ∀ i j, i ≤ j → j < o.T.length → o.T.getD i 0 ≤ o.T.getD j 0
  strict : ∀ i j, i < j → j < o.T.length → o.T.getD i 0 < o.T.getD j 0
  first : o.p8 < o.p9 → 0 < o.T.length ∧ o.T.getD 0 0 ≤ o.p8
noncomputable def rdO : Value → AP OfV
  | .pointer (some ⟨lb, 0, none⟩) => AP.row lb fun (S : List Value) _ => match (S[24]? : Option Value), (S[25]? : Option Value), (S[26]? : Option Value), (S[28]? : Option Value) with
    | some (.int .i64 p8), some (.int .i64 p9), some (.slice (some ⟨gb, 0, none⟩) n _), some tv => AP.row gb fun (L : List Value) _ => match decGrp L with
      | some G => (rdInts .i64 tv).bind fun T => cond (@decide (OfOk ⟨p8, p9, G, T⟩) (Classical.propDecidable _) && Nat.beq n G.length && Nat.beq S.length 30) (.pure ⟨p8, p9, G, T⟩) (.fail "")
      | none => .fail ""
    | _, _, _, _ => .fail ""
  | _ => .fail ""
theorem rdO_reads (v : Value) : Reads (rdO v) := by
  unfold rdO
  split
  · refine row_reads fun S ro => ?_
    split
    · refine row_reads fun L ro => ?_
      split
      · exact rdInts_reads.bind fun T => .cond (.pure _) (.fail _)
      · exact .fail _
    · exact .fail _
  · exact .fail _
theorem rdO_look {v : Value} {h : PT ABlk} {o : OfV} (hR : Am.Rows h) (e : (rdO v).look h = some o) : ∃ lb ro S gb c ro' tv, v = .pointer (some ⟨lb, 0, none⟩) ∧ h.get lb = some (.cells (PT.ofList .leaf 0 S) ro) ∧ S[24]? = some (.int .i64 o.p8) ∧ S[25]? = some (.int .i64 o.p9) ∧ S[26]? = some (.slice (some ⟨gb, 0, none⟩) o.G.length c) ∧ S[28]? = some tv ∧
    h.get gb = some (.cells (PT.ofList .leaf 0 (grpCs o.G)) ro') ∧ IsInts .i64 h tv o.T ∧ OfOk o ∧ S.length = 30 := by
  unfold rdO at e
  split at e
  · rename_i lb
    obtain ⟨S, ro, hb, e⟩ := look_row e
    split at e
    · rename_i p8 p9 gb n c tv h24 h25 h26 h28
      obtain ⟨L, ro', hw, e⟩ := look_row e
      split at e
      · rename_i G hL
        obtain ⟨T, e2, e⟩ := look_bind_some e
        obtain ⟨hc, e⟩ := look_cond e
        rw [look_pure] at e
        obtain rfl := Option.some.inj e
        simp only [Bool.and_eq_true] at hc
        have h1 := Nat.eq_of_beq_eq_true hc.1.2
        subst h1
        rw [decGrp_eq _ _ hL] at hw
        exact ⟨lb, ro, S, gb, c, ro', tv, rfl, hb, h24, h25, h26, h28, hw, isInts_look e2 hR, @of_decide_eq_true _ (Classical.propDecidable _) hc.1.1, Nat.eq_of_beq_eq_true hc.2⟩
      · simp [AP.look] at e
    · simp [AP.look] at e
  · simp [AP.look] at e
theorem rdO_mk {h : PT ABlk} {lb gb c : Nat} {S : List Value} {ro ro' : Bool} {o : OfV} {tv : Value} (hb : h.get lb = some (.cells (PT.ofList .leaf 0 S) ro)) (h24 : S[24]? = some (.int .i64 o.p8)) (h25 : S[25]? = some (.int .i64 o.p9)) (h26 : S[26]? = some (.slice (some ⟨gb, 0, none⟩) o.G.length c)) (h28 : S[28]? = some tv)
    (hw : h.get gb = some (.cells (PT.ofList .leaf 0 (grpCs o.G)) ro')) (hT : IsInts .i64 h tv o.T) (h1 : OfOk o) (h2 : S.length = 30) : (rdO (.pointer (some ⟨lb, 0, none⟩))).look h = some o := by
  unfold rdO
  simp only [AP.row, look_get, hb, rowB_row, h24, h25, h26, h28, hw, decGrp_cs]
  rw [look_bind, hT.look, Option.bind_some]
  have hd : @decide (OfOk ⟨o.p8, o.p9, o.G, o.T⟩) (Classical.propDecidable _) = true := @decide_eq_true _ (Classical.propDecidable _) h1
  simp only [hd, h2, show ∀ n, Nat.beq n n = true from Nat.beq_refl, Bool.and_self, cond_true, look_pure]

def ofA (o : OfV) (a : Int) : Int × Int × Int := ofL o.p8 o.p9 o.G o.T a
noncomputable def layOfS : List Value → Option (AP Value)
  | [.pointer (some p), .int .i64 a] => some ((rdO (.pointer (some p))).bind fun o => .pure (.agg ⟨plc (ofA o a)⟩))
  | _ => none
noncomputable abbrev Oof : Over := tabO [(49, withinS)]
theorem Oofok : SoundO Try.prog Oof := tab_sound (.cons withinF .nil)
theorem gOf_drop {G : List (Int × Int × Int × Int)} {i : Nat} (hi : i < G.length) (a : Int) : gOf (G.drop i) a = if 0 < G[i].2.2.2 ∧ a - G[i].2.1 < G[i].2.2.1 * G[i].2.2.2 then (G[i].1, if G[i].1 = 7 then (a - G[i].2.1).tdiv G[i].2.2.2 + 1 else (a - G[i].2.1).tdiv G[i].2.2.2, (a - G[i].2.1).tmod G[i].2.2.2) else gOf (G.drop (i + 1)) a := by
  rw [List.drop_eq_getElem_cons hi, gOf]
theorem ofA_tower {o : OfV} (hk : OfOk o) {a : Int} (h1 : 0 ≤ a) (h2 : a < o.p9) (h3 : o.p8 ≤ a) {i : Nat} (hi : i ≤ o.T.length) (q1 : ∀ j, j < i → o.T.getD j 0 < a) (q2 : ∀ j, i ≤ j → j < o.T.length → a ≤ o.T.getD j 0) :
    ∃ t : Nat, t + 1 = (if i < o.T.length ∧ o.T.getD i 0 = a then i + 1 else i) ∧ t < o.T.length ∧ ofA o a = (9, (t : Int) + 1, a - o.T.getD t 0) := by
  obtain ⟨f1, f2⟩ := hk.first (by omega)
  have hu : ofA o a = (9, (cntL o.T a : Int), a - o.T.getD (cntL o.T a - 1) 0) := by
    unfold ofA ofL
    rw [if_neg (by omega), if_pos h3]
  by_cases hf : i < o.T.length ∧ o.T.getD i 0 = a
  · have hc : cntL o.T a = i + 1 := by
      refine cntL_eq _ _ _ (by omega) (fun j hj => ?_) ?_
      · rcases Nat.lt_or_ge j i with q | q
        · have := q1 j q; omega
        · have : j = i := by omega
          subst this; omega
      · by_cases hl : i + 1 = o.T.length
        · exact .inl hl
        · have := hk.strict i (i + 1) (by omega) (by omega)
          exact .inr (by omega)
    refine ⟨i, by rw [if_pos hf], hf.1, ?_⟩
    rw [hu, hc]
    simp
  · have hi0 : 0 < i := by
      rcases Nat.eq_zero_or_pos i with q | q
      · subst q
        have := q2 0 (by omega) f1
        exact absurd ⟨f1, by omega⟩ hf
      · exact q
    have hc : cntL o.T a = i := by
      refine cntL_eq _ _ _ hi (fun j hj => by have := q1 j hj; omega) ?_
      by_cases hl : i = o.T.length
      · exact .inl hl
      · have := q2 i (by omega) (by omega)
        have hne : ¬ o.T.getD i 0 = a := fun q => hf ⟨by omega, q⟩
        exact .inr (by omega)
    refine ⟨i - 1, by rw [if_neg hf]; omega, by omega, ?_⟩
    rw [hu, hc]
    congr 2
    omega
theorem tdiv_bound {x w : Int} (h1 : -1000000 ≤ x) (h2 : x ≤ 1000000) : -1000000 ≤ x.tdiv w ∧ x.tdiv w ≤ 1000000 := by
  have e : (x.tdiv w).natAbs ≤ x.natAbs := by rw [Int.natAbs_tdiv]; exact Nat.div_le_self _ _
  omega
theorem mul_bound {m w : Int} (h1 : 0 ≤ m ∧ m ≤ 1000000) (h2 : 0 ≤ w ∧ w ≤ 1000000) : 0 ≤ m * w ∧ m * w ≤ 1000000000000 := by
  have a := Int.mul_nonneg h1.1 h2.1
  have b := Int.mul_le_mul h1.2 h2.2 h2.1 (by omega)
  omega

set_option maxRecDepth 100000 in
set_option maxHeartbeats 4000000 in
theorem layOfF : SoundF Try.prog 33 layOfS := by
  refine soundF_look Oofok orders ?_ ?_ ?_
  · intro args m hm
    unfold layOfS at hm
    split at hm
    · obtain rfl := Option.some.inj hm; exact (rdO_reads _).bind fun l => .pure _
    · simp at hm
  · intro args m h v hm e
    unfold layOfS at hm
    split at hm
    · obtain rfl := Option.some.inj hm
      obtain ⟨l, hl, e⟩ := look_bind_some e
      rw [look_pure] at e; obtain rfl := Option.some.inj e
      exact .agg _ (by simp [plc]; exact ⟨.int _ _, .int _ _, .int _ _⟩)
    · simp at hm
  · intro args m h N v hm hR hlt e
    unfold layOfS at hm
    split at hm
    · rename_i p a
      obtain rfl := Option.some.inj hm
      obtain ⟨o, hl, e⟩ := look_bind_some e
      rw [look_pure] at e; obtain rfl := Option.some.inj e
      have hW := WfH.of_lt hlt
      obtain ⟨lb, ro, S, gb, c, ro', tv, hp, hb, h24, h25, h26, h28, hg, hT, hk, hSl⟩ := rdO_look hR hl
      cases hp
      have hbN := hlt _ _ hb
      have hgN := hlt _ _ hg
      clear hm hl hR
      have b8 := hk.p8
      have b9 := hk.p9
      by_cases g1 : a < 0
      · have hv : ofA o a = (0, 0, 0) := by unfold ofA ofL; rw [if_pos (.inl g1)]
        have g4 : ¬ 0 ≤ a := by omega
        rw [hv]
        refine EvB_run (N := 102) Try.func33 rfl rfl fun z hP hO hro hN hQ => ?_
        repeat' first | simp (config := { maxSteps := 2000000 }) (disch := first | omega | (repeat first | assumption | exact Kept.refl _ | refine Kept.set' (by assumption) ?_ ?_ | refine Kept.set (by assumption) ?_ ?_ | omega)) only [go_sem, *, Try.results33, plc, withinS, Nat.reduceLT, Nat.reduceAdd, Nat.reduceMul, Nat.reduceSub, Nat.reduceEqDiff, Nat.reduceLeDiff, Int.reduceToNat, Int.reduceLT, Int.reduceLE, Int.reduceEq, Int.reduceNe, Int.reduceAdd, Int.reduceSub, Int.reduceMul, Int.reduceNeg, ↓reduceIte, reduceCtorEq] | (apply EvG_ndec <;> intro _) | (apply EvC_ndec <;> intro _) | (apply EvG_dec <;> intro _) | (apply EvC_dec <;> intro _) | refine EvK_draw (id := 13) (L := [(0, 2), (1, 2), (0, 3), (1, 3), (2, 3), (0, 4), (1, 4), (2, 4), (0, 5), (1, 5), (0, 6), (1, 6), (2, 6), (3, 6), (4, 6), (5, 6), (0, 7), (1, 7), (2, 7), (3, 7), (4, 7), (5, 7), (6, 7), (0, 8), (1, 8), (2, 8), (3, 8), (4, 8), (5, 8), (6, 8), (0, 9), (1, 9), (2, 9), (3, 9), (4, 9), (5, 9), (0, 11), (1, 11), (2, 11), (3, 11), (4, 11), (5, 11), (6, 11), (7, 11), (8, 11), (9, 11), (10, 11)]) (by kernel_rfl) (by kernel_rfl) ?_ | (apply EvH_ndec <;> intro _) | (apply EvH_dec <;> intro _) | (apply EvC_nbool <;> intro _) | (apply EvC_bool <;> intro _) | (apply EvG_nbool <;> intro _) | (apply EvG_bool <;> intro _) | (apply EvH_nbool <;> intro _) | (apply EvH_bool <;> intro _)
        all_goals exact fun i hi => by simp (disch := omega) only [heap_ne]
      · by_cases g2 : o.p9 ≤ a
        · have hv : ofA o a = (0, 0, 0) := by unfold ofA ofL; rw [if_pos (.inr g2)]
          have g3 : ¬ a ≤ o.p9 - 1 := by omega
          have g4 : 0 ≤ a := by omega
          rw [hv]
          refine EvB_run (N := 102) Try.func33 rfl rfl fun z hP hO hro hN hQ => ?_
          repeat' first | simp (config := { maxSteps := 2000000 }) (disch := first | omega | (repeat first | assumption | exact Kept.refl _ | refine Kept.set' (by assumption) ?_ ?_ | refine Kept.set (by assumption) ?_ ?_ | omega)) only [go_sem, *, Try.results33, plc, withinS, Nat.reduceLT, Nat.reduceAdd, Nat.reduceMul, Nat.reduceSub, Nat.reduceEqDiff, Nat.reduceLeDiff, Int.reduceToNat, Int.reduceLT, Int.reduceLE, Int.reduceEq, Int.reduceNe, Int.reduceAdd, Int.reduceSub, Int.reduceMul, Int.reduceNeg, ↓reduceIte, reduceCtorEq] | (apply EvG_ndec <;> intro _) | (apply EvC_ndec <;> intro _) | (apply EvG_dec <;> intro _) | (apply EvC_dec <;> intro _) | refine EvK_draw (id := 13) (L := [(0, 2), (1, 2), (0, 3), (1, 3), (2, 3), (0, 4), (1, 4), (2, 4), (0, 5), (1, 5), (0, 6), (1, 6), (2, 6), (3, 6), (4, 6), (5, 6), (0, 7), (1, 7), (2, 7), (3, 7), (4, 7), (5, 7), (6, 7), (0, 8), (1, 8), (2, 8), (3, 8), (4, 8), (5, 8), (6, 8), (0, 9), (1, 9), (2, 9), (3, 9), (4, 9), (5, 9), (0, 11), (1, 11), (2, 11), (3, 11), (4, 11), (5, 11), (6, 11), (7, 11), (8, 11), (9, 11), (10, 11)]) (by kernel_rfl) (by kernel_rfl) ?_ | (apply EvH_ndec <;> intro _) | (apply EvH_dec <;> intro _) | (apply EvC_nbool <;> intro _) | (apply EvC_bool <;> intro _) | (apply EvG_nbool <;> intro _) | (apply EvG_bool <;> intro _) | (apply EvH_nbool <;> intro _) | (apply EvH_bool <;> intro _)
          all_goals exact fun i hi => by simp (disch := omega) only [heap_ne]
        · have g3 : a ≤ o.p9 - 1 := by omega
          have g4 : 0 ≤ a := by omega
          obtain ⟨ta, tc, rfl, hA⟩ := hT.len
          by_cases g5 : o.p8 ≤ a
          · have htow := fun {i} => @ofA_tower o hk a g4 (by omega) g5 i
            refine EvB_run (N := 102) Try.func33 rfl rfl fun z hP hO hro hN hQ => ?_
            repeat' first | simp (config := { maxSteps := 2000000 }) (disch := first | omega | (repeat first | assumption | exact Kept.refl _ | refine Kept.set' (by assumption) ?_ ?_ | refine Kept.set (by assumption) ?_ ?_ | omega)) only [go_sem, *, Try.results33, plc, withinS, Nat.reduceLT, Nat.reduceAdd, Nat.reduceMul, Nat.reduceSub, Nat.reduceEqDiff, Nat.reduceLeDiff, Int.reduceToNat, Int.reduceLT, Int.reduceLE, Int.reduceEq, Int.reduceNe, Int.reduceAdd, Int.reduceSub, Int.reduceMul, Int.reduceNeg, ↓reduceIte, reduceCtorEq] | (apply EvG_ndec <;> intro _) | (apply EvC_ndec <;> intro _) | (apply EvG_dec <;> intro _) | (apply EvC_dec <;> intro _) | refine EvK_draw (id := 13) (L := [(0, 2), (1, 2), (0, 3), (1, 3), (2, 3), (0, 4), (1, 4), (2, 4), (0, 5), (1, 5), (0, 6), (1, 6), (2, 6), (3, 6), (4, 6), (5, 6), (0, 7), (1, 7), (2, 7), (3, 7), (4, 7), (5, 7), (6, 7), (0, 8), (1, 8), (2, 8), (3, 8), (4, 8), (5, 8), (6, 8), (0, 9), (1, 9), (2, 9), (3, 9), (4, 9), (5, 9), (0, 11), (1, 11), (2, 11), (3, 11), (4, 11), (5, 11), (6, 11), (7, 11), (8, 11), (9, 11), (10, 11)]) (by kernel_rfl) (by kernel_rfl) ?_ | (apply EvH_ndec <;> intro _) | (apply EvH_dec <;> intro _) | (apply EvC_nbool <;> intro _) | (apply EvC_bool <;> intro _) | (apply EvG_nbool <;> intro _) | (apply EvG_bool <;> intro _) | (apply EvH_nbool <;> intro _) | (apply EvH_bool <;> intro _)
            generalize hh2 : h.set N _ = h2
            have e2 := get_of_set hh2
            have hk2 : Kept h h2 := by rw [← hh2]; exact hW.kept (Nat.le_refl _)
            have hfr : ∀ i, i < N → h2.get i = h.get i := fun i hi => by rw [← hh2]; exact heap_ne (by omega)
            have hT2 := hT.keep hk2
            have hb2 := hk2 _ _ hb
            have hg2 := hk2 _ _ hg
            clear hh2
            refine EvQ_call ?_ ?_ (by rw [hP, hO]; exact bsearch rfl rfl rfl _ _ a _ _ hT2 hk.sort hk.lenT) ?_
            · simp (config := { maxSteps := 2000000 }) (disch := first | omega | (repeat first | assumption | exact Kept.refl _ | refine Kept.set' (by assumption) ?_ ?_ | refine Kept.set (by assumption) ?_ ?_ | omega)) only [go_sem, *, Nat.reduceLT, Nat.reduceAdd, Nat.reduceMul, Nat.reduceSub, Nat.reduceEqDiff, Nat.reduceLeDiff, Int.reduceToNat, Int.reduceLT, Int.reduceLE, Int.reduceEq, Int.reduceNe, Int.reduceAdd, Int.reduceSub, Int.reduceMul, Int.reduceNeg, ↓reduceIte, reduceCtorEq]
            · simp (config := { maxSteps := 2000000 }) (disch := first | omega | (repeat first | assumption | exact Kept.refl _ | refine Kept.set' (by assumption) ?_ ?_ | refine Kept.set (by assumption) ?_ ?_ | omega)) only [go_sem, *, Nat.reduceLT, Nat.reduceAdd, Nat.reduceMul, Nat.reduceSub, Nat.reduceEqDiff, Nat.reduceLeDiff, Int.reduceToNat, Int.reduceLT, Int.reduceLE, Int.reduceEq, Int.reduceNe, Int.reduceAdd, Int.reduceSub, Int.reduceMul, Int.reduceNeg, ↓reduceIte, reduceCtorEq]
            rintro v h3 n3 ⟨⟨i, hi, q1, q2, rfl⟩, rfl, rfl⟩
            obtain ⟨t, ht1, ht2, ht3⟩ := htow hi q1 q2
            obtain ⟨bk, off, sp, L, ro2, rfl, hbk, hL⟩ := hA t ht2
            have hbk2 := hk2 _ _ hbk
            have hbkN := hlt _ _ hbk
            have hTt := hk.T t ht2
            have hti : ((t + 1 : Nat) : Int) = (t : Int) + 1 := by omega
            have htl := hk.lenT
            have hsub : ((t : Int) + 1 - 1).toNat = t := by omega
            clear htow hA q1 q2 hbk2 hb2 hg2 hT hT2 hk2 hk
            by_cases hf : i < o.T.length ∧ o.T.getD i 0 = a
            · rw [if_pos hf] at ht1
              have hii : (i : Int) + 1 = (t : Int) + 1 := by omega
              have hdf : decide (i < o.T.length ∧ o.T.getD i 0 = a) = true := decide_eq_true hf
              rw [hdf]
              repeat' first | simp (config := { maxSteps := 2000000 }) (disch := first | omega | (repeat first | assumption | exact Kept.refl _ | refine Kept.set' (by assumption) ?_ ?_ | refine Kept.set (by assumption) ?_ ?_ | omega)) only [go_sem, *, Try.results33, plc, Nat.reduceLT, Nat.reduceAdd, Nat.reduceMul, Nat.reduceSub, Nat.reduceEqDiff, Nat.reduceLeDiff, Int.reduceToNat, Int.reduceLT, Int.reduceLE, Int.reduceEq, Int.reduceNe, Int.reduceAdd, Int.reduceSub, Int.reduceMul, Int.reduceNeg, ↓reduceIte, reduceCtorEq] | (apply EvG_ndec <;> intro _) | (apply EvC_ndec <;> intro _) | (apply EvG_dec <;> intro _) | (apply EvC_dec <;> intro _) | refine EvK_draw (id := 13) (L := [(0, 2), (1, 2), (0, 3), (1, 3), (2, 3), (0, 4), (1, 4), (2, 4), (0, 5), (1, 5), (0, 6), (1, 6), (2, 6), (3, 6), (4, 6), (5, 6), (0, 7), (1, 7), (2, 7), (3, 7), (4, 7), (5, 7), (6, 7), (0, 8), (1, 8), (2, 8), (3, 8), (4, 8), (5, 8), (6, 8), (0, 9), (1, 9), (2, 9), (3, 9), (4, 9), (5, 9), (0, 11), (1, 11), (2, 11), (3, 11), (4, 11), (5, 11), (6, 11), (7, 11), (8, 11), (9, 11), (10, 11)]) (by kernel_rfl) (by kernel_rfl) ?_ | (apply EvH_ndec <;> intro _) | (apply EvH_dec <;> intro _) | (apply EvC_nbool <;> intro _) | (apply EvC_bool <;> intro _) | (apply EvG_nbool <;> intro _) | (apply EvG_bool <;> intro _) | (apply EvH_nbool <;> intro _) | (apply EvH_bool <;> intro _)
              exact fun i hi => by rw [heap_ne (by omega)]; exact hfr i hi
            · rw [if_neg hf] at ht1
              have hii : (i : Int) = (t : Int) + 1 := by omega
              have hdf : decide (i < o.T.length ∧ o.T.getD i 0 = a) = false := decide_eq_false hf
              rw [hdf, hii]
              repeat' first | simp (config := { maxSteps := 2000000 }) (disch := first | omega | (repeat first | assumption | exact Kept.refl _ | refine Kept.set' (by assumption) ?_ ?_ | refine Kept.set (by assumption) ?_ ?_ | omega)) only [go_sem, *, Try.results33, plc, Nat.reduceLT, Nat.reduceAdd, Nat.reduceMul, Nat.reduceSub, Nat.reduceEqDiff, Nat.reduceLeDiff, Int.reduceToNat, Int.reduceLT, Int.reduceLE, Int.reduceEq, Int.reduceNe, Int.reduceAdd, Int.reduceSub, Int.reduceMul, Int.reduceNeg, ↓reduceIte, reduceCtorEq] | (apply EvG_ndec <;> intro _) | (apply EvC_ndec <;> intro _) | (apply EvG_dec <;> intro _) | (apply EvC_dec <;> intro _) | refine EvK_draw (id := 13) (L := [(0, 2), (1, 2), (0, 3), (1, 3), (2, 3), (0, 4), (1, 4), (2, 4), (0, 5), (1, 5), (0, 6), (1, 6), (2, 6), (3, 6), (4, 6), (5, 6), (0, 7), (1, 7), (2, 7), (3, 7), (4, 7), (5, 7), (6, 7), (0, 8), (1, 8), (2, 8), (3, 8), (4, 8), (5, 8), (6, 8), (0, 9), (1, 9), (2, 9), (3, 9), (4, 9), (5, 9), (0, 11), (1, 11), (2, 11), (3, 11), (4, 11), (5, 11), (6, 11), (7, 11), (8, 11), (9, 11), (10, 11)]) (by kernel_rfl) (by kernel_rfl) ?_ | (apply EvH_ndec <;> intro _) | (apply EvH_dec <;> intro _) | (apply EvC_nbool <;> intro _) | (apply EvC_bool <;> intro _) | (apply EvG_nbool <;> intro _) | (apply EvG_bool <;> intro _) | (apply EvH_nbool <;> intro _) | (apply EvH_bool <;> intro _)
              exact fun i hi => by rw [heap_ne (by omega)]; exact hfr i hi
          · refine EvB_run (N := 102) Try.func33 rfl rfl fun z hP hO hro hN hQ => ?_
            repeat' first | simp (config := { maxSteps := 2000000 }) (disch := first | omega | (repeat first | assumption | exact Kept.refl _ | refine Kept.set' (by assumption) ?_ ?_ | refine Kept.set (by assumption) ?_ ?_ | omega)) only [go_sem, *, Try.results33, plc, withinS, Nat.reduceLT, Nat.reduceAdd, Nat.reduceMul, Nat.reduceSub, Nat.reduceEqDiff, Nat.reduceLeDiff, Int.reduceToNat, Int.reduceLT, Int.reduceLE, Int.reduceEq, Int.reduceNe, Int.reduceAdd, Int.reduceSub, Int.reduceMul, Int.reduceNeg, ↓reduceIte, reduceCtorEq] | (apply EvG_ndec <;> intro _) | (apply EvC_ndec <;> intro _) | (apply EvG_dec <;> intro _) | (apply EvC_dec <;> intro _) | refine EvK_draw (id := 13) (L := [(0, 2), (1, 2), (0, 3), (1, 3), (2, 3), (0, 4), (1, 4), (2, 4), (0, 5), (1, 5), (0, 6), (1, 6), (2, 6), (3, 6), (4, 6), (5, 6), (0, 7), (1, 7), (2, 7), (3, 7), (4, 7), (5, 7), (6, 7), (0, 8), (1, 8), (2, 8), (3, 8), (4, 8), (5, 8), (6, 8), (0, 9), (1, 9), (2, 9), (3, 9), (4, 9), (5, 9), (0, 11), (1, 11), (2, 11), (3, 11), (4, 11), (5, 11), (6, 11), (7, 11), (8, 11), (9, 11), (10, 11)]) (by kernel_rfl) (by kernel_rfl) ?_ | (apply EvH_ndec <;> intro _) | (apply EvH_dec <;> intro _) | (apply EvC_nbool <;> intro _) | (apply EvC_bool <;> intro _) | (apply EvG_nbool <;> intro _) | (apply EvG_bool <;> intro _) | (apply EvH_nbool <;> intro _) | (apply EvH_bool <;> intro _)
            refine ind_loop (fun t m h' n' => ∃ i : Nat, i ≤ o.G.length ∧ t = o.G.length - i ∧ m.n = 102 ∧ m.dfs = [] ∧ m.get 1 = .int .i64 a ∧ m.get 4 = .pointer (some ⟨N, 0, none⟩) ∧ m.get 59 = .slice (some ⟨gb, 0, none⟩) o.G.length c ∧ m.get 60 = .int .i64 o.G.length ∧ m.get 61 = .int .i64 i ∧ WfH h' n' ∧ N + 1 ≤ n' ∧ (∀ i, i < N → h'.get i = h.get i) ∧ h'.get N = some (.cells (PT.ofList .leaf 0 [.int .u8 0, .int .i64 0, .int .i64 0]) false) ∧ ofA o a = gOf (o.G.drop i) a) o.G.length ?_ ?_
            · refine ⟨0, by omega, by omega, ?_⟩
              simp (config := { maxSteps := 2000000 }) (disch := first | omega | (repeat first | assumption | exact Kept.refl _ | refine Kept.set' (by assumption) ?_ ?_ | refine Kept.set (by assumption) ?_ ?_ | omega)) only [go_sem, *, Nat.reduceLT, Nat.reduceAdd, Nat.reduceMul, Nat.reduceSub, Nat.reduceEqDiff, Nat.reduceLeDiff, Int.reduceToNat, Int.reduceLT, Int.reduceLE, Int.reduceEq, Int.reduceNe, Int.reduceAdd, Int.reduceSub, Int.reduceMul, Int.reduceNeg, ↓reduceIte, reduceCtorEq]
              exact ⟨hW.set (by omega) (by omega), Nat.le_refl _, fun i hi => heap_ne (by omega), by unfold ofA ofL; rw [if_neg (by omega), if_neg g5]⟩
            · rintro t m h' n' ih ⟨i, hi, rfl, m1, m2, m3, m4, m5, m6, m7, q1, q2, q3, q4, q5⟩
              have hbk : Kept h h' := fun i B e => by rw [q3 i (hlt i B e)]; exact e
              have hb2 := hbk _ _ hb
              have hg2 := hbk _ _ hg
              have hNn := q1.lt q4
              rcases Nat.lt_or_ge i o.G.length with hil | hge
              · have e7 : (i : Int) < o.G.length := by omega
                rw [gOf_drop hil] at q5
                have hgk := hk.G _ (List.getElem_mem hil)
                obtain ⟨⟨k', f', m', w'⟩, hwi⟩ : ∃ w, o.G[i] = w := ⟨_, rfl⟩
                rw [hwi] at q5 hgk
                simp only at q5 hgk
                obtain ⟨k1, k2, k3, k4⟩ := hgk
                have hmw := mul_bound k3 k4
                have hrow : ((grpCs o.G).drop (i * 4)).take 4 = [.int .u8 k', .int .i64 f', .int .i64 m', .int .i64 w'] := by
                  rw [grpCs_drop, List.drop_eq_getElem_cons hil, hwi]; simp [grpCs, grpC]
                have hpl : (grpCs o.G).length = o.G.length * 4 := grpCs_length o.G
                have hlG := hk.lenG
                clear hbk hb2 hg2 hk hA hT
                by_cases c1 : 0 < w'
                · by_cases c2 : a - f' < m' * w'
                  · rw [if_pos ⟨c1, c2⟩] at q5
                    have hw0 : ¬ w' = 0 := by omega
                    obtain ⟨d1, d2⟩ := tdiv_bound (x := a - f') (w := w') (by omega) (by omega)
                    by_cases c3 : k' = 7
                    · rw [if_pos c3] at q5
                      subst c3
                      repeat' first | simp (config := { maxSteps := 2000000 }) (disch := first | omega | (repeat first | assumption | exact Kept.refl _ | refine Kept.set' (by assumption) ?_ ?_ | refine Kept.set (by assumption) ?_ ?_ | omega)) only [go_sem, *, Try.results33, plc, Nat.reduceLT, Nat.reduceAdd, Nat.reduceMul, Nat.reduceSub, Nat.reduceEqDiff, Nat.reduceLeDiff, Int.reduceToNat, Int.reduceLT, Int.reduceLE, Int.reduceEq, Int.reduceNe, Int.reduceAdd, Int.reduceSub, Int.reduceMul, Int.reduceNeg, ↓reduceIte, reduceCtorEq] | (apply EvG_ndec <;> intro _) | (apply EvC_ndec <;> intro _) | (apply EvG_dec <;> intro _) | (apply EvC_dec <;> intro _) | refine EvK_draw (id := 13) (L := [(0, 2), (1, 2), (0, 3), (1, 3), (2, 3), (0, 4), (1, 4), (2, 4), (0, 5), (1, 5), (0, 6), (1, 6), (2, 6), (3, 6), (4, 6), (5, 6), (0, 7), (1, 7), (2, 7), (3, 7), (4, 7), (5, 7), (6, 7), (0, 8), (1, 8), (2, 8), (3, 8), (4, 8), (5, 8), (6, 8), (0, 9), (1, 9), (2, 9), (3, 9), (4, 9), (5, 9), (0, 11), (1, 11), (2, 11), (3, 11), (4, 11), (5, 11), (6, 11), (7, 11), (8, 11), (9, 11), (10, 11)]) (by kernel_rfl) (by kernel_rfl) ?_ | (apply EvH_ndec <;> intro _) | (apply EvH_dec <;> intro _) | (apply EvC_nbool <;> intro _) | (apply EvC_bool <;> intro _) | (apply EvG_nbool <;> intro _) | (apply EvG_bool <;> intro _) | (apply EvH_nbool <;> intro _) | (apply EvH_bool <;> intro _)
                      exact fun i hi => by simp (disch := omega) only [heap_ne]; exact q3 i hi
                    · rw [if_neg c3] at q5
                      repeat' first | simp (config := { maxSteps := 2000000 }) (disch := first | omega | (repeat first | assumption | exact Kept.refl _ | refine Kept.set' (by assumption) ?_ ?_ | refine Kept.set (by assumption) ?_ ?_ | omega)) only [go_sem, *, Try.results33, plc, Nat.reduceLT, Nat.reduceAdd, Nat.reduceMul, Nat.reduceSub, Nat.reduceEqDiff, Nat.reduceLeDiff, Int.reduceToNat, Int.reduceLT, Int.reduceLE, Int.reduceEq, Int.reduceNe, Int.reduceAdd, Int.reduceSub, Int.reduceMul, Int.reduceNeg, ↓reduceIte, reduceCtorEq] | (apply EvG_ndec <;> intro _) | (apply EvC_ndec <;> intro _) | (apply EvG_dec <;> intro _) | (apply EvC_dec <;> intro _) | refine EvK_draw (id := 13) (L := [(0, 2), (1, 2), (0, 3), (1, 3), (2, 3), (0, 4), (1, 4), (2, 4), (0, 5), (1, 5), (0, 6), (1, 6), (2, 6), (3, 6), (4, 6), (5, 6), (0, 7), (1, 7), (2, 7), (3, 7), (4, 7), (5, 7), (6, 7), (0, 8), (1, 8), (2, 8), (3, 8), (4, 8), (5, 8), (6, 8), (0, 9), (1, 9), (2, 9), (3, 9), (4, 9), (5, 9), (0, 11), (1, 11), (2, 11), (3, 11), (4, 11), (5, 11), (6, 11), (7, 11), (8, 11), (9, 11), (10, 11)]) (by kernel_rfl) (by kernel_rfl) ?_ | (apply EvH_ndec <;> intro _) | (apply EvH_dec <;> intro _) | (apply EvC_nbool <;> intro _) | (apply EvC_bool <;> intro _) | (apply EvG_nbool <;> intro _) | (apply EvG_bool <;> intro _) | (apply EvH_nbool <;> intro _) | (apply EvH_bool <;> intro _)
                      exact fun i hi => by simp (disch := omega) only [heap_ne]; exact q3 i hi
                  · rw [if_neg (fun q => c2 q.2)] at q5
                    repeat' first | simp (config := { maxSteps := 2000000 }) (disch := first | omega | (repeat first | assumption | exact Kept.refl _ | refine Kept.set' (by assumption) ?_ ?_ | refine Kept.set (by assumption) ?_ ?_ | omega)) only [go_sem, *, Try.results33, plc, Nat.reduceLT, Nat.reduceAdd, Nat.reduceMul, Nat.reduceSub, Nat.reduceEqDiff, Nat.reduceLeDiff, Int.reduceToNat, Int.reduceLT, Int.reduceLE, Int.reduceEq, Int.reduceNe, Int.reduceAdd, Int.reduceSub, Int.reduceMul, Int.reduceNeg, ↓reduceIte, reduceCtorEq] | (apply EvG_ndec <;> intro _) | (apply EvC_ndec <;> intro _) | (apply EvG_dec <;> intro _) | (apply EvC_dec <;> intro _) | refine EvK_draw (id := 13) (L := [(0, 2), (1, 2), (0, 3), (1, 3), (2, 3), (0, 4), (1, 4), (2, 4), (0, 5), (1, 5), (0, 6), (1, 6), (2, 6), (3, 6), (4, 6), (5, 6), (0, 7), (1, 7), (2, 7), (3, 7), (4, 7), (5, 7), (6, 7), (0, 8), (1, 8), (2, 8), (3, 8), (4, 8), (5, 8), (6, 8), (0, 9), (1, 9), (2, 9), (3, 9), (4, 9), (5, 9), (0, 11), (1, 11), (2, 11), (3, 11), (4, 11), (5, 11), (6, 11), (7, 11), (8, 11), (9, 11), (10, 11)]) (by kernel_rfl) (by kernel_rfl) ?_ | (apply EvH_ndec <;> intro _) | (apply EvH_dec <;> intro _) | (apply EvC_nbool <;> intro _) | (apply EvC_bool <;> intro _) | (apply EvG_nbool <;> intro _) | (apply EvG_bool <;> intro _) | (apply EvH_nbool <;> intro _) | (apply EvH_bool <;> intro _)
                    refine ih (o.G.length - (i + 1)) _ _ _ (by omega) ⟨i + 1, by omega, rfl, ?_⟩
                    have hci : ((i + 1 : Nat) : Int) = (i : Int) + 1 := by omega
                    rw [hci]
                    simp (config := { maxSteps := 2000000 }) (disch := first | omega | (repeat first | assumption | exact Kept.refl _ | refine Kept.set' (by assumption) ?_ ?_ | refine Kept.set (by assumption) ?_ ?_ | omega)) only [go_sem, *, Nat.reduceLT, Nat.reduceAdd, Nat.reduceMul, Nat.reduceSub, Nat.reduceEqDiff, Nat.reduceLeDiff, Int.reduceToNat, Int.reduceLT, Int.reduceLE, Int.reduceEq, Int.reduceNe, Int.reduceAdd, Int.reduceSub, Int.reduceMul, Int.reduceNeg, ↓reduceIte, reduceCtorEq]
                    exact ⟨WfH.set' (by omega) (q1.set (Nat.le_succ _) (Nat.lt_succ_self _)), by omega, fun i hi => by simp (disch := omega) only [heap_ne]; exact q3 i hi⟩
                · rw [if_neg (fun q => c1 q.1)] at q5
                  repeat' first | simp (config := { maxSteps := 2000000 }) (disch := first | omega | (repeat first | assumption | exact Kept.refl _ | refine Kept.set' (by assumption) ?_ ?_ | refine Kept.set (by assumption) ?_ ?_ | omega)) only [go_sem, *, Try.results33, plc, Nat.reduceLT, Nat.reduceAdd, Nat.reduceMul, Nat.reduceSub, Nat.reduceEqDiff, Nat.reduceLeDiff, Int.reduceToNat, Int.reduceLT, Int.reduceLE, Int.reduceEq, Int.reduceNe, Int.reduceAdd, Int.reduceSub, Int.reduceMul, Int.reduceNeg, ↓reduceIte, reduceCtorEq] | (apply EvG_ndec <;> intro _) | (apply EvC_ndec <;> intro _) | (apply EvG_dec <;> intro _) | (apply EvC_dec <;> intro _) | refine EvK_draw (id := 13) (L := [(0, 2), (1, 2), (0, 3), (1, 3), (2, 3), (0, 4), (1, 4), (2, 4), (0, 5), (1, 5), (0, 6), (1, 6), (2, 6), (3, 6), (4, 6), (5, 6), (0, 7), (1, 7), (2, 7), (3, 7), (4, 7), (5, 7), (6, 7), (0, 8), (1, 8), (2, 8), (3, 8), (4, 8), (5, 8), (6, 8), (0, 9), (1, 9), (2, 9), (3, 9), (4, 9), (5, 9), (0, 11), (1, 11), (2, 11), (3, 11), (4, 11), (5, 11), (6, 11), (7, 11), (8, 11), (9, 11), (10, 11)]) (by kernel_rfl) (by kernel_rfl) ?_ | (apply EvH_ndec <;> intro _) | (apply EvH_dec <;> intro _) | (apply EvC_nbool <;> intro _) | (apply EvC_bool <;> intro _) | (apply EvG_nbool <;> intro _) | (apply EvG_bool <;> intro _) | (apply EvH_nbool <;> intro _) | (apply EvH_bool <;> intro _)
                  refine ih (o.G.length - (i + 1)) _ _ _ (by omega) ⟨i + 1, by omega, rfl, ?_⟩
                  have hci : ((i + 1 : Nat) : Int) = (i : Int) + 1 := by omega
                  rw [hci]
                  simp (config := { maxSteps := 2000000 }) (disch := first | omega | (repeat first | assumption | exact Kept.refl _ | refine Kept.set' (by assumption) ?_ ?_ | refine Kept.set (by assumption) ?_ ?_ | omega)) only [go_sem, *, Nat.reduceLT, Nat.reduceAdd, Nat.reduceMul, Nat.reduceSub, Nat.reduceEqDiff, Nat.reduceLeDiff, Int.reduceToNat, Int.reduceLT, Int.reduceLE, Int.reduceEq, Int.reduceNe, Int.reduceAdd, Int.reduceSub, Int.reduceMul, Int.reduceNeg, ↓reduceIte, reduceCtorEq]
                  exact ⟨WfH.set' (by omega) (q1.set (Nat.le_succ _) (Nat.lt_succ_self _)), by omega, fun i hi => by simp (disch := omega) only [heap_ne]; exact q3 i hi⟩
              · have e7 : ¬ (i : Int) < o.G.length := by omega
                rw [List.drop_eq_nil_of_le hge] at q5
                clear hbk hb2 hg2 hk hA hT
                repeat' first | simp (config := { maxSteps := 2000000 }) (disch := first | omega | (repeat first | assumption | exact Kept.refl _ | refine Kept.set' (by assumption) ?_ ?_ | refine Kept.set (by assumption) ?_ ?_ | omega)) only [go_sem, *, Try.results33, gOf, plc, Nat.reduceLT, Nat.reduceAdd, Nat.reduceMul, Nat.reduceSub, Nat.reduceEqDiff, Nat.reduceLeDiff, Int.reduceToNat, Int.reduceLT, Int.reduceLE, Int.reduceEq, Int.reduceNe, Int.reduceAdd, Int.reduceSub, Int.reduceMul, Int.reduceNeg, ↓reduceIte, reduceCtorEq] | (apply EvG_ndec <;> intro _) | (apply EvC_ndec <;> intro _) | (apply EvG_dec <;> intro _) | (apply EvC_dec <;> intro _) | refine EvK_draw (id := 13) (L := [(0, 2), (1, 2), (0, 3), (1, 3), (2, 3), (0, 4), (1, 4), (2, 4), (0, 5), (1, 5), (0, 6), (1, 6), (2, 6), (3, 6), (4, 6), (5, 6), (0, 7), (1, 7), (2, 7), (3, 7), (4, 7), (5, 7), (6, 7), (0, 8), (1, 8), (2, 8), (3, 8), (4, 8), (5, 8), (6, 8), (0, 9), (1, 9), (2, 9), (3, 9), (4, 9), (5, 9), (0, 11), (1, 11), (2, 11), (3, 11), (4, 11), (5, 11), (6, 11), (7, 11), (8, 11), (9, 11), (10, 11)]) (by kernel_rfl) (by kernel_rfl) ?_ | (apply EvH_ndec <;> intro _) | (apply EvH_dec <;> intro _) | (apply EvC_nbool <;> intro _) | (apply EvC_bool <;> intro _) | (apply EvG_nbool <;> intro _) | (apply EvG_bool <;> intro _) | (apply EvH_nbool <;> intro _) | (apply EvH_bool <;> intro _)
                exact fun i hi => by rw [heap_ne (by omega)]; exact q3 i hi
    · simp at hm
end Go.Proofs.Ytakfjoelpploeaa

set_option linter.unusedVariables false
set_option linter.unusedSimpArgs false
namespace Go.Proofs.Ytakfjoelpploeaa
open Go.Am

theorem adrEnd_le : ∀ (H : List Int) (b : Int), (∀ j, j < H.length → 1 ≤ H.getD j 0 ∧ H.getD j 0 ≤ 6) → b ≤ adrEnd b H ∧ adrEnd b H ≤ b + 11 * (H.length : Int)
  | [], b, _ => by simp [adrEnd]
  | x :: r, b, h => by
    have hx := h 0 (by simp)
    simp only [List.getD_cons_zero] at hx
    have := adrEnd_le r (b + (5 + x)) fun j hj => by have := h (j + 1) (by simpa using hj); simpa using this
    simp only [adrEnd, List.length_cons]; omega
theorem adr_lt : ∀ (H : List Int) (b : Int) (i j : Nat), (∀ j, j < H.length → 1 ≤ H.getD j 0 ∧ H.getD j 0 ≤ 6) → i < j → j < H.length → (adr b H).getD i 0 < (adr b H).getD j 0
  | [], b, i, j, _, _, hj => by simp at hj
  | x :: r, b, i, 0, _, h1, _ => by omega
  | x :: r, b, 0, j + 1, h, _, hj => by
    have hx := h 0 (by simp)
    simp only [List.getD_cons_zero] at hx
    have := adr_le r (b + (5 + x)) j (by simpa using hj) fun j hj => by have := h (j + 1) (by simpa using hj); simpa using this
    simp only [adr, List.getD_cons_zero, List.getD_cons_succ]; omega
  | x :: r, b, i + 1, j + 1, h, h1, hj => by
    have := adr_lt r (b + (5 + x)) i j (fun j hj => by have := h (j + 1) (by simpa using hj); simpa using this) (by omega) (by simpa using hj)
    simp only [adr, List.getD_cons_succ]; exact this
theorem what_len9 {sl en bu lo V : Int} {H : List Int} (h1 : 0 ≤ sl) (h2 : 0 ≤ engW en sl bu) (h3 : 0 ≤ lo) (h4 : 0 ≤ V) (hb : ∀ j, j < H.length → 1 ≤ H.getD j 0 ∧ H.getD j 0 ≤ 6) : ((whatOf sl en bu lo V H).length : Int) = adrEnd (p7Of sl en bu lo H + V * 7) H := by
  have hall : ∀ x ∈ gList sl en bu lo V H, 0 ≤ x.2.1 ∧ 0 ≤ x.2.2 := by
    intro x hx
    simp only [gList, List.mem_cons, List.not_mem_nil, or_false] at hx
    rcases hx with rfl | rfl | rfl | rfl | rfl | rfl | rfl | rfl <;> simp only <;> omega
  have hg : ((gWds (gList sl en bu lo V H)).length : Int) = p7Of sl en bu lo H + V * 7 := by
    have := gWds_length (gList sl en bu lo V H) 0 hall
    rw [Int.zero_add] at this
    rw [this]
    rfl
  rw [whatOf_eq, List.length_append, Int.natCast_add, hg]
  exact twrs_length H 1 _ fun j hj => (hb j hj).1
theorem hts_at {ts : List Int} {j : Nat} (h : ts.length = 6) (hj : j < (hts 1 ts).length) : 1 ≤ (hts 1 ts).getD j 0 ∧ (hts 1 ts).getD j 0 ≤ 6 := by
  have hm : (hts 1 ts).getD j 0 ∈ hts 1 ts := by
    rw [List.getD_eq_getElem?_getD, List.getElem?_eq_getElem hj]
    exact List.getElem_mem hj
  exact hts_bound ts 1 1 6 (by omega) (by omega) _ hm
def ofNew (sl en bu lo V : Int) (H : List Int) : OfV := ⟨p7Of sl en bu lo H + V * 7, adrEnd (p7Of sl en bu lo H + V * 7) H, gTab 0 (gList sl en bu lo V H), adr (p7Of sl en bu lo H + V * 7) H⟩
theorem ofNew_ok {sl en bu lo V : Int} {H : List Int} (hs : 1 ≤ sl ∧ sl ≤ 64) (he : 0 ≤ engW en sl bu ∧ engW en sl bu ≤ 200) (hl : 1 ≤ lo ∧ lo ≤ 16) (hV : 0 ≤ V ∧ V ≤ 64) (hp : 12 ≤ p7Of sl en bu lo H ∧ p7Of sl en bu lo H ≤ 2000) (hn : H.length ≤ 1024) (hb : ∀ j, j < H.length → 1 ≤ H.getD j 0 ∧ H.getD j 0 ≤ 6) : OfOk (ofNew sl en bu lo V H) := by
  have he2 := adrEnd_le H (p7Of sl en bu lo H + V * 7) hb
  refine ⟨?_, ?_, ?_, ?_, ?_, ?_, ?_, ?_, ?_⟩
  · simp only [ofNew]; omega
  · simp only [ofNew]; omega
  · intro g hg
    simp only [ofNew, gTab_eq, List.mem_cons, List.not_mem_nil, or_false] at hg
    rcases hg with rfl | rfl | rfl | rfl | rfl | rfl | rfl | rfl <;> simp only <;> omega
  · simp only [ofNew, gTab_eq, List.length_cons, List.length_nil]; omega
  · simp only [ofNew, adr_length]; omega
  · intro i hi
    simp only [ofNew, adr_length] at hi ⊢
    have := adr_le H (p7Of sl en bu lo H + V * 7) i hi hb
    omega
  · intro i j hij hj
    simp only [ofNew, adr_length] at hj ⊢
    rcases Nat.lt_or_eq_of_le hij with q | q
    · have := adr_lt H (p7Of sl en bu lo H + V * 7) i j hb q hj
      omega
    · subst q; omega
  · intro i j hij hj
    simp only [ofNew, adr_length] at hj ⊢
    exact adr_lt H (p7Of sl en bu lo H + V * 7) i j hb hij hj
  · intro h
    simp only [ofNew, adr_length] at h ⊢
    cases H with
    | nil => simp [adrEnd] at h
    | cons x r => exact ⟨by simp, by simp [adr]⟩
theorem ofA_same {sl en bu lo V : Int} {H : List Int} (h1 : 0 ≤ sl) (h2 : 0 ≤ engW en sl bu) (h3 : 0 ≤ lo) (h4 : 0 ≤ V) (hb : ∀ j, j < H.length → 1 ≤ H.getD j 0 ∧ H.getD j 0 ≤ 6) (a : Int) : ofA (ofNew sl en bu lo V H) a = ofR (whatOf sl en bu lo V H) a := of_same h1 h2 h3 h4 hb

theorem ne63 (x y : Int × Int × Int) (cx cy : Bool) : binV Try.prog .neq 63 cx cy (.agg ⟨plc x⟩) (.agg ⟨plc y⟩) = .pure (.value (.bool (!decide (x = y)))) := by
  have h := aEqual63 x y
  simp only [binV, aBinOp, eqGuardOk, guard63, Bool.not_false, cond_true, h, eqPlc_eq, AP.bind]
theorem ndec_self {x : Int} : decide (x ≠ x) = false := by simp
end Go.Proofs.Ytakfjoelpploeaa

set_option linter.unusedVariables false
set_option linter.unusedSimpArgs false
namespace Go.Proofs.Ytakfjoelpploeaa
open Go.Am

theorem cntL_len : ∀ (T : List Int) (a : Int), cntL T a ≤ T.length
  | [], a => by simp [cntL]
  | x :: r, a => by
    have := cntL_len r a
    rw [cntL]
    split
    · simp only [List.length_cons]; omega
    · omega
theorem cntL_le : ∀ (T : List Int) (a : Int), 1 ≤ cntL T a → T.getD (cntL T a - 1) 0 ≤ a
  | [], a, h => by simp [cntL] at h
  | x :: r, a, h => by
    rw [cntL] at h ⊢
    split
    · rename_i hx
      rcases Nat.eq_zero_or_pos (cntL r a) with q | q
      · rw [q]; simpa using hx
      · have := cntL_le r a q
        rw [show cntL r a + 1 - 1 = (cntL r a - 1) + 1 by omega, List.getD_cons_succ]
        exact this
    · rename_i hx; rw [if_neg hx] at h; omega
/-- Where a place leads back to. -/
structure BackOk (sl en bu lo V : Int) (H : List Int) (a : Int) (x : Int × Int × Int) : Prop where
  k1 : x.1 = 1 → x.2.1 = a
  k2 : x.1 = 2 → 0 + sl * 1 + x.2.2 = a
  k3 : x.1 = 3 → 0 + sl * 1 + 1 * engW en sl bu = a
  k4 : x.1 = 4 → 0 + sl * 1 + 1 * engW en sl bu + 1 + 3 * x.2.1 + x.2.2 = a
  k5 : x.1 = 5 → 0 + sl * 1 + 1 * engW en sl bu + 1 + lo * 3 + x.2.1 = a
  k6 : x.1 = 6 → 0 + sl * 1 + 1 * engW en sl bu + 1 + lo * 3 + lo * 1 + x.2.1 = a
  k7 : x.1 = 7 → 0 + sl * 1 + 1 * engW en sl bu + 1 + lo * 3 + lo * 1 + 6 + x.2.1 - 1 = a
  k8 : x.1 = 8 → (0 ≤ x.2.1 ∧ x.2.1 < V) ∧ (0 ≤ x.2.2 ∧ x.2.2 < 7) ∧ p7Of sl en bu lo H + x.2.1 * 7 + x.2.2 = a
  k9 : x.1 = 9 → (1 ≤ x.2.1 ∧ x.2.1 ≤ H.length) ∧ (0 ≤ x.2.2 ∧ x.2.2 < 5 + H.getD (x.2.1 - 1).toNat 0) ∧ (adr (p7Of sl en bu lo H + V * 7) H).getD (x.2.1 - 1).toNat 0 + x.2.2 = a
  kind : 1 ≤ x.1 ∧ x.1 ≤ 9
  small : (-1000000 ≤ x.2.1 ∧ x.2.1 ≤ 1000000) ∧ (-1000000 ≤ x.2.2 ∧ x.2.2 ≤ 1000000)

theorem tdm {x w : Int} (h0 : 0 ≤ x) (hw : 0 < w) : w * x.tdiv w + x.tmod w = x ∧ 0 ≤ x.tdiv w ∧ x.tdiv w ≤ x ∧ 0 ≤ x.tmod w ∧ x.tmod w < w := by
  refine ⟨Int.mul_tdiv_add_tmod x w, Int.tdiv_nonneg h0 (by omega), ?_, Int.tmod_nonneg _ h0, Int.tmod_lt_of_pos _ hw⟩
  rw [Int.tdiv_eq_ediv_of_nonneg h0]
  exact Int.ediv_le_self _ h0

set_option maxHeartbeats 1000000 in
theorem back_ok {sl en bu lo V a : Int} {H : List Int} (hs : 1 ≤ sl ∧ sl ≤ 64) (he : 0 ≤ engW en sl bu ∧ engW en sl bu ≤ 200) (hl : 1 ≤ lo ∧ lo ≤ 16) (hV : 0 ≤ V ∧ V ≤ 64) (hn : H.length ≤ 1024) (hb : ∀ j, j < H.length → 1 ≤ H.getD j 0 ∧ H.getD j 0 ≤ 6) (h0 : 0 ≤ a) (h1 : a < adrEnd (p7Of sl en bu lo H + V * 7) H) :
    BackOk sl en bu lo V H a (ofA (ofNew sl en bu lo V H) a) := by
  have he2 := adrEnd_le H (p7Of sl en bu lo H + V * 7) hb
  have hp7 : p7Of sl en bu lo H = 0 + sl * 1 + 1 * engW en sl bu + 1 + lo * 3 + lo * 1 + 6 + (H.length : Int) * 1 := rfl
  unfold ofA ofL ofNew
  simp only
  rw [if_neg (by omega)]
  by_cases ht : p7Of sl en bu lo H + V * 7 ≤ a
  · rw [if_pos ht]
    obtain ⟨e, hc⟩ := twrs_at H 1 _ a (fun j hj => (hb j hj).1) ht h1
    have hw := twrs_word H 1 _ (List.mem_of_getElem? e) fun j hj => (hb j hj).1
    have hle := cntL_le _ _ hc
    have hlen := cntL_len (adr (p7Of sl en bu lo H + V * 7) H) a
    rw [adr_length] at hlen
    have hal := adr_le H (p7Of sl en bu lo H + V * 7) (cntL (adr (p7Of sl en bu lo H + V * 7) H) a - 1) (by omega) hb
    generalize cntL (adr (p7Of sl en bu lo H + V * 7) H) a = c at *
    simp only at hw
    have e1 : ((c : Int) - 1).toNat = c - 1 := by omega
    have e2 : (1 - 1 + (c : Int) - 1).toNat = c - 1 := by omega
    rw [e2] at hw
    have hbc := hb (c - 1) (by omega)
    refine ⟨fun q => by simp at q, fun q => by simp at q, fun q => by simp at q, fun q => by simp at q, fun q => by simp at q, fun q => by simp at q, fun q => by simp at q, fun q => by simp at q, fun _ => ?_, by simp, ?_⟩
    · simp only [e1]; omega
    · simp only; omega
  · rw [if_neg ht, gTab_eq]
    have t1 : ∀ x : Int, x.tdiv 1 = x ∧ x.tmod 1 = 0 := fun x => ⟨Int.tdiv_one x, Int.tmod_one x⟩
    by_cases c1 : a - 0 < sl * 1
    · rw [gOf, if_pos ⟨by omega, c1⟩]
      simp only [t1]
      exact ⟨by simp, by simp, by simp, by simp, by simp, by simp, by simp, by simp, by simp, (by dsimp only; omega), (by dsimp only; omega)⟩
    rw [gOf, if_neg (fun q => c1 q.2)]
    by_cases c2 : a - (0 + sl * 1) < 1 * engW en sl bu
    · rw [gOf, if_pos ⟨by omega, c2⟩]
      have hd := tdm (x := a - (0 + sl * 1)) (w := engW en sl bu) (by omega) (by omega)
      have hm : (a - (0 + sl * 1)).tmod (engW en sl bu) = a - (0 + sl * 1) := Int.tmod_eq_of_lt (by omega) (by omega)
      rw [hm] at hd ⊢
      exact ⟨by simp, (fun _ => by dsimp only; omega), by simp, by simp, by simp, by simp, by simp, by simp, by simp, (by dsimp only; omega), (by dsimp only; omega)⟩
    rw [gOf, if_neg (fun q => c2 q.2)]
    by_cases c3 : a - (0 + sl * 1 + 1 * engW en sl bu) < 1 * 1
    · rw [gOf, if_pos ⟨by omega, c3⟩]
      simp only [t1]
      exact ⟨by simp, by simp, (fun _ => by omega), by simp, by simp, by simp, by simp, by simp, by simp, (by dsimp only; omega), (by dsimp only; omega)⟩
    rw [gOf, if_neg (fun q => c3 q.2)]
    by_cases c4 : a - (0 + sl * 1 + 1 * engW en sl bu + 1) < lo * 3
    · rw [gOf, if_pos ⟨by omega, c4⟩]
      have hd := tdm (x := a - (0 + sl * 1 + 1 * engW en sl bu + 1)) (w := 3) (by omega) (by omega)
      exact ⟨by simp, by simp, by simp, (fun _ => by dsimp only; omega), by simp, by simp, by simp, by simp, by simp, (by dsimp only; omega), (by dsimp only; omega)⟩
    rw [gOf, if_neg (fun q => c4 q.2)]
    by_cases c5 : a - (0 + sl * 1 + 1 * engW en sl bu + 1 + lo * 3) < lo * 1
    · rw [gOf, if_pos ⟨by omega, c5⟩]
      simp only [t1]
      exact ⟨by simp, by simp, by simp, by simp, (fun _ => by dsimp only; omega), by simp, by simp, by simp, by simp, (by dsimp only; omega), (by dsimp only; omega)⟩
    rw [gOf, if_neg (fun q => c5 q.2)]
    by_cases c6 : a - (0 + sl * 1 + 1 * engW en sl bu + 1 + lo * 3 + lo * 1) < 6 * 1
    · rw [gOf, if_pos ⟨by omega, c6⟩]
      simp only [t1]
      exact ⟨by simp, by simp, by simp, by simp, by simp, (fun _ => by dsimp only; omega), by simp, by simp, by simp, (by dsimp only; omega), (by dsimp only; omega)⟩
    rw [gOf, if_neg (fun q => c6 q.2)]
    by_cases c7 : a - (0 + sl * 1 + 1 * engW en sl bu + 1 + lo * 3 + lo * 1 + 6) < (H.length : Int) * 1
    · rw [gOf, if_pos ⟨by omega, c7⟩]
      simp only [t1, if_true]
      exact ⟨by simp, by simp, by simp, by simp, by simp, by simp, (fun _ => by dsimp only; omega), by simp, by simp, (by dsimp only; omega), (by dsimp only; omega)⟩
    rw [gOf, if_neg (fun q => c7 q.2)]
    have c8 : a - p7Of sl en bu lo H < V * 7 := by omega
    rw [gOf, if_pos ⟨by omega, c8⟩]
    have hd := tdm (x := a - p7Of sl en bu lo H) (w := 7) (by omega) (by omega)
    exact ⟨by simp, by simp, by simp, by simp, by simp, by simp, by simp, (fun _ => by dsimp only; omega), by simp, (by dsimp only; omega), (by dsimp only; omega)⟩

/-- Different addresses belong to different places. -/
theorem back_inj {sl en bu lo V a b : Int} {H : List Int} {x : Int × Int × Int} (ha : BackOk sl en bu lo V H a x) (hb : BackOk sl en bu lo V H b x) : a = b := by
  obtain ⟨h1, h2⟩ := ha.kind
  have hc : x.1 = 1 ∨ x.1 = 2 ∨ x.1 = 3 ∨ x.1 = 4 ∨ x.1 = 5 ∨ x.1 = 6 ∨ x.1 = 7 ∨ x.1 = 8 ∨ x.1 = 9 := by omega
  rcases hc with q | q | q | q | q | q | q | q | q
  · exact (ha.k1 q).symm.trans (hb.k1 q)
  · exact (ha.k2 q).symm.trans (hb.k2 q)
  · exact (ha.k3 q).symm.trans (hb.k3 q)
  · exact (ha.k4 q).symm.trans (hb.k4 q)
  · exact (ha.k5 q).symm.trans (hb.k5 q)
  · exact (ha.k6 q).symm.trans (hb.k6 q)
  · exact (ha.k7 q).symm.trans (hb.k7 q)
  · exact (ha.k8 q).2.2.symm.trans (hb.k8 q).2.2
  · exact (ha.k9 q).2.2.symm.trans (hb.k9 q).2.2

section
variable {l : LayV} {sl en bu lo V a : Int} {H : List Int} {x : Int × Int × Int} (hs : 1 ≤ sl ∧ sl ≤ 64) (he : 0 ≤ engW en sl bu ∧ engW en sl bu ≤ 200) (hl : 1 ≤ lo ∧ lo ≤ 16) (hV : 0 ≤ V ∧ V ≤ 64) (hn : H.length ≤ 1024) (hb : ∀ j, j < H.length → 1 ≤ H.getD j 0 ∧ H.getD j 0 ≤ 6)
  (hp : 12 ≤ p7Of sl en bu lo H ∧ p7Of sl en bu lo H ≤ 2000) (hH : l.H = H) (hT : l.T = adr (p7Of sl en bu lo H + V * 7) H) (hVl : l.V = V) (hP : l.P.getD 7 0 = p7Of sl en bu lo H) (hx : BackOk sl en bu lo V H a x)
include hs he hl hV hn hb hp hH hT hVl hP hx
theorem back_latch (hk : x.1 = 8) (hw : ¬ 0 < x.2.2) : latchV l (-1 - x.2.1) = .tuple ⟨[.int .i64 a, .int .i64 0]⟩ := by
  obtain ⟨⟨k1, k2⟩, ⟨k3, k4⟩, k5⟩ := hx.k8 hk
  rw [latch_same (by omega) he.1 (by omega) hV.1 hH hT hVl hP hb (by omega) (by omega) (by omega) (by omega)]
  have hwr : IntKind.i64.wrap (-1 - (-1 - x.2.1)) = x.2.1 := by rw [wrap_i64 (by omega) (by omega)]; omega
  unfold ltcR findV
  rw [if_neg (by omega), if_neg (by omega), hwr, fnd_what8 (by omega) he.1 (by omega) hV.1, if_pos (by omega)]
  simp only
  rw [show p7Of sl en bu lo H + x.2.1 * 7 + 0 = a by omega]
theorem back_next8 (hk : x.1 = 8) (hw : 0 < x.2.2) : nextV l (-1 - x.2.1) (x.2.2 - 1) = .tuple ⟨[.int .i64 a, .int .i64 0]⟩ := by
  obtain ⟨⟨k1, k2⟩, ⟨k3, k4⟩, k5⟩ := hx.k8 hk
  rw [next_same (by omega) he.1 (by omega) hV.1 hH hT hVl hP hb (by omega) (by omega) (by omega) (by omega)]
  have hwr : IntKind.i64.wrap (-1 - (-1 - x.2.1)) = x.2.1 := by rw [wrap_i64 (by omega) (by omega)]; omega
  unfold nxtR findV
  have c1 : ¬ ((x.2.2 - 1 < 0 ∨ 6 ≤ x.2.2 - 1) ∨ -1 - x.2.1 = 0) := by omega
  rw [if_neg c1, if_neg (by omega), hwr, fnd_what8 (by omega) he.1 (by omega) hV.1, if_pos (by omega)]
  simp only
  rw [show p7Of sl en bu lo H + x.2.1 * 7 + (1 + (x.2.2 - 1)) = a by omega]
theorem back_word (hk : x.1 = 9) (hw : ¬ 4 < x.2.2) : wordV l x.2.1 x.2.2 = .tuple ⟨[.int .i64 a, .int .i64 0]⟩ := by
  obtain ⟨⟨k1, k2⟩, ⟨k3, k4⟩, k5⟩ := hx.k9 hk
  rw [word_same (by omega) he.1 (by omega) hV.1 hH hT hb (by omega) (by omega)]
  unfold wrdR findV
  have hf := fnd_twrs_in H 1 (p7Of sl en bu lo H + V * 7) x.2.2 (x.2.1 - 1).toNat (by omega) k3 k4 fun j hj => (hb j hj).1
  rw [show (1 : Int) + ((x.2.1 - 1).toNat : Int) = x.2.1 by omega] at hf
  rw [if_neg (by omega), fnd_what9 (by omega) he.1 (by omega) hV.1, hf]
  simp only
  rw [k5]
theorem back_next9 (hk : x.1 = 9) (hw : 4 < x.2.2) : nextV l x.2.1 (x.2.2 - 5) = .tuple ⟨[.int .i64 a, .int .i64 0]⟩ := by
  obtain ⟨⟨k1, k2⟩, ⟨k3, k4⟩, k5⟩ := hx.k9 hk
  have hbx := hb (x.2.1 - 1).toNat (by omega)
  rw [next_same (by omega) he.1 (by omega) hV.1 hH hT hVl hP hb (by omega) (by omega) (by omega) (by omega)]
  unfold nxtR findV
  have hf := fnd_twrs_in H 1 (p7Of sl en bu lo H + V * 7) x.2.2 (x.2.1 - 1).toNat (by omega) k3 k4 fun j hj => (hb j hj).1
  rw [show (1 : Int) + ((x.2.1 - 1).toNat : Int) = x.2.1 by omega] at hf
  have c1 : ¬ ((x.2.2 - 5 < 0 ∨ 6 ≤ x.2.2 - 5) ∨ x.2.1 = 0) := by omega
  rw [if_neg c1, if_pos (by omega), show 5 + (x.2.2 - 5) = x.2.2 by omega, fnd_what9 (by omega) he.1 (by omega) hV.1, hf]
  simp only
  rw [k5]
end
end Go.Proofs.Ytakfjoelpploeaa

set_option linter.unusedVariables false
set_option linter.unusedSimpArgs false
namespace Go.Proofs.Ytakfjoelpploeaa
open Go.Am

/-- The map's entries after some places: each with true, in their order. -/
def pents : Nat → List (Int × Int × Int) → List (Value × Value × Nat)
  | _, [] => []
  | k, x :: r => (.agg ⟨plc x⟩, .bool true, k) :: pents (k + 1) r
theorem pents_snoc : ∀ (ws : List (Int × Int × Int)) (k : Nat) (x : Int × Int × Int), pents k ws ++ [(.agg ⟨plc x⟩, .bool true, k + ws.length)] = pents k (ws ++ [x])
  | [], k, x => rfl
  | y :: ws, k, x => by
    have := pents_snoc ws (k + 1) x
    simp only [List.cons_append, pents, List.length_cons, ← this]
    rw [show k + (ws.length + 1) = k + 1 + ws.length by omega]
theorem pents_length : ∀ (ws : List (Int × Int × Int)) (k : Nat), (pents k ws).length = ws.length
  | [], k => rfl
  | y :: ws, k => by simp [pents, pents_length ws]
noncomputable def fs63 : Array Field := match Try.prog.underlying 63 with
  | some (.struct fs) => fs
  | _ => #[]
theorem und63 : Try.prog.underlying 63 = some (.struct fs63) := by kernel_rfl
theorem und67 : Try.prog.underlying 67 = some (.map 63 4) := by kernel_rfl
theorem keyOk63 (x : Int × Int × Int) : keyOk Try.prog 63 (.struct fs63) (.agg ⟨plc x⟩) = true := by kernel_rfl
theorem zero4 : zeroOf Try.prog 4 = some (.bool false) := by kernel_rfl
def eqP (x y : Int × Int × Int) : Option Bool := match some (x.1 == y.1) with
  | some true => match some (x.2.1 == y.2.1) with
    | some true => match some (x.2.2 == y.2.2) with
      | some true => some true
      | some false => some false
      | none => none
    | some false => some false
    | none => none
  | some false => some false
  | none => none
theorem eqFlat63 (x y : Int × Int × Int) : eqFlat Try.prog (plc x) (plc y) fs63.toList = eqP x y := by kernel_rfl
theorem eqP_ne {x y : Int × Int × Int} (h : x ≠ y) : eqP x y = some false := by
  obtain ⟨a, b, c⟩ := x
  obtain ⟨a', b', c'⟩ := y
  have q : ∀ x y : Int, (x == y) = decide (x = y) := fun x y => rfl
  unfold eqP
  simp only [q]
  by_cases h1 : a = a' <;> by_cases h2 : b = b' <;> by_cases h3 : c = c' <;> simp [h1, h2, h3] at h ⊢
theorem find63 {x : Int × Int × Int} : ∀ (ws : List (Int × Int × Int)) (k i : Nat), ¬ x ∈ ws → findFlat Try.prog fs63.toList (plc x) (pents k ws) i = some none
  | [], k, i, _ => rfl
  | y :: ws, k, i, h => by
    simp only [List.mem_cons, not_or] at h
    rw [pents, findFlat]
    simp only [eqFlat63, eqP_ne h.1]
    exact find63 ws (k + 1) (i + 1) h.2
/-- The map's rules. -/
theorem lk67 {r : Nat} {a b c : Int} : lkQ Try.prog 67 (.map (some r)) (.agg ⟨[.int .u8 a, .int .i64 b, .int .i64 c]⟩) false = .get r (lkB Try.prog (.struct fs63) 4 (.agg ⟨[.int .u8 a, .int .i64 b, .int .i64 c]⟩) false) := lkQ_map und67 und63 (keyOk63 (a, b, c))
theorem lkB67 {a b c : Int} {ws : List (Int × Int × Int)} {k : Nat} (h : ¬ (a, b, c) ∈ ws) : lkB Try.prog (.struct fs63) 4 (.agg ⟨[.int .u8 a, .int .i64 b, .int .i64 c]⟩) false (.map (pents 0 ws) k) = .pure (.value (.bool false)) := by
  rw [lkB_map]
  show lkR Try.prog 4 false (findFlat Try.prog fs63.toList (plc (a, b, c)) (pents 0 ws) 0) = _
  rw [find63 ws 0 0 h]
  unfold lkR
  simp only [zero4, cond_false]
theorem mu67 {r : Nat} {a b c : Int} {v : Value} : muQ Try.prog 67 (.map (some r)) (.agg ⟨[.int .u8 a, .int .i64 b, .int .i64 c]⟩) v = .get r (muB Try.prog r (.struct fs63) (.agg ⟨[.int .u8 a, .int .i64 b, .int .i64 c]⟩) v) := muQ_map und67 und63 (keyOk63 (a, b, c))
theorem muB67 {r : Nat} {a b c : Int} {ws : List (Int × Int × Int)} (h : ¬ (a, b, c) ∈ ws) : muB Try.prog r (.struct fs63) (.agg ⟨[.int .u8 a, .int .i64 b, .int .i64 c]⟩) (.bool true) (.map (pents 0 ws) ws.length) = .set r (.map (pents 0 (ws ++ [(a, b, c)])) (ws.length + 1)) (.pure .skip) := by
  rw [muB_map]
  show muR r _ _ _ _ _ (findFlat Try.prog fs63.toList (plc (a, b, c)) (pents 0 ws) 0) = _
  rw [find63 ws 0 0 h]
  unfold muR
  have := pents_snoc ws 0 (a, b, c)
  rw [Nat.zero_add] at this
  simp only [← this]
  rfl
theorem len67 {r : Nat} {ts : List TypeId} : bltQ Try.prog .len (67 :: ts) [.map (some r)] = .get r mlB := bltQ_lenmap und67
end Go.Proofs.Ytakfjoelpploeaa

set_option linter.unusedVariables false
set_option linter.unusedSimpArgs false
namespace Go.Proofs.Ytakfjoelpploeaa
open Go.Am

theorem hts_low9 : ∀ (ts : List Int) (k : Int), ∀ x ∈ hts k ts, k ≤ x
  | [], k, x, h => by simp [hts] at h
  | t :: ts, k, x, h => by
    simp only [hts, List.mem_append, List.mem_replicate] at h
    rcases h with ⟨_, rfl⟩ | h
    · omega
    · have := hts_low9 ts (k + 1) x h; omega
theorem hts_asc9 : ∀ (ts : List Int) (k : Int), Asc (hts k ts)
  | [], k => .nil
  | t :: ts, k => by
    rw [hts]
    unfold Asc
    rw [List.pairwise_append]
    refine ⟨List.pairwise_replicate.2 (.inr (by omega)), hts_asc9 ts (k + 1), fun a ha b hb => ?_⟩
    rw [List.mem_replicate] at ha
    have := hts_low9 ts (k + 1) b hb
    omega
/-- What Initial needs of a layout. -/
structure IniOk (l : LayV) : Prop where
  p5 : 0 ≤ l.P.getD 5 0
  p6 : l.P.getD 6 0 = l.P.getD 5 0 + 6
  p9 : l.P.getD 6 0 + l.H.length ≤ l.P.getD 9 0
  sz : l.P.getD 9 0 ≤ 100000
  len : l.H.length ≤ 1024
  bd : ∀ i, i < l.H.length → 1 ≤ l.H.getD i 0 ∧ l.H.getD i 0 ≤ 6
  asc : Asc l.H
def iniW (l : LayV) : List Int := iniL (l.P.getD 5 0).toNat (l.P.getD 6 0).toNat (l.P.getD 9 0).toNat l.H 0
/-- Initial: a new row. -/
noncomputable def iniS : List Value → Option (AP Value)
  | [.pointer (some p)] => some <| (rdL (.pointer (some p))).bind fun l => cond (@decide (IniOk l) (Classical.propDecidable _)) (.newRow ((iniW l).map (.int .u64)) fun g => .pure (.slice (some ⟨g, 0, none⟩) (l.P.getD 9 0).toNat (l.P.getD 9 0).toNat)) (.fail "")
  | _ => none
theorem run_bind_reads {α β : Type} {p : AP α} {f : α → AP β} {h : PT ABlk} {n : Nat} {v : β} {s' : HS} (hp : Reads p) (e : (p.bind f).run 0 (S0 h n) = .ok v s') : ∃ a, p.look h = some a ∧ (f a).run 0 (S0 h n) = .ok v s' := by
  rw [AP.run_bind] at e
  cases hr : p.run 0 (S0 h n) with
  | fail w => rw [hr] at e; simp [bnd] at e
  | ok a s1 =>
    rw [hr] at e
    obtain ⟨rfl, hl⟩ := hp.run hr
    exact ⟨a, hl, e⟩
theorem list30 {α : Type} {cs : List α} (h : cs.length = 30) : ∃ c0 c1 c2 c3 c4 c5 c6 c7 c8 c9 c10 c11 c12 c13 c14 c15 c16 c17 c18 c19 c20 c21 c22 c23 c24 c25 c26 c27 c28 c29, cs = [c0, c1, c2, c3, c4, c5, c6, c7, c8, c9, c10, c11, c12, c13, c14, c15, c16, c17, c18, c19, c20, c21, c22, c23, c24, c25, c26, c27, c28, c29] := by
  match cs, h with
  | [c0, c1, c2, c3, c4, c5, c6, c7, c8, c9, c10, c11, c12, c13, c14, c15, c16, c17, c18, c19, c20, c21, c22, c23, c24, c25, c26, c27, c28, c29], _ => exact ⟨c0, c1, c2, c3, c4, c5, c6, c7, c8, c9, c10, c11, c12, c13, c14, c15, c16, c17, c18, c19, c20, c21, c22, c23, c24, c25, c26, c27, c28, c29, rfl⟩
theorem list10 {α : Type} {cs : List α} (h : cs.length = 10) : ∃ c0 c1 c2 c3 c4 c5 c6 c7 c8 c9, cs = [c0, c1, c2, c3, c4, c5, c6, c7, c8, c9] := by
  match cs, h with
  | [c0, c1, c2, c3, c4, c5, c6, c7, c8, c9], _ => exact ⟨c0, c1, c2, c3, c4, c5, c6, c7, c8, c9, rfl⟩

noncomputable abbrev Oto : Over := tabO [(53, topS)]
theorem iniF : SoundF Try.prog 22 iniS := by
  refine soundF (O := Oto) (tab_sound (.cons topF .nil)) orders ?_
  intro args m hm h n N Old OldId v h1 n1 hr hold hid hN
  unfold iniS at hm
  split at hm
  · rename_i p
    simp only [Option.some.injEq] at hm
    subst hm
    obtain ⟨l, hl, hr⟩ := run_bind_reads (rdL_reads _) hr
    replace hr := run_cond hr
    obtain ⟨hc, hr⟩ := hr
    have hok : IniOk l := @of_decide_eq_true _ (Classical.propDecidable _) hc
    replace hr := run_new hr
    obtain ⟨hs, rfl⟩ := run_pure hr
    have e1 : h1 = _ := congrArg HS.heap hs
    have e2 : n1 = _ := congrArg HS.next hs
    simp only [S0] at e1 e2
    subst e1 e2
    clear hs hr hc
    have hlt : ∀ i B, h.get i = some B → i < N ∧ ¬ (n ≤ i ∧ i < n + 1) := fun i B e => hid i (hold.id i B e)
    have hW : WfH h N := WfH.of_lt fun i B e => (hlt i B e).1
    obtain ⟨lb, ro, hv, tv, hp, hb, h27, h28, hH, hT, hHl, hTl, hSl, hPm, hVm, hP7⟩ := rdL_look hold.rows hl
    cases hp
    obtain ⟨S, H, T, P, V⟩ := l
    simp only at hb h27 h28 hH hT hHl hTl hSl hPm hVm hP7
    obtain ⟨s0, s1, s2, s3, s4, s5, s6, s7, s8, s9, s10, s11, s12, s13, s14, s15, s16, s17, s18, s19, s20, s21, s22, s23, s24, s25, s26, s27, s28, s29, rfl⟩ := list30 hSl
    have hPl : P.length = 10 := by have := congrArg List.length hPm; simp at this; omega
    obtain ⟨q0, q1, q2, q3, q4, q5, q6, q7, q8, q9, rfl⟩ := list10 hPl
    simp only [List.drop_succ_cons, List.drop_zero, List.take_succ_cons, List.take_zero, List.map_cons, List.map_nil, List.cons.injEq, and_true] at hPm
    obtain ⟨rfl, rfl, rfl, rfl, rfl, rfl, rfl, rfl, rfl, rfl⟩ := hPm
    obtain ⟨k5, k6, k9, kz, kn, kb, ka⟩ := hok
    simp only [List.getD_cons_succ, List.getD_cons_zero] at k5 k6 k9 kz kn kb ka
    obtain ⟨p5, rfl⟩ := Int.eq_ofNat_of_zero_le k5
    subst k6
    obtain ⟨sz, rfl⟩ := Int.eq_ofNat_of_zero_le (show 0 ≤ q9 by omega)
    simp only [List.getElem?_cons_succ, List.getElem?_cons_zero, Option.some.injEq] at h27
    subst h27
    obtain ⟨ha, hcap, rfl, -⟩ := hH.len
    have hb' : h.get lb = some (.cells (PT.ofList .leaf 0 [s0, s1, s2, s3, s4, s5, s6, s7, s8, s9, s10, s11, s12, s13, s14, s15, .int .i64 q0, .int .i64 q1, .int .i64 q2, .int .i64 q3, .int .i64 q4, .int .i64 (p5 : Int), .int .i64 ((p5 + 6 : Nat) : Int), .int .i64 q7, .int .i64 q8, .int .i64 (sz : Int), s26, .slice ha H.length hcap, s28, s29]) ro) := hb
    have hw : iniW ⟨[s0, s1, s2, s3, s4, s5, s6, s7, s8, s9, s10, s11, s12, s13, s14, s15, .int .i64 q0, .int .i64 q1, .int .i64 q2, .int .i64 q3, .int .i64 q4, .int .i64 (p5 : Int), .int .i64 ((p5 : Int) + 6), .int .i64 q7, .int .i64 q8, .int .i64 (sz : Int), s26, .slice ha H.length hcap, s28, s29], H, T, [q0, q1, q2, q3, q4, (p5 : Int), (p5 : Int) + 6, q7, q8, (sz : Int)], V⟩ = iniL p5 (p5 + 6) sz H 0 := rfl
    simp only [List.getD_cons_succ, List.getD_cons_zero, hw]
    refine (layIni (O := Oto) rfl _ _ _ _ _ _ _ _ _ _ _ _ _ _ _ _ _ _ _ _ _ _ _ _ _ _ p5 (p5 + 6) sz _ _ H lb ro h N hW hb' hH kb ka rfl (by omega) (by omega) kn).mono ?_
    rintro v2 h2 n2 ⟨rfl, hk, rfl, hr2⟩
    have hnew : IdR OldId n (n + 1) (fun _ => N) n N := .inr ⟨Nat.le_refl _, Nat.lt_succ_self _, rfl⟩
    refine ⟨fun _ => N, fun i q1 q2 => Nat.le_refl N, fun i j q1 q2 q3 q4 _ => by omega, .slice n 0 _ _ N hnew, fun i B e => ?_⟩
    rw [PT.get_set] at e
    split at e
    · rename_i hi; subst hi
      obtain rfl := Option.some.inj e
      refine .inr ⟨_, ?_, .cells _ _ _ (VRens.refl _ fun u hu => ?_)⟩
      · rw [sg_new (by omega)]
        exact hr2
      · obtain ⟨x, _, rfl⟩ := List.mem_map.1 hu
        exact .int _ _
    · exact .inl ⟨e, hk _ _ e⟩
  · simp at hm
end Go.Proofs.Ytakfjoelpploeaa

set_option linter.unusedVariables false
set_option linter.unusedSimpArgs false
namespace Go.Proofs.Ytakfjoelpploeaa
open Go.Am

noncomputable abbrev OD : Over := tabO [(16, layCheckS), (46, engineS), (44, valuesS), (45, placeS), (20, placesS), (27, wordS), (29, nextS), (31, latchS), (33, layOfS), (22, iniS), (35, trueS)]
theorem ODok : SoundO Try.prog OD := tab_sound (.cons layCheckF (.cons engineF (.cons valuesF (.cons placeF (.cons placesF (.cons wordF (.cons nextF (.cons latchF (.cons layOfF (.cons iniF (.cons worksF .nil)))))))))))

theorem ofA_end (o : OfV) : ofA o o.p9 = (0, 0, 0) := by unfold ofA ofL; rw [if_pos (.inr (Int.le_refl _))]
theorem cons_plc (x y z : Int) : plc (x, y, z) = [.int .u8 x, .int .i64 y, .int .i64 z] := rfl

set_option maxRecDepth 100000 in
set_option maxHeartbeats 1000000 in
theorem disjoint (th sl en bu kd dn t0 t1 t2 t3 t4 t5 lo tr ba : Int) (s : Value) (xs0 : List Int) (h : PT ABlk) (N : Nat) (hW : WfH h N) (hs : IsInts .u64 h s xs0) (hl : xs0.length < 1000000000000000) (hcap : ∀ a n c, s = .slice a n c → n ≤ c ∧ c < capInf) (hpos : ∀ x ∈ xs0, 0 ≤ x) :
    EvB Try.prog OD 9 [.agg ⟨[.int .i64 th, .int .i64 sl, .int .u8 en, .int .i64 bu, .int .u8 kd, .int .i64 dn, s, .int .i64 t0, .int .i64 t1, .int .i64 t2, .int .i64 t3, .int .i64 t4, .int .i64 t5, .int .i64 lo, .int .i64 tr, .int .i64 ba]⟩] h N fun v _ _ => v = .bool true := by
  refine EvB_run (N := 190) Try.func9 rfl rfl fun z hP hO hro hN hQ => ?_
  repeat' first | simp (config := { maxSteps := 2000000 }) (disch := first | omega | (repeat first | assumption | exact Kept.refl _ | refine Kept.set' (by assumption) ?_ ?_ | refine Kept.set (by assumption) ?_ ?_ | omega)) only [go_sem, *, Try.results9, Nat.reduceLT, Nat.reduceAdd, Nat.reduceMul, Nat.reduceSub, Nat.reduceEqDiff, Nat.reduceLeDiff, Int.reduceToNat, Int.reduceLT, Int.reduceLE, Int.reduceEq, Int.reduceNe, Int.reduceAdd, Int.reduceSub, Int.reduceMul, Int.reduceNeg, ↓reduceIte, reduceCtorEq] | (apply EvG_ndec <;> intro _) | (apply EvC_ndec <;> intro _) | (apply EvG_dec <;> intro _) | (apply EvC_dec <;> intro _) | refine EvK_draw (id := 42) (L := [(0, 2), (1, 2), (0, 3), (1, 3), (6, 9), (7, 9), (8, 9), (6, 10), (7, 10), (8, 10), (19, 20), (19, 21), (19, 23), (20, 23), (21, 23), (22, 23)]) (by kernel_rfl) (by kernel_rfl) ?_ | (apply EvH_ndec <;> intro _) | (apply EvH_dec <;> intro _) | (apply EvC_nbool <;> intro _) | (apply EvC_bool <;> intro _) | (apply EvG_nbool <;> intro _) | (apply EvG_bool <;> intro _) | (apply EvH_nbool <;> intro _) | (apply EvH_bool <;> intro _)
  refine EvQ_call ?_ ?_ (by rw [hP, hO]; exact (cutC th sl en bu kd dn t0 t1 t2 t3 t4 t5 lo tr ba s xs0 _ _ (by (repeat refine WfH.set' (by omega) ?_); first | assumption | exact WfH.mono (by assumption) (by omega)) (hs.keep (by (repeat first | assumption | exact Kept.refl _ | refine Kept.set' (by assumption) ?_ ?_ | omega))) hl hcap).wf (by (repeat refine WfH.set' (by omega) ?_); first | assumption | exact WfH.mono (by assumption) (by omega))) ?_
  · simp (config := { maxSteps := 2000000 }) (disch := first | omega | (repeat first | assumption | exact Kept.refl _ | refine Kept.set' (by assumption) ?_ ?_ | refine Kept.set (by assumption) ?_ ?_ | omega)) only [go_sem, *, Nat.reduceLT, Nat.reduceAdd, Nat.reduceMul, Nat.reduceSub, Nat.reduceEqDiff, Nat.reduceLeDiff, Int.reduceToNat, Int.reduceLT, Int.reduceLE, Int.reduceEq, Int.reduceNe, Int.reduceAdd, Int.reduceSub, Int.reduceMul, Int.reduceNeg, ↓reduceIte, reduceCtorEq]
  · simp (config := { maxSteps := 2000000 }) (disch := first | omega | (repeat first | assumption | exact Kept.refl _ | refine Kept.set' (by assumption) ?_ ?_ | refine Kept.set (by assumption) ?_ ?_ | omega)) only [go_sem, *, Nat.reduceLT, Nat.reduceAdd, Nat.reduceMul, Nat.reduceSub, Nat.reduceEqDiff, Nat.reduceLeDiff, Int.reduceToNat, Int.reduceLT, Int.reduceLE, Int.reduceEq, Int.reduceNe, Int.reduceAdd, Int.reduceSub, Int.reduceMul, Int.reduceNeg, ↓reduceIte, reduceCtorEq]
  rintro v h2 n2 ⟨⟨cv0, rfl, hcv0, hk0⟩, hn2, hW2⟩
  have hlen : (xs0.take 100).length ≤ 100 := by rw [List.length_take]; omega
  generalize xs0.take 100 = xs at *
  have e0 := hk0 N _ heap_same
  clear hk0 hs hcap hpos hl
  obtain ⟨ca, cc, rfl, -⟩ := hcv0.isInts.len
  repeat' first | simp (config := { maxSteps := 2000000 }) (disch := first | omega | (repeat first | assumption | exact Kept.refl _ | refine Kept.set' (by assumption) ?_ ?_ | refine Kept.set (by assumption) ?_ ?_ | omega)) only [go_sem, *, Try.results9, Nat.reduceLT, Nat.reduceAdd, Nat.reduceMul, Nat.reduceSub, Nat.reduceEqDiff, Nat.reduceLeDiff, Int.reduceToNat, Int.reduceLT, Int.reduceLE, Int.reduceEq, Int.reduceNe, Int.reduceAdd, Int.reduceSub, Int.reduceMul, Int.reduceNeg, ↓reduceIte, reduceCtorEq] | (apply EvG_ndec <;> intro _) | (apply EvC_ndec <;> intro _) | (apply EvG_dec <;> intro _) | (apply EvC_dec <;> intro _) | refine EvK_draw (id := 42) (L := [(0, 2), (1, 2), (0, 3), (1, 3), (6, 9), (7, 9), (8, 9), (6, 10), (7, 10), (8, 10), (19, 20), (19, 21), (19, 23), (20, 23), (21, 23), (22, 23)]) (by kernel_rfl) (by kernel_rfl) ?_ | (apply EvH_ndec <;> intro _) | (apply EvH_dec <;> intro _) | (apply EvC_nbool <;> intro _) | (apply EvC_bool <;> intro _) | (apply EvG_nbool <;> intro _) | (apply EvG_bool <;> intro _) | (apply EvH_nbool <;> intro _) | (apply EvH_bool <;> intro _)
  generalize hh3 : h2.set N _ = h3
  have e1 := get_of_set hh3
  have hW3 : WfH h3 n2 := by rw [← hh3]; exact hW2.set (by omega) (by omega)
  have hs3 : IsInts .u64 h3 (.slice ca xs.length cc) xs := by rw [← hh3]; exact (hcv0.low (Nat.lt_succ_self N)).isInts
  clear hh3 hcv0 hW2 e0
  repeat' first | simp (config := { maxSteps := 2000000 }) (disch := first | omega | (repeat first | assumption | exact Kept.refl _ | refine Kept.set' (by assumption) ?_ ?_ | refine Kept.set (by assumption) ?_ ?_ | omega)) only [go_sem, *, Try.results9, Nat.reduceLT, Nat.reduceAdd, Nat.reduceMul, Nat.reduceSub, Nat.reduceEqDiff, Nat.reduceLeDiff, Int.reduceToNat, Int.reduceLT, Int.reduceLE, Int.reduceEq, Int.reduceNe, Int.reduceAdd, Int.reduceSub, Int.reduceMul, Int.reduceNeg, ↓reduceIte, reduceCtorEq] | (apply EvG_ndec <;> intro _) | (apply EvC_ndec <;> intro _) | (apply EvG_dec <;> intro _) | (apply EvC_dec <;> intro _) | refine EvK_draw (id := 42) (L := [(0, 2), (1, 2), (0, 3), (1, 3), (6, 9), (7, 9), (8, 9), (6, 10), (7, 10), (8, 10), (19, 20), (19, 21), (19, 23), (20, 23), (21, 23), (22, 23)]) (by kernel_rfl) (by kernel_rfl) ?_ | (apply EvH_ndec <;> intro _) | (apply EvH_dec <;> intro _) | (apply EvC_nbool <;> intro _) | (apply EvC_bool <;> intro _) | (apply EvG_nbool <;> intro _) | (apply EvG_bool <;> intro _) | (apply EvH_nbool <;> intro _) | (apply EvH_bool <;> intro _)
  refine EvQ_call ?_ ?_ (by rw [hP, hO]; exact (layNew rfl rfl rfl rfl (fun _ => rfl) th sl en bu kd dn t0 t1 t2 t3 t4 t5 lo tr ba _ xs _ _ hW3 hs3 (by omega)).wf hW3) ?_
  · simp (config := { maxSteps := 2000000 }) (disch := first | omega | (repeat first | assumption | exact Kept.refl _ | refine Kept.set' (by assumption) ?_ ?_ | refine Kept.set (by assumption) ?_ ?_ | omega)) only [go_sem, *, Nat.reduceLT, Nat.reduceAdd, Nat.reduceMul, Nat.reduceSub, Nat.reduceEqDiff, Nat.reduceLeDiff, Int.reduceToNat, Int.reduceLT, Int.reduceLE, Int.reduceEq, Int.reduceNe, Int.reduceAdd, Int.reduceSub, Int.reduceMul, Int.reduceNeg, ↓reduceIte, reduceCtorEq]
  · simp (config := { maxSteps := 2000000 }) (disch := first | omega | (repeat first | assumption | exact Kept.refl _ | refine Kept.set' (by assumption) ?_ ?_ | refine Kept.set (by assumption) ?_ ?_ | omega)) only [go_sem, *, Nat.reduceLT, Nat.reduceAdd, Nat.reduceMul, Nat.reduceSub, Nat.reduceEqDiff, Nat.reduceLeDiff, Int.reduceToNat, Int.reduceLT, Int.reduceLE, Int.reduceEq, Int.reduceNe, Int.reduceAdd, Int.reduceSub, Int.reduceMul, Int.reduceNeg, ↓reduceIte, reduceCtorEq]
  rintro v h5 n5 ⟨⟨c1, rfl, hk4⟩ | ⟨c1, lb, cv, hv, tv, gb, rfl, hk4, hlb, hb5, hg5, hcv, hH5, hT5⟩, hn4, hW5⟩
  · have e2 := hk4 N _ e1
    have hs4 := hs3.keep hk4
    have hrd := fun h' hk z f d ops r K m n => @EvV_ints _ _ h' _ _ hs4 z f d ops r K m n hk
    have hl15 : xs.length < 1000000000000000 := by omega
    clear hs3 hk4 e1 hW3
    repeat' first | simp (config := { maxSteps := 2000000 }) (disch := first | omega | (repeat first | assumption | exact Kept.refl _ | refine Kept.set' (by assumption) ?_ ?_ | refine Kept.set (by assumption) ?_ ?_ | omega)) only [go_sem, *, Try.results9, layCheckS, trueS, errIf, Nat.reduceLT, Nat.reduceAdd, Nat.reduceMul, Nat.reduceSub, Nat.reduceEqDiff, Nat.reduceLeDiff, Int.reduceToNat, Int.reduceLT, Int.reduceLE, Int.reduceEq, Int.reduceNe, Int.reduceAdd, Int.reduceSub, Int.reduceMul, Int.reduceNeg, ↓reduceIte, reduceCtorEq] | (apply EvG_ndec <;> intro _) | (apply EvC_ndec <;> intro _) | (apply EvG_dec <;> intro _) | (apply EvC_dec <;> intro _) | refine EvK_draw (id := 42) (L := [(0, 2), (1, 2), (0, 3), (1, 3), (6, 9), (7, 9), (8, 9), (6, 10), (7, 10), (8, 10), (19, 20), (19, 21), (19, 23), (20, 23), (21, 23), (22, 23)]) (by kernel_rfl) (by kernel_rfl) ?_ | (apply EvH_ndec <;> intro _) | (apply EvH_dec <;> intro _) | (apply EvC_nbool <;> intro _) | (apply EvC_bool <;> intro _) | (apply EvG_nbool <;> intro _) | (apply EvG_bool <;> intro _) | (apply EvH_nbool <;> intro _) | (apply EvH_bool <;> intro _)
  · have hlen6 := hts_length6 ⟨(cfgOk_facts c1).2.2.2.2.2.1, (cfgOk_facts c1).2.2.2.2.2.2.1⟩
    have hV := domCount_pos (cfgOk_facts c1).1
    have hP7 := p7_bound c1
    obtain ⟨-, ⟨f2, f2'⟩, ⟨f3, f3'⟩, ⟨f4, f4'⟩, ⟨f5, f5'⟩, -, -, -⟩ := cfgOk_facts c1
    have hE := engW_bound (en := en) f3 f3' f4 f4'
    have hbd : ∀ i, i < (hts 1 [t0, t1, t2, t3, t4, t5]).length → 1 ≤ (hts 1 [t0, t1, t2, t3, t4, t5]).getD i 0 ∧ (hts 1 [t0, t1, t2, t3, t4, t5]).getD i 0 ≤ 6 := fun i hi => hts_at rfl hi
    have hasc := hts_asc9 [t0, t1, t2, t3, t4, t5] 1
    obtain ⟨l, hlk, hlH, hlT, hlV, hlP⟩ : ∃ l : LayV, (rdL (.pointer (some ⟨lb, 0, none⟩))).look h5 = some l ∧ l.H = (hts 1 [t0, t1, t2, t3, t4, t5]) ∧ l.T = adr (p7Of sl en bu lo (hts 1 [t0, t1, t2, t3, t4, t5]) + domCount kd dn xs * 7) (hts 1 [t0, t1, t2, t3, t4, t5]) ∧ l.V = domCount kd dn xs ∧ l.P = placesOf sl en bu lo (domCount kd dn xs) (hts 1 [t0, t1, t2, t3, t4, t5]) :=
      ⟨_, rdL_mk hb5 rfl rfl rfl hH5 hT5 (decInts_map (xs := placesOf sl en bu lo (domCount kd dn xs) (hts 1 [t0, t1, t2, t3, t4, t5]))) (by omega) (adr_length _ _) rfl, rfl, rfl, rfl, rfl⟩
    have ho0 := rdO_mk (o := ofNew sl en bu lo (domCount kd dn xs) (hts 1 [t0, t1, t2, t3, t4, t5])) hb5 rfl rfl rfl rfl hg5 hT5 (ofNew_ok ⟨f3, f3'⟩ hE ⟨f5, f5'⟩ (by omega) hP7 hlen6 hbd) rfl
    have hae := adrEnd_le (hts 1 [t0, t1, t2, t3, t4, t5]) (p7Of sl en bu lo (hts 1 [t0, t1, t2, t3, t4, t5]) + domCount kd dn xs * 7) hbd
    have hlP7 : l.P.getD 7 0 = p7Of sl en bu lo (hts 1 [t0, t1, t2, t3, t4, t5]) := by rw [hlP]; rfl
    have hbk : ∀ a, 0 ≤ a → a < adrEnd (p7Of sl en bu lo (hts 1 [t0, t1, t2, t3, t4, t5]) + domCount kd dn xs * 7) (hts 1 [t0, t1, t2, t3, t4, t5]) → BackOk sl en bu lo (domCount kd dn xs) (hts 1 [t0, t1, t2, t3, t4, t5]) a (ofA (ofNew sl en bu lo (domCount kd dn xs) (hts 1 [t0, t1, t2, t3, t4, t5])) a) := fun a => back_ok ⟨f3, f3'⟩ hE ⟨f5, f5'⟩ (by omega) hlen6 hbd
    have hlat : ∀ a x, BackOk sl en bu lo (domCount kd dn xs) (hts 1 [t0, t1, t2, t3, t4, t5]) a x → x.1 = 8 → ¬ 0 < x.2.2 → latchV l (-1 - x.2.1) = .tuple ⟨[.int .i64 a, .int .i64 0]⟩ := fun a x hx => back_latch ⟨f3, f3'⟩ hE ⟨f5, f5'⟩ (by omega) hlen6 hbd hP7 hlH hlT hlV hlP7 hx
    have hnx8 : ∀ a x, BackOk sl en bu lo (domCount kd dn xs) (hts 1 [t0, t1, t2, t3, t4, t5]) a x → x.1 = 8 → 0 < x.2.2 → nextV l (-1 - x.2.1) (x.2.2 - 1) = .tuple ⟨[.int .i64 a, .int .i64 0]⟩ := fun a x hx => back_next8 ⟨f3, f3'⟩ hE ⟨f5, f5'⟩ (by omega) hlen6 hbd hP7 hlH hlT hlV hlP7 hx
    have hwrd : ∀ a x, BackOk sl en bu lo (domCount kd dn xs) (hts 1 [t0, t1, t2, t3, t4, t5]) a x → x.1 = 9 → ¬ 4 < x.2.2 → wordV l x.2.1 x.2.2 = .tuple ⟨[.int .i64 a, .int .i64 0]⟩ := fun a x hx => back_word ⟨f3, f3'⟩ hE ⟨f5, f5'⟩ (by omega) hlen6 hbd hP7 hlH hlT hlV hlP7 hx
    have hnx9 : ∀ a x, BackOk sl en bu lo (domCount kd dn xs) (hts 1 [t0, t1, t2, t3, t4, t5]) a x → x.1 = 9 → 4 < x.2.2 → nextV l x.2.1 (x.2.2 - 5) = .tuple ⟨[.int .i64 a, .int .i64 0]⟩ := fun a x hx => back_next9 ⟨f3, f3'⟩ hE ⟨f5, f5'⟩ (by omega) hlen6 hbd hP7 hlH hlT hlV hlP7 hx
    have hP6 : p7Of sl en bu lo (hts 1 [t0, t1, t2, t3, t4, t5]) = 0 + sl * 1 + 1 * engW en sl bu + 1 + lo * 3 + lo * 1 + 6 + ((hts 1 [t0, t1, t2, t3, t4, t5]).length : Int) * 1 := rfl
    have hini : IniOk l := by
      refine ⟨?_, ?_, ?_, ?_, ?_, ?_, ?_⟩ <;> simp only [hlP, hlH, placesOf, List.getD_cons_succ, List.getD_cons_zero] <;> first | omega | exact hbd | exact hasc
    have hini2 : @decide (IniOk l) (Classical.propDecidable _) = true := @decide_eq_true _ (Classical.propDecidable _) hini
    have hend : ofA (ofNew sl en bu lo (domCount kd dn xs) (hts 1 [t0, t1, t2, t3, t4, t5])) (adrEnd (p7Of sl en bu lo (hts 1 [t0, t1, t2, t3, t4, t5]) + domCount kd dn xs * 7) (hts 1 [t0, t1, t2, t3, t4, t5])) = (0, 0, 0) := ofA_end (ofNew sl en bu lo (domCount kd dn xs) (hts 1 [t0, t1, t2, t3, t4, t5]))
    obtain ⟨sz, hsz⟩ : ∃ sz : Nat, adrEnd (p7Of sl en bu lo (hts 1 [t0, t1, t2, t3, t4, t5]) + domCount kd dn xs * 7) (hts 1 [t0, t1, t2, t3, t4, t5]) = sz := ⟨(adrEnd (p7Of sl en bu lo (hts 1 [t0, t1, t2, t3, t4, t5]) + domCount kd dn xs * 7) (hts 1 [t0, t1, t2, t3, t4, t5])).toNat, by omega⟩
    have hsz9 : (l.P.getD 9 0).toNat = sz := by rw [hlP]; simp only [placesOf, List.getD_cons_succ, List.getD_cons_zero]; omega
    unfold placesOf at hlP
    rw [hsz] at hbk hend hlP hae
    clear hlH hlT hlV hlP7 hini hb5 hg5 hH5 hT5 hsz hasc
    generalize ofNew sl en bu lo (domCount kd dn xs) (hts 1 [t0, t1, t2, t3, t4, t5]) = o at *
    clear hcv hs3 e1 hk4 hW3 c1
    have hbnd : (0 ≤ 0 + sl * 1 ∧ 0 + sl * 1 ≤ 64) ∧ (0 ≤ 0 + sl * 1 + 1 * engW en sl bu ∧ 0 + sl * 1 + 1 * engW en sl bu ≤ 300) := by omega
    have hszb : sz ≤ 20000 := by omega
    have hrl := fun h' hk z f d ops r K m n => @EvV_look _ _ _ _ h' hlk z f d ops r K m n hk
    have hro2 := fun h' hk z f d ops r K m n => @EvV_look _ _ _ _ h' ho0 z f d ops r K m n hk
    clear hbd hP6 hlen6 hlen
    repeat' first | simp (config := { maxSteps := 2000000 }) (disch := first | omega | (repeat first | assumption | exact Kept.refl _ | refine Kept.set' (by assumption) ?_ ?_ | refine Kept.set (by assumption) ?_ ?_ | omega)) only [go_sem, *, Try.results9, placesS, List.map_cons, List.map_nil, Nat.reduceLT, Nat.reduceAdd, Nat.reduceMul, Nat.reduceSub, Nat.reduceEqDiff, Nat.reduceLeDiff, Int.reduceToNat, Int.reduceLT, Int.reduceLE, Int.reduceEq, Int.reduceNe, Int.reduceAdd, Int.reduceSub, Int.reduceMul, Int.reduceNeg, ↓reduceIte, reduceCtorEq] | (apply EvG_ndec <;> intro _) | (apply EvC_ndec <;> intro _) | (apply EvG_dec <;> intro _) | (apply EvC_dec <;> intro _) | refine EvK_draw (id := 42) (L := [(0, 2), (1, 2), (0, 3), (1, 3), (6, 9), (7, 9), (8, 9), (6, 10), (7, 10), (8, 10), (19, 20), (19, 21), (19, 23), (20, 23), (21, 23), (22, 23)]) (by kernel_rfl) (by kernel_rfl) ?_ | (apply EvH_ndec <;> intro _) | (apply EvH_dec <;> intro _) | (apply EvC_nbool <;> intro _) | (apply EvC_bool <;> intro _) | (apply EvG_nbool <;> intro _) | (apply EvG_bool <;> intro _) | (apply EvH_nbool <;> intro _) | (apply EvH_bool <;> intro _)
    refine ind_loop (fun t m h' n' => ∃ ws : List (Int × Int × Int), ws.length ≤ sz ∧ t = sz - ws.length ∧ m.n = 190 ∧ m.dfs = [] ∧ m.get 3 = .pointer (some ⟨lb, 0, none⟩) ∧ m.get 5 = .pointer (some ⟨n5, 0, none⟩) ∧ m.get 6 = .map (some (n5 + 1)) ∧ m.get 7 = .int .i64 ws.length ∧ Kept h5 h' ∧ WfH h' n' ∧ n5 + 2 ≤ n' ∧
      h'.get n5 = some (.cells (PT.ofList .leaf 0 [Value.int .i64 0, .int .i64 (0 + sl * 1), .int .i64 (0 + sl * 1 + 1 * engW en sl bu), .int .i64 (0 + sl * 1 + 1 * engW en sl bu + 1), .int .i64 (0 + sl * 1 + 1 * engW en sl bu + 1 + lo * 3), .int .i64 (0 + sl * 1 + 1 * engW en sl bu + 1 + lo * 3 + lo * 1), .int .i64 (0 + sl * 1 + 1 * engW en sl bu + 1 + lo * 3 + lo * 1 + 6), .int .i64 (p7Of sl en bu lo (hts 1 [t0, t1, t2, t3, t4, t5])), .int .i64 (p7Of sl en bu lo (hts 1 [t0, t1, t2, t3, t4, t5]) + domCount kd dn xs * 7), .int .i64 (sz : Int)]) false) ∧ h'.get (n5 + 1) = some (.map (pents 0 ws) ws.length) ∧ ∀ y ∈ ws, ∃ b, (0 ≤ b ∧ b < (ws.length : Int)) ∧ BackOk sl en bu lo (domCount kd dn xs) (hts 1 [t0, t1, t2, t3, t4, t5]) b y) sz ?_ ?_
    · refine ⟨[], by simp, by simp, ?_⟩
      have hp0 : pents 0 [] = [] := rfl
      simp (config := { maxSteps := 2000000 }) (disch := first | omega | (repeat first | assumption | exact Kept.refl _ | refine Kept.set' (by assumption) ?_ ?_ | refine Kept.set (by assumption) ?_ ?_ | omega)) only [go_sem, *, hp0, List.length_nil, Nat.reduceLT, Nat.reduceAdd, Nat.reduceMul, Nat.reduceSub, Nat.reduceEqDiff, Nat.reduceLeDiff, Int.reduceToNat, Int.reduceLT, Int.reduceLE, Int.reduceEq, Int.reduceNe, Int.reduceAdd, Int.reduceSub, Int.reduceMul, Int.reduceNeg, ↓reduceIte, reduceCtorEq]
      exact ⟨Kept.set' hW5 (by omega) (Kept.set' hW5 (by omega) (Kept.set' hW5 (by omega) (Kept.refl _))), WfH.set' (by omega) (WfH.set' (by omega) ((hW5.set (Nat.le_succ _) (Nat.lt_succ_self _)).mono (Nat.le_succ _))), by omega, by simp⟩
    · rintro t m h' n' ih ⟨ws, hwl, rfl, m1, m2, m3, m4, m5, m6, q1, q2, q3, q4, q5, q6⟩
      rcases Nat.lt_or_ge ws.length sz with hlt | hge
      · have e7 : (ws.length : Int) < sz := by omega
        have hx := hbk ws.length (by omega) (by omega)
        generalize hxo : ofA o (ws.length : Int) = x at hx
        obtain ⟨xk, xi, xw⟩ := x
        have hsm := hx.small
        have hkd := hx.kind
        simp only at hsm hkd
        have hnot : ¬ (xk, xi, xw) ∈ ws := fun hm => by
          obtain ⟨b, hb, hB⟩ := q6 _ hm
          have := back_inj hx hB
          omega
        have hlkf := lkB67 (k := ws.length) hnot
        have hmuf := muB67 (r := n5 + 1) hnot
        have hq6 : ∀ y ∈ ws ++ [(xk, xi, xw)], ∃ b, (0 ≤ b ∧ b < (ws.length : Int) + 1) ∧ BackOk sl en bu lo (domCount kd dn xs) (hts 1 [t0, t1, t2, t3, t4, t5]) b y := fun y hy => by
          rcases List.mem_append.1 hy with hy | hy
          · obtain ⟨b, hb, hB⟩ := q6 y hy
            exact ⟨b, by omega, hB⟩
          · obtain rfl := List.mem_singleton.1 hy
            exact ⟨ws.length, by omega, hx⟩
        clear hnot q6 hbk
        have hc : xk = 1 ∨ xk = 2 ∨ xk = 3 ∨ xk = 4 ∨ xk = 5 ∨ xk = 6 ∨ xk = 7 ∨ xk = 8 ∨ xk = 9 := by omega
        rcases hc with q | q | q | q | q | q | q | q | q
        · subst q
          have hb := hx.k1 rfl
          try simp only at hb
          subst hb
          clear hlat hnx8 hwrd hnx9 hx
          repeat' first | simp (config := { maxSteps := 2000000 }) (disch := first | omega | (repeat first | assumption | exact Kept.refl _ | refine Kept.set' (by assumption) ?_ ?_ | refine Kept.set (by assumption) ?_ ?_ | omega)) only [go_sem, *, Try.results9, layOfS, cons_plc, lk67, mu67, ndec_self, Int.zero_add, Nat.reduceLT, Nat.reduceAdd, Nat.reduceMul, Nat.reduceSub, Nat.reduceEqDiff, Nat.reduceLeDiff, Int.reduceToNat, Int.reduceLT, Int.reduceLE, Int.reduceEq, Int.reduceNe, Int.reduceAdd, Int.reduceSub, Int.reduceMul, Int.reduceNeg, ↓reduceIte, reduceCtorEq] | (apply EvG_ndec <;> intro _) | (apply EvC_ndec <;> intro _) | (apply EvG_dec <;> intro _) | (apply EvC_dec <;> intro _) | refine EvK_draw (id := 42) (L := [(0, 2), (1, 2), (0, 3), (1, 3), (6, 9), (7, 9), (8, 9), (6, 10), (7, 10), (8, 10), (19, 20), (19, 21), (19, 23), (20, 23), (21, 23), (22, 23)]) (by kernel_rfl) (by kernel_rfl) ?_ | (apply EvH_ndec <;> intro _) | (apply EvH_dec <;> intro _) | (apply EvC_nbool <;> intro _) | (apply EvC_bool <;> intro _) | (apply EvG_nbool <;> intro _) | (apply EvG_bool <;> intro _) | (apply EvH_nbool <;> intro _) | (apply EvH_bool <;> intro _)
          refine ih (sz - (ws.length + 1)) _ _ _ (by omega) ⟨ws ++ [(1, (ws.length : Int), xw)], by rw [List.length_append]; simp only [List.length_cons, List.length_nil]; omega, by rw [List.length_append]; rfl, ?_⟩
          have hl1 : (ws ++ [((1 : Int), ((ws.length : Int) : Int), xw)]).length = ws.length + 1 := by rw [List.length_append]; rfl
          have hci : ((ws.length + 1 : Nat) : Int) = (ws.length : Int) + 1 := by omega
          rw [hl1, hci]
          refine ⟨?_, ?_, ?_, ?_, ?_, ?_, Kept.set' hW5 (by omega) (Kept.set' hW5 (by omega) (Kept.set' hW5 (by omega) q1)), WfH.set' (by omega) (WfH.set' (by omega) (q2.set (Nat.le_succ _) (Nat.lt_succ_self _))), by omega, ?_, ?_, hq6⟩
          all_goals simp (config := { maxSteps := 2000000 }) (disch := first | omega | (repeat first | assumption | exact Kept.refl _ | refine Kept.set' (by assumption) ?_ ?_ | refine Kept.set (by assumption) ?_ ?_ | omega)) only [go_sem, *, Nat.reduceLT, Nat.reduceAdd, Nat.reduceMul, Nat.reduceSub, Nat.reduceEqDiff, Nat.reduceLeDiff, Int.reduceToNat, Int.reduceLT, Int.reduceLE, Int.reduceEq, Int.reduceNe, Int.reduceAdd, Int.reduceSub, Int.reduceMul, Int.reduceNeg, ↓reduceIte, reduceCtorEq]
        · subst q
          have hb := hx.k2 rfl
          try simp only at hb
          clear hlat hnx8 hwrd hnx9 hx
          repeat' first | simp (config := { maxSteps := 2000000 }) (disch := first | omega | (repeat first | assumption | exact Kept.refl _ | refine Kept.set' (by assumption) ?_ ?_ | refine Kept.set (by assumption) ?_ ?_ | omega)) only [go_sem, *, Try.results9, layOfS, cons_plc, lk67, mu67, ndec_self, Nat.reduceLT, Nat.reduceAdd, Nat.reduceMul, Nat.reduceSub, Nat.reduceEqDiff, Nat.reduceLeDiff, Int.reduceToNat, Int.reduceLT, Int.reduceLE, Int.reduceEq, Int.reduceNe, Int.reduceAdd, Int.reduceSub, Int.reduceMul, Int.reduceNeg, ↓reduceIte, reduceCtorEq] | (apply EvG_ndec <;> intro _) | (apply EvC_ndec <;> intro _) | (apply EvG_dec <;> intro _) | (apply EvC_dec <;> intro _) | refine EvK_draw (id := 42) (L := [(0, 2), (1, 2), (0, 3), (1, 3), (6, 9), (7, 9), (8, 9), (6, 10), (7, 10), (8, 10), (19, 20), (19, 21), (19, 23), (20, 23), (21, 23), (22, 23)]) (by kernel_rfl) (by kernel_rfl) ?_ | (apply EvH_ndec <;> intro _) | (apply EvH_dec <;> intro _) | (apply EvC_nbool <;> intro _) | (apply EvC_bool <;> intro _) | (apply EvG_nbool <;> intro _) | (apply EvG_bool <;> intro _) | (apply EvH_nbool <;> intro _) | (apply EvH_bool <;> intro _)
          refine ih (sz - (ws.length + 1)) _ _ _ (by omega) ⟨ws ++ [(2, xi, xw)], by rw [List.length_append]; simp only [List.length_cons, List.length_nil]; omega, by rw [List.length_append]; rfl, ?_⟩
          have hl1 : (ws ++ [((2 : Int), (xi : Int), xw)]).length = ws.length + 1 := by rw [List.length_append]; rfl
          have hci : ((ws.length + 1 : Nat) : Int) = (ws.length : Int) + 1 := by omega
          rw [hl1, hci]
          refine ⟨?_, ?_, ?_, ?_, ?_, ?_, Kept.set' hW5 (by omega) (Kept.set' hW5 (by omega) (Kept.set' hW5 (by omega) q1)), WfH.set' (by omega) (WfH.set' (by omega) (q2.set (Nat.le_succ _) (Nat.lt_succ_self _))), by omega, ?_, ?_, hq6⟩
          all_goals simp (config := { maxSteps := 2000000 }) (disch := first | omega | (repeat first | assumption | exact Kept.refl _ | refine Kept.set' (by assumption) ?_ ?_ | refine Kept.set (by assumption) ?_ ?_ | omega)) only [go_sem, *, Nat.reduceLT, Nat.reduceAdd, Nat.reduceMul, Nat.reduceSub, Nat.reduceEqDiff, Nat.reduceLeDiff, Int.reduceToNat, Int.reduceLT, Int.reduceLE, Int.reduceEq, Int.reduceNe, Int.reduceAdd, Int.reduceSub, Int.reduceMul, Int.reduceNeg, ↓reduceIte, reduceCtorEq]
        · subst q
          have hb := hx.k3 rfl
          try simp only at hb
          clear hlat hnx8 hwrd hnx9 hx
          repeat' first | simp (config := { maxSteps := 2000000 }) (disch := first | omega | (repeat first | assumption | exact Kept.refl _ | refine Kept.set' (by assumption) ?_ ?_ | refine Kept.set (by assumption) ?_ ?_ | omega)) only [go_sem, *, Try.results9, layOfS, cons_plc, lk67, mu67, ndec_self, Nat.reduceLT, Nat.reduceAdd, Nat.reduceMul, Nat.reduceSub, Nat.reduceEqDiff, Nat.reduceLeDiff, Int.reduceToNat, Int.reduceLT, Int.reduceLE, Int.reduceEq, Int.reduceNe, Int.reduceAdd, Int.reduceSub, Int.reduceMul, Int.reduceNeg, ↓reduceIte, reduceCtorEq] | (apply EvG_ndec <;> intro _) | (apply EvC_ndec <;> intro _) | (apply EvG_dec <;> intro _) | (apply EvC_dec <;> intro _) | refine EvK_draw (id := 42) (L := [(0, 2), (1, 2), (0, 3), (1, 3), (6, 9), (7, 9), (8, 9), (6, 10), (7, 10), (8, 10), (19, 20), (19, 21), (19, 23), (20, 23), (21, 23), (22, 23)]) (by kernel_rfl) (by kernel_rfl) ?_ | (apply EvH_ndec <;> intro _) | (apply EvH_dec <;> intro _) | (apply EvC_nbool <;> intro _) | (apply EvC_bool <;> intro _) | (apply EvG_nbool <;> intro _) | (apply EvG_bool <;> intro _) | (apply EvH_nbool <;> intro _) | (apply EvH_bool <;> intro _)
          refine ih (sz - (ws.length + 1)) _ _ _ (by omega) ⟨ws ++ [(3, xi, xw)], by rw [List.length_append]; simp only [List.length_cons, List.length_nil]; omega, by rw [List.length_append]; rfl, ?_⟩
          have hl1 : (ws ++ [((3 : Int), (xi : Int), xw)]).length = ws.length + 1 := by rw [List.length_append]; rfl
          have hci : ((ws.length + 1 : Nat) : Int) = (ws.length : Int) + 1 := by omega
          rw [hl1, hci]
          refine ⟨?_, ?_, ?_, ?_, ?_, ?_, Kept.set' hW5 (by omega) (Kept.set' hW5 (by omega) (Kept.set' hW5 (by omega) q1)), WfH.set' (by omega) (WfH.set' (by omega) (q2.set (Nat.le_succ _) (Nat.lt_succ_self _))), by omega, ?_, ?_, hq6⟩
          all_goals simp (config := { maxSteps := 2000000 }) (disch := first | omega | (repeat first | assumption | exact Kept.refl _ | refine Kept.set' (by assumption) ?_ ?_ | refine Kept.set (by assumption) ?_ ?_ | omega)) only [go_sem, *, Nat.reduceLT, Nat.reduceAdd, Nat.reduceMul, Nat.reduceSub, Nat.reduceEqDiff, Nat.reduceLeDiff, Int.reduceToNat, Int.reduceLT, Int.reduceLE, Int.reduceEq, Int.reduceNe, Int.reduceAdd, Int.reduceSub, Int.reduceMul, Int.reduceNeg, ↓reduceIte, reduceCtorEq]
        · subst q
          have hb := hx.k4 rfl
          try simp only at hb
          clear hlat hnx8 hwrd hnx9 hx
          repeat' first | simp (config := { maxSteps := 2000000 }) (disch := first | omega | (repeat first | assumption | exact Kept.refl _ | refine Kept.set' (by assumption) ?_ ?_ | refine Kept.set (by assumption) ?_ ?_ | omega)) only [go_sem, *, Try.results9, layOfS, cons_plc, lk67, mu67, ndec_self, Nat.reduceLT, Nat.reduceAdd, Nat.reduceMul, Nat.reduceSub, Nat.reduceEqDiff, Nat.reduceLeDiff, Int.reduceToNat, Int.reduceLT, Int.reduceLE, Int.reduceEq, Int.reduceNe, Int.reduceAdd, Int.reduceSub, Int.reduceMul, Int.reduceNeg, ↓reduceIte, reduceCtorEq] | (apply EvG_ndec <;> intro _) | (apply EvC_ndec <;> intro _) | (apply EvG_dec <;> intro _) | (apply EvC_dec <;> intro _) | refine EvK_draw (id := 42) (L := [(0, 2), (1, 2), (0, 3), (1, 3), (6, 9), (7, 9), (8, 9), (6, 10), (7, 10), (8, 10), (19, 20), (19, 21), (19, 23), (20, 23), (21, 23), (22, 23)]) (by kernel_rfl) (by kernel_rfl) ?_ | (apply EvH_ndec <;> intro _) | (apply EvH_dec <;> intro _) | (apply EvC_nbool <;> intro _) | (apply EvC_bool <;> intro _) | (apply EvG_nbool <;> intro _) | (apply EvG_bool <;> intro _) | (apply EvH_nbool <;> intro _) | (apply EvH_bool <;> intro _)
          refine ih (sz - (ws.length + 1)) _ _ _ (by omega) ⟨ws ++ [(4, xi, xw)], by rw [List.length_append]; simp only [List.length_cons, List.length_nil]; omega, by rw [List.length_append]; rfl, ?_⟩
          have hl1 : (ws ++ [((4 : Int), (xi : Int), xw)]).length = ws.length + 1 := by rw [List.length_append]; rfl
          have hci : ((ws.length + 1 : Nat) : Int) = (ws.length : Int) + 1 := by omega
          rw [hl1, hci]
          refine ⟨?_, ?_, ?_, ?_, ?_, ?_, Kept.set' hW5 (by omega) (Kept.set' hW5 (by omega) (Kept.set' hW5 (by omega) q1)), WfH.set' (by omega) (WfH.set' (by omega) (q2.set (Nat.le_succ _) (Nat.lt_succ_self _))), by omega, ?_, ?_, hq6⟩
          all_goals simp (config := { maxSteps := 2000000 }) (disch := first | omega | (repeat first | assumption | exact Kept.refl _ | refine Kept.set' (by assumption) ?_ ?_ | refine Kept.set (by assumption) ?_ ?_ | omega)) only [go_sem, *, Nat.reduceLT, Nat.reduceAdd, Nat.reduceMul, Nat.reduceSub, Nat.reduceEqDiff, Nat.reduceLeDiff, Int.reduceToNat, Int.reduceLT, Int.reduceLE, Int.reduceEq, Int.reduceNe, Int.reduceAdd, Int.reduceSub, Int.reduceMul, Int.reduceNeg, ↓reduceIte, reduceCtorEq]
        · subst q
          have hb := hx.k5 rfl
          try simp only at hb
          clear hlat hnx8 hwrd hnx9 hx
          repeat' first | simp (config := { maxSteps := 2000000 }) (disch := first | omega | (repeat first | assumption | exact Kept.refl _ | refine Kept.set' (by assumption) ?_ ?_ | refine Kept.set (by assumption) ?_ ?_ | omega)) only [go_sem, *, Try.results9, layOfS, cons_plc, lk67, mu67, ndec_self, Nat.reduceLT, Nat.reduceAdd, Nat.reduceMul, Nat.reduceSub, Nat.reduceEqDiff, Nat.reduceLeDiff, Int.reduceToNat, Int.reduceLT, Int.reduceLE, Int.reduceEq, Int.reduceNe, Int.reduceAdd, Int.reduceSub, Int.reduceMul, Int.reduceNeg, ↓reduceIte, reduceCtorEq] | (apply EvG_ndec <;> intro _) | (apply EvC_ndec <;> intro _) | (apply EvG_dec <;> intro _) | (apply EvC_dec <;> intro _) | refine EvK_draw (id := 42) (L := [(0, 2), (1, 2), (0, 3), (1, 3), (6, 9), (7, 9), (8, 9), (6, 10), (7, 10), (8, 10), (19, 20), (19, 21), (19, 23), (20, 23), (21, 23), (22, 23)]) (by kernel_rfl) (by kernel_rfl) ?_ | (apply EvH_ndec <;> intro _) | (apply EvH_dec <;> intro _) | (apply EvC_nbool <;> intro _) | (apply EvC_bool <;> intro _) | (apply EvG_nbool <;> intro _) | (apply EvG_bool <;> intro _) | (apply EvH_nbool <;> intro _) | (apply EvH_bool <;> intro _)
          refine ih (sz - (ws.length + 1)) _ _ _ (by omega) ⟨ws ++ [(5, xi, xw)], by rw [List.length_append]; simp only [List.length_cons, List.length_nil]; omega, by rw [List.length_append]; rfl, ?_⟩
          have hl1 : (ws ++ [((5 : Int), (xi : Int), xw)]).length = ws.length + 1 := by rw [List.length_append]; rfl
          have hci : ((ws.length + 1 : Nat) : Int) = (ws.length : Int) + 1 := by omega
          rw [hl1, hci]
          refine ⟨?_, ?_, ?_, ?_, ?_, ?_, Kept.set' hW5 (by omega) (Kept.set' hW5 (by omega) (Kept.set' hW5 (by omega) q1)), WfH.set' (by omega) (WfH.set' (by omega) (q2.set (Nat.le_succ _) (Nat.lt_succ_self _))), by omega, ?_, ?_, hq6⟩
          all_goals simp (config := { maxSteps := 2000000 }) (disch := first | omega | (repeat first | assumption | exact Kept.refl _ | refine Kept.set' (by assumption) ?_ ?_ | refine Kept.set (by assumption) ?_ ?_ | omega)) only [go_sem, *, Nat.reduceLT, Nat.reduceAdd, Nat.reduceMul, Nat.reduceSub, Nat.reduceEqDiff, Nat.reduceLeDiff, Int.reduceToNat, Int.reduceLT, Int.reduceLE, Int.reduceEq, Int.reduceNe, Int.reduceAdd, Int.reduceSub, Int.reduceMul, Int.reduceNeg, ↓reduceIte, reduceCtorEq]
        · subst q
          have hb := hx.k6 rfl
          try simp only at hb
          clear hlat hnx8 hwrd hnx9 hx
          repeat' first | simp (config := { maxSteps := 2000000 }) (disch := first | omega | (repeat first | assumption | exact Kept.refl _ | refine Kept.set' (by assumption) ?_ ?_ | refine Kept.set (by assumption) ?_ ?_ | omega)) only [go_sem, *, Try.results9, layOfS, cons_plc, lk67, mu67, ndec_self, Nat.reduceLT, Nat.reduceAdd, Nat.reduceMul, Nat.reduceSub, Nat.reduceEqDiff, Nat.reduceLeDiff, Int.reduceToNat, Int.reduceLT, Int.reduceLE, Int.reduceEq, Int.reduceNe, Int.reduceAdd, Int.reduceSub, Int.reduceMul, Int.reduceNeg, ↓reduceIte, reduceCtorEq] | (apply EvG_ndec <;> intro _) | (apply EvC_ndec <;> intro _) | (apply EvG_dec <;> intro _) | (apply EvC_dec <;> intro _) | refine EvK_draw (id := 42) (L := [(0, 2), (1, 2), (0, 3), (1, 3), (6, 9), (7, 9), (8, 9), (6, 10), (7, 10), (8, 10), (19, 20), (19, 21), (19, 23), (20, 23), (21, 23), (22, 23)]) (by kernel_rfl) (by kernel_rfl) ?_ | (apply EvH_ndec <;> intro _) | (apply EvH_dec <;> intro _) | (apply EvC_nbool <;> intro _) | (apply EvC_bool <;> intro _) | (apply EvG_nbool <;> intro _) | (apply EvG_bool <;> intro _) | (apply EvH_nbool <;> intro _) | (apply EvH_bool <;> intro _)
          refine ih (sz - (ws.length + 1)) _ _ _ (by omega) ⟨ws ++ [(6, xi, xw)], by rw [List.length_append]; simp only [List.length_cons, List.length_nil]; omega, by rw [List.length_append]; rfl, ?_⟩
          have hl1 : (ws ++ [((6 : Int), (xi : Int), xw)]).length = ws.length + 1 := by rw [List.length_append]; rfl
          have hci : ((ws.length + 1 : Nat) : Int) = (ws.length : Int) + 1 := by omega
          rw [hl1, hci]
          refine ⟨?_, ?_, ?_, ?_, ?_, ?_, Kept.set' hW5 (by omega) (Kept.set' hW5 (by omega) (Kept.set' hW5 (by omega) q1)), WfH.set' (by omega) (WfH.set' (by omega) (q2.set (Nat.le_succ _) (Nat.lt_succ_self _))), by omega, ?_, ?_, hq6⟩
          all_goals simp (config := { maxSteps := 2000000 }) (disch := first | omega | (repeat first | assumption | exact Kept.refl _ | refine Kept.set' (by assumption) ?_ ?_ | refine Kept.set (by assumption) ?_ ?_ | omega)) only [go_sem, *, Nat.reduceLT, Nat.reduceAdd, Nat.reduceMul, Nat.reduceSub, Nat.reduceEqDiff, Nat.reduceLeDiff, Int.reduceToNat, Int.reduceLT, Int.reduceLE, Int.reduceEq, Int.reduceNe, Int.reduceAdd, Int.reduceSub, Int.reduceMul, Int.reduceNeg, ↓reduceIte, reduceCtorEq]
        · subst q
          have hb := hx.k7 rfl
          try simp only at hb
          clear hlat hnx8 hwrd hnx9 hx
          repeat' first | simp (config := { maxSteps := 2000000 }) (disch := first | omega | (repeat first | assumption | exact Kept.refl _ | refine Kept.set' (by assumption) ?_ ?_ | refine Kept.set (by assumption) ?_ ?_ | omega)) only [go_sem, *, Try.results9, layOfS, cons_plc, lk67, mu67, ndec_self, Nat.reduceLT, Nat.reduceAdd, Nat.reduceMul, Nat.reduceSub, Nat.reduceEqDiff, Nat.reduceLeDiff, Int.reduceToNat, Int.reduceLT, Int.reduceLE, Int.reduceEq, Int.reduceNe, Int.reduceAdd, Int.reduceSub, Int.reduceMul, Int.reduceNeg, ↓reduceIte, reduceCtorEq] | (apply EvG_ndec <;> intro _) | (apply EvC_ndec <;> intro _) | (apply EvG_dec <;> intro _) | (apply EvC_dec <;> intro _) | refine EvK_draw (id := 42) (L := [(0, 2), (1, 2), (0, 3), (1, 3), (6, 9), (7, 9), (8, 9), (6, 10), (7, 10), (8, 10), (19, 20), (19, 21), (19, 23), (20, 23), (21, 23), (22, 23)]) (by kernel_rfl) (by kernel_rfl) ?_ | (apply EvH_ndec <;> intro _) | (apply EvH_dec <;> intro _) | (apply EvC_nbool <;> intro _) | (apply EvC_bool <;> intro _) | (apply EvG_nbool <;> intro _) | (apply EvG_bool <;> intro _) | (apply EvH_nbool <;> intro _) | (apply EvH_bool <;> intro _)
          refine ih (sz - (ws.length + 1)) _ _ _ (by omega) ⟨ws ++ [(7, xi, xw)], by rw [List.length_append]; simp only [List.length_cons, List.length_nil]; omega, by rw [List.length_append]; rfl, ?_⟩
          have hl1 : (ws ++ [((7 : Int), (xi : Int), xw)]).length = ws.length + 1 := by rw [List.length_append]; rfl
          have hci : ((ws.length + 1 : Nat) : Int) = (ws.length : Int) + 1 := by omega
          rw [hl1, hci]
          refine ⟨?_, ?_, ?_, ?_, ?_, ?_, Kept.set' hW5 (by omega) (Kept.set' hW5 (by omega) (Kept.set' hW5 (by omega) q1)), WfH.set' (by omega) (WfH.set' (by omega) (q2.set (Nat.le_succ _) (Nat.lt_succ_self _))), by omega, ?_, ?_, hq6⟩
          all_goals simp (config := { maxSteps := 2000000 }) (disch := first | omega | (repeat first | assumption | exact Kept.refl _ | refine Kept.set' (by assumption) ?_ ?_ | refine Kept.set (by assumption) ?_ ?_ | omega)) only [go_sem, *, Nat.reduceLT, Nat.reduceAdd, Nat.reduceMul, Nat.reduceSub, Nat.reduceEqDiff, Nat.reduceLeDiff, Int.reduceToNat, Int.reduceLT, Int.reduceLE, Int.reduceEq, Int.reduceNe, Int.reduceAdd, Int.reduceSub, Int.reduceMul, Int.reduceNeg, ↓reduceIte, reduceCtorEq]
        · subst q
          have hb := hx.k8 rfl
          try simp only at hb
          by_cases hw : 0 < xw
          · have hf := hnx8 _ _ hx rfl hw
            try simp only at hf
            clear hlat hnx8 hwrd hnx9 hx
            repeat' first | simp (config := { maxSteps := 2000000 }) (disch := first | omega | (repeat first | assumption | exact Kept.refl _ | refine Kept.set' (by assumption) ?_ ?_ | refine Kept.set (by assumption) ?_ ?_ | omega)) only [go_sem, *, Try.results9, layOfS, cons_plc, lk67, mu67, ndec_self, latchS, latchV, nextS, Nat.reduceLT, Nat.reduceAdd, Nat.reduceMul, Nat.reduceSub, Nat.reduceEqDiff, Nat.reduceLeDiff, Int.reduceToNat, Int.reduceLT, Int.reduceLE, Int.reduceEq, Int.reduceNe, Int.reduceAdd, Int.reduceSub, Int.reduceMul, Int.reduceNeg, ↓reduceIte, reduceCtorEq] | (apply EvG_ndec <;> intro _) | (apply EvC_ndec <;> intro _) | (apply EvG_dec <;> intro _) | (apply EvC_dec <;> intro _) | refine EvK_draw (id := 42) (L := [(0, 2), (1, 2), (0, 3), (1, 3), (6, 9), (7, 9), (8, 9), (6, 10), (7, 10), (8, 10), (19, 20), (19, 21), (19, 23), (20, 23), (21, 23), (22, 23)]) (by kernel_rfl) (by kernel_rfl) ?_ | (apply EvH_ndec <;> intro _) | (apply EvH_dec <;> intro _) | (apply EvC_nbool <;> intro _) | (apply EvC_bool <;> intro _) | (apply EvG_nbool <;> intro _) | (apply EvG_bool <;> intro _) | (apply EvH_nbool <;> intro _) | (apply EvH_bool <;> intro _)
            refine ih (sz - (ws.length + 1)) _ _ _ (by omega) ⟨ws ++ [(8, xi, xw)], by rw [List.length_append]; simp only [List.length_cons, List.length_nil]; omega, by rw [List.length_append]; rfl, ?_⟩
            have hl1 : (ws ++ [((8 : Int), (xi : Int), xw)]).length = ws.length + 1 := by rw [List.length_append]; rfl
            have hci : ((ws.length + 1 : Nat) : Int) = (ws.length : Int) + 1 := by omega
            rw [hl1, hci]
            refine ⟨?_, ?_, ?_, ?_, ?_, ?_, Kept.set' hW5 (by omega) (Kept.set' hW5 (by omega) (Kept.set' hW5 (by omega) q1)), WfH.set' (by omega) (WfH.set' (by omega) (q2.set (Nat.le_succ _) (Nat.lt_succ_self _))), by omega, ?_, ?_, hq6⟩
            all_goals simp (config := { maxSteps := 2000000 }) (disch := first | omega | (repeat first | assumption | exact Kept.refl _ | refine Kept.set' (by assumption) ?_ ?_ | refine Kept.set (by assumption) ?_ ?_ | omega)) only [go_sem, *, Nat.reduceLT, Nat.reduceAdd, Nat.reduceMul, Nat.reduceSub, Nat.reduceEqDiff, Nat.reduceLeDiff, Int.reduceToNat, Int.reduceLT, Int.reduceLE, Int.reduceEq, Int.reduceNe, Int.reduceAdd, Int.reduceSub, Int.reduceMul, Int.reduceNeg, ↓reduceIte, reduceCtorEq]
          · have hf := hlat _ _ hx rfl hw
            try simp only at hf
            clear hlat hnx8 hwrd hnx9 hx
            repeat' first | simp (config := { maxSteps := 2000000 }) (disch := first | omega | (repeat first | assumption | exact Kept.refl _ | refine Kept.set' (by assumption) ?_ ?_ | refine Kept.set (by assumption) ?_ ?_ | omega)) only [go_sem, *, Try.results9, layOfS, cons_plc, lk67, mu67, ndec_self, latchS, Nat.reduceLT, Nat.reduceAdd, Nat.reduceMul, Nat.reduceSub, Nat.reduceEqDiff, Nat.reduceLeDiff, Int.reduceToNat, Int.reduceLT, Int.reduceLE, Int.reduceEq, Int.reduceNe, Int.reduceAdd, Int.reduceSub, Int.reduceMul, Int.reduceNeg, ↓reduceIte, reduceCtorEq] | (apply EvG_ndec <;> intro _) | (apply EvC_ndec <;> intro _) | (apply EvG_dec <;> intro _) | (apply EvC_dec <;> intro _) | refine EvK_draw (id := 42) (L := [(0, 2), (1, 2), (0, 3), (1, 3), (6, 9), (7, 9), (8, 9), (6, 10), (7, 10), (8, 10), (19, 20), (19, 21), (19, 23), (20, 23), (21, 23), (22, 23)]) (by kernel_rfl) (by kernel_rfl) ?_ | (apply EvH_ndec <;> intro _) | (apply EvH_dec <;> intro _) | (apply EvC_nbool <;> intro _) | (apply EvC_bool <;> intro _) | (apply EvG_nbool <;> intro _) | (apply EvG_bool <;> intro _) | (apply EvH_nbool <;> intro _) | (apply EvH_bool <;> intro _)
            refine ih (sz - (ws.length + 1)) _ _ _ (by omega) ⟨ws ++ [(8, xi, xw)], by rw [List.length_append]; simp only [List.length_cons, List.length_nil]; omega, by rw [List.length_append]; rfl, ?_⟩
            have hl1 : (ws ++ [((8 : Int), (xi : Int), xw)]).length = ws.length + 1 := by rw [List.length_append]; rfl
            have hci : ((ws.length + 1 : Nat) : Int) = (ws.length : Int) + 1 := by omega
            rw [hl1, hci]
            refine ⟨?_, ?_, ?_, ?_, ?_, ?_, Kept.set' hW5 (by omega) (Kept.set' hW5 (by omega) (Kept.set' hW5 (by omega) q1)), WfH.set' (by omega) (WfH.set' (by omega) (q2.set (Nat.le_succ _) (Nat.lt_succ_self _))), by omega, ?_, ?_, hq6⟩
            all_goals simp (config := { maxSteps := 2000000 }) (disch := first | omega | (repeat first | assumption | exact Kept.refl _ | refine Kept.set' (by assumption) ?_ ?_ | refine Kept.set (by assumption) ?_ ?_ | omega)) only [go_sem, *, Nat.reduceLT, Nat.reduceAdd, Nat.reduceMul, Nat.reduceSub, Nat.reduceEqDiff, Nat.reduceLeDiff, Int.reduceToNat, Int.reduceLT, Int.reduceLE, Int.reduceEq, Int.reduceNe, Int.reduceAdd, Int.reduceSub, Int.reduceMul, Int.reduceNeg, ↓reduceIte, reduceCtorEq]
        · subst q
          have hb := hx.k9 rfl
          try simp only at hb
          by_cases hw : 4 < xw
          · have hf := hnx9 _ _ hx rfl hw
            try simp only at hf
            clear hlat hnx8 hwrd hnx9 hx
            repeat' first | simp (config := { maxSteps := 2000000 }) (disch := first | omega | (repeat first | assumption | exact Kept.refl _ | refine Kept.set' (by assumption) ?_ ?_ | refine Kept.set (by assumption) ?_ ?_ | omega)) only [go_sem, *, Try.results9, layOfS, cons_plc, lk67, mu67, ndec_self, wordS, wordV, nextS, Nat.reduceLT, Nat.reduceAdd, Nat.reduceMul, Nat.reduceSub, Nat.reduceEqDiff, Nat.reduceLeDiff, Int.reduceToNat, Int.reduceLT, Int.reduceLE, Int.reduceEq, Int.reduceNe, Int.reduceAdd, Int.reduceSub, Int.reduceMul, Int.reduceNeg, ↓reduceIte, reduceCtorEq] | (apply EvG_ndec <;> intro _) | (apply EvC_ndec <;> intro _) | (apply EvG_dec <;> intro _) | (apply EvC_dec <;> intro _) | refine EvK_draw (id := 42) (L := [(0, 2), (1, 2), (0, 3), (1, 3), (6, 9), (7, 9), (8, 9), (6, 10), (7, 10), (8, 10), (19, 20), (19, 21), (19, 23), (20, 23), (21, 23), (22, 23)]) (by kernel_rfl) (by kernel_rfl) ?_ | (apply EvH_ndec <;> intro _) | (apply EvH_dec <;> intro _) | (apply EvC_nbool <;> intro _) | (apply EvC_bool <;> intro _) | (apply EvG_nbool <;> intro _) | (apply EvG_bool <;> intro _) | (apply EvH_nbool <;> intro _) | (apply EvH_bool <;> intro _)
            refine ih (sz - (ws.length + 1)) _ _ _ (by omega) ⟨ws ++ [(9, xi, xw)], by rw [List.length_append]; simp only [List.length_cons, List.length_nil]; omega, by rw [List.length_append]; rfl, ?_⟩
            have hl1 : (ws ++ [((9 : Int), (xi : Int), xw)]).length = ws.length + 1 := by rw [List.length_append]; rfl
            have hci : ((ws.length + 1 : Nat) : Int) = (ws.length : Int) + 1 := by omega
            rw [hl1, hci]
            refine ⟨?_, ?_, ?_, ?_, ?_, ?_, Kept.set' hW5 (by omega) (Kept.set' hW5 (by omega) (Kept.set' hW5 (by omega) q1)), WfH.set' (by omega) (WfH.set' (by omega) (q2.set (Nat.le_succ _) (Nat.lt_succ_self _))), by omega, ?_, ?_, hq6⟩
            all_goals simp (config := { maxSteps := 2000000 }) (disch := first | omega | (repeat first | assumption | exact Kept.refl _ | refine Kept.set' (by assumption) ?_ ?_ | refine Kept.set (by assumption) ?_ ?_ | omega)) only [go_sem, *, Nat.reduceLT, Nat.reduceAdd, Nat.reduceMul, Nat.reduceSub, Nat.reduceEqDiff, Nat.reduceLeDiff, Int.reduceToNat, Int.reduceLT, Int.reduceLE, Int.reduceEq, Int.reduceNe, Int.reduceAdd, Int.reduceSub, Int.reduceMul, Int.reduceNeg, ↓reduceIte, reduceCtorEq]
          · have hf := hwrd _ _ hx rfl hw
            try simp only at hf
            clear hlat hnx8 hwrd hnx9 hx
            repeat' first | simp (config := { maxSteps := 2000000 }) (disch := first | omega | (repeat first | assumption | exact Kept.refl _ | refine Kept.set' (by assumption) ?_ ?_ | refine Kept.set (by assumption) ?_ ?_ | omega)) only [go_sem, *, Try.results9, layOfS, cons_plc, lk67, mu67, ndec_self, wordS, Nat.reduceLT, Nat.reduceAdd, Nat.reduceMul, Nat.reduceSub, Nat.reduceEqDiff, Nat.reduceLeDiff, Int.reduceToNat, Int.reduceLT, Int.reduceLE, Int.reduceEq, Int.reduceNe, Int.reduceAdd, Int.reduceSub, Int.reduceMul, Int.reduceNeg, ↓reduceIte, reduceCtorEq] | (apply EvG_ndec <;> intro _) | (apply EvC_ndec <;> intro _) | (apply EvG_dec <;> intro _) | (apply EvC_dec <;> intro _) | refine EvK_draw (id := 42) (L := [(0, 2), (1, 2), (0, 3), (1, 3), (6, 9), (7, 9), (8, 9), (6, 10), (7, 10), (8, 10), (19, 20), (19, 21), (19, 23), (20, 23), (21, 23), (22, 23)]) (by kernel_rfl) (by kernel_rfl) ?_ | (apply EvH_ndec <;> intro _) | (apply EvH_dec <;> intro _) | (apply EvC_nbool <;> intro _) | (apply EvC_bool <;> intro _) | (apply EvG_nbool <;> intro _) | (apply EvG_bool <;> intro _) | (apply EvH_nbool <;> intro _) | (apply EvH_bool <;> intro _)
            refine ih (sz - (ws.length + 1)) _ _ _ (by omega) ⟨ws ++ [(9, xi, xw)], by rw [List.length_append]; simp only [List.length_cons, List.length_nil]; omega, by rw [List.length_append]; rfl, ?_⟩
            have hl1 : (ws ++ [((9 : Int), (xi : Int), xw)]).length = ws.length + 1 := by rw [List.length_append]; rfl
            have hci : ((ws.length + 1 : Nat) : Int) = (ws.length : Int) + 1 := by omega
            rw [hl1, hci]
            refine ⟨?_, ?_, ?_, ?_, ?_, ?_, Kept.set' hW5 (by omega) (Kept.set' hW5 (by omega) (Kept.set' hW5 (by omega) q1)), WfH.set' (by omega) (WfH.set' (by omega) (q2.set (Nat.le_succ _) (Nat.lt_succ_self _))), by omega, ?_, ?_, hq6⟩
            all_goals simp (config := { maxSteps := 2000000 }) (disch := first | omega | (repeat first | assumption | exact Kept.refl _ | refine Kept.set' (by assumption) ?_ ?_ | refine Kept.set (by assumption) ?_ ?_ | omega)) only [go_sem, *, Nat.reduceLT, Nat.reduceAdd, Nat.reduceMul, Nat.reduceSub, Nat.reduceEqDiff, Nat.reduceLeDiff, Int.reduceToNat, Int.reduceLT, Int.reduceLE, Int.reduceEq, Int.reduceNe, Int.reduceAdd, Int.reduceSub, Int.reduceMul, Int.reduceNeg, ↓reduceIte, reduceCtorEq]
      · obtain rfl : ws.length = sz := by omega
        have e7 : ¬ (ws.length : Int) < ws.length := by omega
        have hs0 : (0 : Int) < ws.length := by omega
        have hxo := fun h' hk z L f d ops r K m n lo rd wr fs => @EvX_look _ _ _ _ h' ho0 z L f d ops r K m n lo rd wr fs hk
        have hxl := fun h' hk z L f d ops r K m n lo rd wr fs => @EvX_look _ _ _ _ h' hlk z L f d ops r K m n lo rd wr fs hk
        clear hlat hnx8 hwrd hnx9 hbk q6 ih hrl hro2 hlP
        repeat' first | simp (config := { maxSteps := 2000000 }) (disch := first | omega | (repeat first | assumption | exact Kept.refl _ | refine Kept.set' (by assumption) ?_ ?_ | refine Kept.set (by assumption) ?_ ?_ | omega)) only [go_sem, *, Try.results9, layOfS, cons_plc, len67, pents_length, iniS, eq63, trueS, Nat.reduceLT, Nat.reduceAdd, Nat.reduceMul, Nat.reduceSub, Nat.reduceEqDiff, Nat.reduceLeDiff, Int.reduceToNat, Int.reduceLT, Int.reduceLE, Int.reduceEq, Int.reduceNe, Int.reduceAdd, Int.reduceSub, Int.reduceMul, Int.reduceNeg, ↓reduceIte, reduceCtorEq] | (apply EvG_ndec <;> intro _) | (apply EvC_ndec <;> intro _) | (apply EvG_dec <;> intro _) | (apply EvC_dec <;> intro _) | refine EvK_draw (id := 42) (L := [(0, 2), (1, 2), (0, 3), (1, 3), (6, 9), (7, 9), (8, 9), (6, 10), (7, 10), (8, 10), (19, 20), (19, 21), (19, 23), (20, 23), (21, 23), (22, 23)]) (by kernel_rfl) (by kernel_rfl) ?_ | (apply EvH_ndec <;> intro _) | (apply EvH_dec <;> intro _) | (apply EvC_nbool <;> intro _) | (apply EvC_bool <;> intro _) | (apply EvG_nbool <;> intro _) | (apply EvG_bool <;> intro _) | (apply EvH_nbool <;> intro _) | (apply EvH_bool <;> intro _)
end Go.Proofs.Ytakfjoelpploeaa
