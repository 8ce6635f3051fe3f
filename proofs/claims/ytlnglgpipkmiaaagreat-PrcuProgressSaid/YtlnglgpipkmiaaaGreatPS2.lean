/-
  A part of the proof: contracts of inner functions.
-/
import Derived.Test.YtlnglgpipkmiaaaGreatPG
import Derived.Test.YtlnglgpipkmiaaaGreatAmV2
set_option linter.unusedVariables false
set_option linter.unusedSimpArgs false
namespace Go.Proofs.YtlnglgpipkmiaaaGreat
open Go.Am
theorem undS : Tryz.prog.underlying 186 = some (.map 3 279) := by kernel_rfl
theorem und3 : Tryz.prog.underlying 3 = some (.int .i64) := by kernel_rfl
theorem zeroS : zeroOf Tryz.prog 279 = some (.pointer none) := by kernel_rfl
@[go_sem] theorem lkS {r : Nat} {x : Int} {ok : Bool} : lkQ Tryz.prog 186 (.map (some r)) (.int .i64 x) ok = .get r (lkB Tryz.prog (.int .i64) 279 (.int .i64 x) ok) := lkI undS und3
@[go_sem] theorem muS {r : Nat} {x : Int} {v : Value} : muQ Tryz.prog 186 (.map (some r)) (.int .i64 x) v = .get r (muB Tryz.prog r (.int .i64) (.int .i64 x) v) := muI undS und3
@[go_sem] theorem dlS {ts : List TypeId} {r : Nat} {x : Int} : bltQ Tryz.prog .delete (186 :: ts) [.map (some r), .int .i64 x] = .get r (dlB Tryz.prog r (.int .i64) (.int .i64 x)) := dlI undS und3
attribute [go_sem] lkI_map muI_map dlI_map
@[go_sem] theorem lkR_none : lkR Tryz.prog 279 true (some none) = .pure (.value (.tuple ⟨[.pointer none, .bool false]⟩)) := by simp only [lkR, zeroS, cond_true]
@[go_sem] theorem lkR_some {i : Nat} {v : Value} : lkR Tryz.prog 279 true (some (some (i, v))) = .pure (.value (.tuple ⟨[v, .bool true]⟩)) := rfl
@[go_sem] theorem muR_none {r : Nat} {k v : Value} {es : List (Value × Value × Nat)} {c : Nat} : muR r true k v es c (some none) = .set r (.map (es ++ [(k, v, c)]) (c + 1)) (.pure .skip) := rfl
@[go_sem] theorem dlR_some {r i : Nat} {l : List IEnt} {k : IntKind} {c : Nat} {v : Value} : dlR r l k c (some (i, v)) = .set r (.map (ient k (l.eraseIdx i)) c) (.pure (.value (.tuple ⟨[]⟩))) := rfl
structure EngG (d : Rl → Nat) (C : Rl → Option ABlk) (base : Int) (nb n : Nat) (X : List IEnt) (ck : Nat) : Prop where
  prcu : C (4, 0) = row [.iface 127 (.agg ⟨[.iface 121 (pt (d (5, 0)))]⟩), U8 3, I6 n]
  eng : C (5, 0) = row [pt (d rM), I6 base, I6 nb, .map (some (d (6, 0)))]
  secs : C (6, 0) = some (.map (ient .i64 X) ck)
set_option maxRecDepth 100000 in
set_option maxHeartbeats 8000000 in
theorem gEnterB {h : PT ABlk} {n nb nn : Nat} {d : Rl → Nat} {C : Rl → Option ABlk} {base th v : Int} {X : List IEnt} {ck s t : Nat} (S : St h nn d C) (E : EngG d C base nb n X ck) (ht : 0 ≤ th ∧ th < 64) (hn : n ≤ 64) (hs : s < n) (hv : 0 ≤ v ∧ v < 64) (hnb : 0 < nb ∧ nb ≤ 16) (hb : 0 ≤ base ∧ base < 100000) (hX : ∀ e ∈ X, e.1 ≠ (s : Int)) :
    EvB Tryz.prog OP 21 [pt (d (4, 0)), I6 th, I6 s, I6 v] h nn fun r h' n' => ∃ p q g, nn ≤ g ∧ g < q ∧ q < p ∧ p < n' ∧ r = tup [pt p, I6 0] ∧ St h' n' (upd (upd (upd d (15, s) g) (9, t) q) (8, t) p) (upd (upd (upd (upd C (15, s) (row [I6 (-1), .bool false])) (6, 0) (some (.map (ient .i64 (X ++ [((s : Int), pt g, ck)])) (ck + 1)))) (9, t) (row ([pt (d rM), I6 th] ++ bkL base (v.tmod nb) ++ [pt g]))) (8, t) (row [.iface 278 (pt q)])) := by
  obtain ⟨e1, e2, e3⟩ := E
  have g1 := S.at e1
  have g2 := S.at e2
  have g3 := S.at e3
  have n1 := S.lt e1
  have n2 := S.lt e2
  have n3 := S.lt e3
  have d1 := S.df e2 e3 (by simp)
  obtain ⟨t1, t2⟩ := ht
  obtain ⟨v1, v2⟩ := hv
  obtain ⟨b1, b2⟩ := hnb
  obtain ⟨b3, b4⟩ := hb
  have s1 : (s : Int) < n := by omega
  have hf : ifind (s : Int) X 0 = none := ifind_none hX
  have hm1 := Int.tmod_nonneg (nb : Int) v1
  have hm2 := Int.tmod_lt_of_pos v (show (0 : Int) < nb by omega)
  generalize hbk : v.tmod nb = bk at *
  have nb0 : ¬ (nb : Int) = 0 := by omega
  have c9 : bk < 100 := by omega
  clear e1 e2 hX
  refine EvB_run (N := 37) Tryz.func21 rfl rfl fun z hP hO hro hN hQ => ?_
  repeat' first | simp (maxSteps := 2000000) (disch := first | omega | assumption) only [go_sem, *, bucketQ, bkL] | (apply xs <;> intro _) <;> try omega | ((with_reducible refine isD 12 ?_); refine dw 67 12 w150_12 (by first | (simp only [go_sem, *]; done) | rfl) (by kernel_rfl) (by kernel_rfl) ?_) | refine fun (_ _ : List Nat) => ?_ | (first | refine inQ Tryz.func44 rfl ?_ ?_ ?_ ?_ | refine inQ Tryz.func184 rfl ?_ ?_ ?_ ?_ | refine inQ Tryz.func150 rfl ?_ ?_ ?_ ?_ | refine inQ Tryz.func154 rfl ?_ ?_ ?_ ?_ | refine inQ Tryz.func158 rfl ?_ ?_ ?_ ?_ | refine inQ Tryz.func155 rfl ?_ ?_ ?_ ?_ | refine inQ Tryz.func161 rfl ?_ ?_ ?_ ?_ | refine inQ Tryz.func186 rfl ?_ ?_ ?_ ?_ | fail) <;> intros
  exact ⟨nn + 3, nn + 2, nn + 1, by omega, by omega, by omega, by omega, rfl, (((((S.junk (Nat.le_refl _) (Nat.lt_succ_self _)).new (15, s) _ (Nat.le_refl _) (Nat.lt_succ_self _)).set (6, 0) _ ((upd_tag (by decide)).trans e3) (upd_tag (by decide))).new (9, t) _ (Nat.le_refl _) (Nat.lt_succ_self _)).new (8, t) _ (Nat.le_refl _) (Nat.lt_succ_self _)).eq (by first | (rw [ient_snoc]; done) | (rw [ient_snoc]; rfl)) rfl⟩
end Go.Proofs.YtlnglgpipkmiaaaGreat
set_option linter.unusedVariables false
set_option linter.unusedSimpArgs false
namespace Go.Proofs.YtlnglgpipkmiaaaGreat
open Go.Am
theorem wrapU64 {x : Int} (h1 : 0 ≤ x) (h2 : x < 18446744073709551616) : IntKind.u64.wrap x = x := by
  simp only [IntKind.wrap, IntKind.bits, IntKind.signed, Bool.false_and, Bool.false_eq_true, if_false]
  omega
set_option maxRecDepth 100000 in
set_option maxHeartbeats 8000000 in
theorem gGateB {h : PT ABlk} {n nb nn : Nat} {d : Rl → Nat} {C : Rl → Option ABlk} {base th bk : Int} {W : List Int} {L : List Value} {k s t ba : Nat} {w : Int} (S : St h nn d C) (M : IsM d C W L k) (hk : k ≤ 100000) (ht : 0 ≤ th ∧ th < 64) (hbk : 0 ≤ bk ∧ bk < 16) (hba : base + 4 * bk + 0 = ba) (hb0 : 0 ≤ base) (hb : ba < W.length) (hw : W.length ≤ 100000) (hW : W[ba] = w) (hwr : 0 ≤ w ∧ w < 2)
    (e8 : C (8, t) = row [.iface 278 (pt (d (9, t)))]) (e9 : C (9, t) = row ([pt (d rM), I6 th] ++ bkL base bk ++ [pt (d (15, s))])) (e15 : C (15, s) = row [I6 (-1), .bool false]) :
    EvB Tryz.prog OP 57 [pt (d (8, t))] h nn fun r h' n' => ∃ g, nn ≤ g ∧ g < n' ∧ r = tup [U8 15, .bool false] ∧ St h' n' (upd d rL g) (upd (memC C (d rW) g W (L ++ accV th ba 1 w w false) (k + 1)) (15, s) (row [I6 (base + 4 * bk + 1 + w), .bool false])) := by
  have g8 := S.at e8
  have g9 := S.at e9
  have g15 := S.at e15
  have n8 := S.lt e8
  have n9 := S.lt e9
  have n15 := S.lt e15
  obtain ⟨t1, t2⟩ := ht
  obtain ⟨b1, b2⟩ := hbk
  obtain ⟨w1, w2⟩ := hwr
  have eA : ∀ g, memC C (d rW) g W (L ++ accV th ba 1 w w false) (k + 1) (15, s) = C (15, s) := fun g => memC_ne (by decide)
  have eD : ∀ g, upd d rL g (15, s) = d (15, s) := fun g => upd_tag (by decide)
  simp only [bkL, List.cons_append, List.nil_append] at g9
  refine EvB_run (N := 13) Tryz.func57 rfl rfl fun z hP hO hro hN hQ => ?_
  repeat' first | simp (maxSteps := 2000000) (disch := first | omega | assumption) only [go_sem, *] | (apply xs <;> intro _) <;> try omega | ((with_reducible refine isD 4 ?_); refine dw 69 4 w206_4 (by first | (simp only [go_sem, *]; done) | rfl) (by kernel_rfl) (by kernel_rfl) ?_) | ((with_reducible refine isD 5 ?_); refine dw 69 5 w206_5 (by first | (simp only [go_sem, *]; done) | rfl) (by kernel_rfl) (by kernel_rfl) ?_) | ((with_reducible refine isD 7 ?_); refine dw 69 7 w206_7 (by first | (simp only [go_sem, *]; done) | rfl) (by kernel_rfl) (by kernel_rfl) ?_) | refine fun (_ _ : List Nat) => ?_ | (first | refine inQ Tryz.func206 rfl ?_ ?_ ?_ ?_ | refine inQ Tryz.func205 rfl ?_ ?_ ?_ ?_ | fail) <;> intros
  refine cal (loadB OPm S M hk ⟨t1, t2⟩ hb) (by simp only [*]) (by simp only [*]) (by simp only [go_sem, *]) (by simp only [go_sem, *]) ?_
  rintro r h2 n2' ⟨g, hg1, hg2, rfl, S2⟩
  rw [hW] at S2 ⊢
  have f9 := S2.at2 (a := 9) (b := t) (by decide) e9
  have f15 := S2.at2 (a := 15) (b := s) (by decide) e15
  simp only [bkL, List.cons_append, List.nil_append] at f9
  clear g8 g9 g15
  by_cases c1 : w = 0
  · subst c1
    have c2 : (0 : Int).tmod 2 = 0 := rfl
    repeat' first | simp (maxSteps := 2000000) (disch := first | omega | assumption) only [go_sem, *] | (apply xs <;> intro _) <;> try omega | ((with_reducible refine isD 4 ?_); refine dw 69 4 w206_4 (by first | (simp only [go_sem, *]; done) | rfl) (by kernel_rfl) (by kernel_rfl) ?_) | ((with_reducible refine isD 5 ?_); refine dw 69 5 w206_5 (by first | (simp only [go_sem, *]; done) | rfl) (by kernel_rfl) (by kernel_rfl) ?_) | ((with_reducible refine isD 7 ?_); refine dw 69 7 w206_7 (by first | (simp only [go_sem, *]; done) | rfl) (by kernel_rfl) (by kernel_rfl) ?_) | refine fun (_ _ : List Nat) => ?_ | (first | refine inQ Tryz.func206 rfl ?_ ?_ ?_ ?_ | refine inQ Tryz.func205 rfl ?_ ?_ ?_ ?_ | fail) <;> intros
    exact ⟨g, by omega, hg2, (S2.set (15, s) _ ((eA g).trans e15) (eD g)).eq (by first | (rw [Int.add_zero]; done) | (rw [Int.add_zero]; rfl)) rfl⟩
  · have c2 : w = 1 := by omega
    subst c2
    have c3 : (1 : Int).tmod 2 = 1 := rfl
    repeat' first | simp (maxSteps := 2000000) (disch := first | omega | assumption) only [go_sem, *] | (apply xs <;> intro _) <;> try omega | ((with_reducible refine isD 4 ?_); refine dw 69 4 w206_4 (by first | (simp only [go_sem, *]; done) | rfl) (by kernel_rfl) (by kernel_rfl) ?_) | ((with_reducible refine isD 5 ?_); refine dw 69 5 w206_5 (by first | (simp only [go_sem, *]; done) | rfl) (by kernel_rfl) (by kernel_rfl) ?_) | ((with_reducible refine isD 7 ?_); refine dw 69 7 w206_7 (by first | (simp only [go_sem, *]; done) | rfl) (by kernel_rfl) (by kernel_rfl) ?_) | refine fun (_ _ : List Nat) => ?_ | (first | refine inQ Tryz.func206 rfl ?_ ?_ ?_ ?_ | refine inQ Tryz.func205 rfl ?_ ?_ ?_ ?_ | fail) <;> intros
    exact ⟨g, by omega, hg2, (S2.set (15, s) _ ((eA g).trans e15) (eD g)).eq (by first | (rw [Int.add_assoc _ 1 1]; done) | (rw [Int.add_assoc _ 1 1]; rfl)) rfl⟩
set_option maxRecDepth 100000 in
set_option maxHeartbeats 8000000 in
theorem gCountB {h : PT ABlk} {n nb nn : Nat} {d : Rl → Nat} {C : Rl → Option ABlk} {base th bk : Int} {W : List Int} {L : List Value} {k s t ba : Nat} {w : Int} (S : St h nn d C) (M : IsM d C W L k) (hk : k ≤ 100000) (ht : 0 ≤ th ∧ th < 64) (hb : ba < W.length) (hw : W.length ≤ 100000) (hW : W[ba] = w) (hwr : 0 ≤ w ∧ w < 18446744073709551615)
    (e8 : C (8, t) = row [.iface 278 (pt (d (9, t)))]) (e9 : C (9, t) = row ([pt (d rM), I6 th] ++ bkL base bk ++ [pt (d (15, s))])) (e15 : C (15, s) = row [I6 ba, .bool false]) :
    EvB Tryz.prog OP 57 [pt (d (8, t))] h nn fun r h' n' => ∃ g, nn ≤ g ∧ g < n' ∧ r = tup [U8 16, .bool true] ∧ St h' n' (upd d rL g) (upd (memC C (d rW) g (W.set ba (w + 1)) (L ++ accV th ba 3 w (w + 1) false) (k + 1)) (15, s) (row [I6 ba, .bool true])) := by
  have g8 := S.at e8
  have g9 := S.at e9
  have g15 := S.at e15
  have n8 := S.lt e8
  have n9 := S.lt e9
  have n15 := S.lt e15
  obtain ⟨t1, t2⟩ := ht
  obtain ⟨w1, w2⟩ := hwr
  have eA : ∀ g W' L', memC C (d rW) g W' L' (k + 1) (15, s) = C (15, s) := fun g W' L' => memC_ne (by decide)
  have eD : ∀ g, upd d rL g (15, s) = d (15, s) := fun g => upd_tag (by decide)
  have eW : IntKind.u64.wrap (w + 1) = w + 1 := wrapU64 (by omega) (by omega)
  have eW2 : IntKind.u64.wrap (w + 1 - 1) = w := by rw [show w + 1 - 1 = w by omega]; exact wrapU64 (by omega) (by omega)
  simp only [bkL, List.cons_append, List.nil_append] at g9
  refine EvB_run (N := 13) Tryz.func57 rfl rfl fun z hP hO hro hN hQ => ?_
  repeat' first | simp (maxSteps := 2000000) (disch := first | omega | assumption) only [go_sem, *] | (apply xs <;> intro _) <;> try omega | ((with_reducible refine isD 4 ?_); refine dw 69 4 w206_4 (by first | (simp only [go_sem, *]; done) | rfl) (by kernel_rfl) (by kernel_rfl) ?_) | ((with_reducible refine isD 5 ?_); refine dw 69 5 w206_5 (by first | (simp only [go_sem, *]; done) | rfl) (by kernel_rfl) (by kernel_rfl) ?_) | ((with_reducible refine isD 7 ?_); refine dw 69 7 w206_7 (by first | (simp only [go_sem, *]; done) | rfl) (by kernel_rfl) (by kernel_rfl) ?_) | refine fun (_ _ : List Nat) => ?_ | (first | refine inQ Tryz.func206 rfl ?_ ?_ ?_ ?_ | refine inQ Tryz.func205 rfl ?_ ?_ ?_ ?_ | fail) <;> intros
  refine cal (addB (x := 1) OPm S M hk ⟨t1, t2⟩ hb) (by simp only [*]) (by simp only [*]) (by simp only [go_sem, *]) (by simp only [go_sem, *]) ?_
  rintro r h2 n2' ⟨g, hg1, hg2, rfl, S2⟩
  rw [hW, eW, eW2] at S2
  rw [hW, eW]
  have f9 := S2.at2 (a := 9) (b := t) (by decide) e9
  have f15 := S2.at2 (a := 15) (b := s) (by decide) e15
  simp only [bkL, List.cons_append, List.nil_append] at f9
  clear g8 g9 g15
  repeat' first | simp (maxSteps := 2000000) (disch := first | omega | assumption) only [go_sem, *] | (apply xs <;> intro _) <;> try omega | ((with_reducible refine isD 4 ?_); refine dw 69 4 w206_4 (by first | (simp only [go_sem, *]; done) | rfl) (by kernel_rfl) (by kernel_rfl) ?_) | ((with_reducible refine isD 5 ?_); refine dw 69 5 w206_5 (by first | (simp only [go_sem, *]; done) | rfl) (by kernel_rfl) (by kernel_rfl) ?_) | ((with_reducible refine isD 7 ?_); refine dw 69 7 w206_7 (by first | (simp only [go_sem, *]; done) | rfl) (by kernel_rfl) (by kernel_rfl) ?_) | refine fun (_ _ : List Nat) => ?_ | (first | refine inQ Tryz.func206 rfl ?_ ?_ ?_ ?_ | refine inQ Tryz.func205 rfl ?_ ?_ ?_ ?_ | fail) <;> intros
  exact ⟨g, by omega, hg2, S2.set (15, s) _ ((eA g _ _).trans e15) (eD g)⟩
end Go.Proofs.YtlnglgpipkmiaaaGreat
set_option linter.unusedVariables false
set_option linter.unusedSimpArgs false
namespace Go.Proofs.YtlnglgpipkmiaaaGreat
open Go.Am
set_option maxRecDepth 100000 in
set_option maxHeartbeats 8000000 in
theorem gExitB {h : PT ABlk} {n nb nn : Nat} {d : Rl → Nat} {C : Rl → Option ABlk} {base th : Int} {X : List IEnt} {ck cj j : Nat} {W : List Int} {L : List Value} {k s ba : Nat} {w : Int} (S : St h nn d C) (E : EngG d C base nb n X ck) (M : IsM d C W L k) (hk : k ≤ 100000) (ht : 0 ≤ th ∧ th < 64) (hn : n ≤ 64) (hs : s < n) (hj : X[j]? = some ((s : Int), pt (d (15, s)), cj)) (hjn : ∀ m e, m < j → X[m]? = some e → e.1 ≠ (s : Int)) (hb : ba < W.length) (hw : W.length ≤ 100000) (hW : W[ba] = w) (hwr : 1 ≤ w ∧ w < 18446744073709551615) (e15 : C (15, s) = row [I6 ba, .bool true]) :
    EvB Tryz.prog OP 23 [pt (d (4, 0)), I6 th, I6 s] h nn fun r h' n' => ∃ g, nn ≤ g ∧ g < n' ∧ r = tup [U8 16, I6 0] ∧ St h' n' (upd d rL g) (upd (memC C (d rW) g (W.set ba (w - 1)) (L ++ accV th ba 3 w (w - 1) false) (k + 1)) (6, 0) (some (.map (ient .i64 (X.eraseIdx j)) ck))) := by
  obtain ⟨e1, e2, e3⟩ := E
  have g1 := S.at e1
  have g2 := S.at e2
  have g3 := S.at e3
  have g15 := S.at e15
  have n1 := S.lt e1
  have n2 := S.lt e2
  have n3 := S.lt e3
  have n15 := S.lt e15
  obtain ⟨t1, t2⟩ := ht
  obtain ⟨w1, w2⟩ := hwr
  have s1 : (s : Int) < n := by omega
  have hf : ifind (s : Int) X 0 = some (j, pt (d (15, s))) := by rw [ifind_some hj hjn, Nat.zero_add]
  have eA : ∀ g W' L', memC C (d rW) g W' L' (k + 1) (6, 0) = C (6, 0) := fun g W' L' => memC_ne (by decide)
  have eD : ∀ g, upd d rL g (6, 0) = d (6, 0) := fun g => upd_tag (by decide)
  have eW : IntKind.u64.wrap (w + 18446744073709551615) = w - 1 := by
    simp only [IntKind.wrap, IntKind.bits, IntKind.signed, Bool.false_and, Bool.false_eq_true, if_false]; omega
  have eW2 : IntKind.u64.wrap (w - 1 - 18446744073709551615) = w := by
    simp only [IntKind.wrap, IntKind.bits, IntKind.signed, Bool.false_and, Bool.false_eq_true, if_false]; omega
  clear e1 hj hjn
  refine EvB_run (N := 25) Tryz.func23 rfl rfl fun z hP hO hro hN hQ => ?_
  repeat' first | simp (maxSteps := 2000000) (disch := first | omega | assumption) only [go_sem, *] | (apply xs <;> intro _) <;> try omega | ((with_reducible refine isD 7 ?_); refine dw 51 7 w151_7 (by first | (simp only [go_sem, *]; done) | rfl) (by kernel_rfl) (by kernel_rfl) ?_) | refine fun (_ _ : List Nat) => ?_ | (first | refine inQ Tryz.func44 rfl ?_ ?_ ?_ ?_ | refine inQ Tryz.func151 rfl ?_ ?_ ?_ ?_ | refine inQ Tryz.func154 rfl ?_ ?_ ?_ ?_ | refine inQ Tryz.func158 rfl ?_ ?_ ?_ ?_ | fail) <;> intros
  refine cal (addB (x := 18446744073709551615) OPm S M hk ⟨t1, t2⟩ hb) (by simp only [*]) (by simp only [*]) (by simp only [go_sem, *]) (by simp only [go_sem, *]) ?_
  rintro r h2 n2' ⟨g, hg1, hg2, rfl, S2⟩
  rw [hW, eW, eW2] at S2
  rw [hW, eW]
  have f2 := S2.at2 (a := 5) (b := 0) (by decide) e2
  have f6 := S2.at2 (a := 6) (b := 0) (by decide) e3
  clear g1 g2 g3 g15
  repeat' first | simp (maxSteps := 2000000) (disch := first | omega | assumption) only [go_sem, *] | (apply xs <;> intro _) <;> try omega | ((with_reducible refine isD 7 ?_); refine dw 51 7 w151_7 (by first | (simp only [go_sem, *]; done) | rfl) (by kernel_rfl) (by kernel_rfl) ?_) | refine fun (_ _ : List Nat) => ?_ | (first | refine inQ Tryz.func44 rfl ?_ ?_ ?_ ?_ | refine inQ Tryz.func151 rfl ?_ ?_ ?_ ?_ | refine inQ Tryz.func154 rfl ?_ ?_ ?_ ?_ | refine inQ Tryz.func158 rfl ?_ ?_ ?_ ?_ | fail) <;> intros
  exact ⟨g, by omega, hg2, S2.set (6, 0) _ ((eA g _ _).trans e3) (eD g)⟩
end Go.Proofs.YtlnglgpipkmiaaaGreat
set_option linter.unusedVariables false
set_option linter.unusedSimpArgs false
namespace Go.Proofs.YtlnglgpipkmiaaaGreat
open Go.Am
theorem _root_.Go.Am.St.aux {h : PT ABlk} {n i : Nat} {d : Rl → Nat} {C : Rl → Option ABlk} {B : Option ABlk} (S : St h n d C) (hi : ∀ r B, C r = some B → d r ≠ i) (hin : i < n) : St (h.set i B) n d C := by
  refine ⟨fun s D q => ?_, S.inj, S.wf.set (Nat.le_refl _) hin⟩
  rw [heap_ne (fun e => hi s D q e.symm)]; exact S.get s D q
set_option maxRecDepth 100000 in
set_option maxHeartbeats 8000000 in
theorem gBeginB {h : PT ABlk} {nb nn off len cap ba : Nat} {d : Rl → Nat} {C : Rl → Option ABlk} {base th b : Int} {v1 lk sd p q : Value} {t : Nat} {W : List Int} {L : List Value} {k : Nat} {Lf : List Int} (S : St h nn d C) (M : IsM d C W L k) (e5 : C (5, 0) = row [pt (d rM), I6 base, I6 nb, v1]) (e11 : C (11, t) = row [pt (d (5, 0)), I6 th, .slice (some ⟨d (12, t), off, none⟩) len cap, lk, sd, p, q]) (e12 : C (12, t) = row (Lf.map (.int .i64))) (hl : 0 < len) (hL : Lf[off]? = some b) (hb : 0 ≤ b ∧ b < 16) (hb0 : 0 ≤ base ∧ base < 100000) (ht : 0 ≤ th ∧ th < 64) (hba : base + 4 * b + 3 = ba) (hbw : ba < W.length) (hw : W.length ≤ 100000) :
    EvB Tryz.prog OP 160 [pt (d (11, t))] h nn fun r h' n' => ∃ g, nn ≤ g ∧ g < n' ∧ r = .agg ⟨[U8 2, .func (.func 166) ⟨[]⟩ ⟨[]⟩]⟩ ∧ St h' n' (upd d (13, t) g) (upd (upd C (13, t) (row [I6 0, I6 0, pt (d rM), I6 th, I6 ba, .func (.func 170) ⟨[pt g]⟩ ⟨[]⟩, I6 0])) (11, t) (row [pt (d (5, 0)), I6 th, .slice (some ⟨d (12, t), off, none⟩) len cap, pt g, sd, p, q])) := by
  obtain ⟨m1, m2, m3, m4⟩ := M
  have g0 := S.at m1
  have gw := S.at m2
  have g5 := S.at e5
  have g11 := S.at e11
  have g12 := S.at e12
  have n0 := S.lt m1
  have nw := S.lt m2
  have n5 := S.lt e5
  have hbl : Nat.blt 0 len = true := Nat.ble_eq_true_of_le hl
  have n11 := S.lt e11
  have n12 := S.lt e12
  have hLv : (Lf.map (Value.int .i64))[off]? = some (.int .i64 b) := by rw [List.getElem?_map, hL]; rfl
  have hg := mapW_get hbw
  have d1 := S.df m1 e11 (by simp)
  have d2 := S.df m2 e11 (by simp)
  obtain ⟨t1, t2⟩ := ht
  obtain ⟨b1, b2⟩ := hb
  obtain ⟨b3, b4⟩ := hb0
  have b5 : b < 100 := by omega
  have a1 : (0 : Int) ≤ (ba : Int) := by omega
  have a2 : (ba : Int) < (W.length : Int) := by omega
  have hl0 : ¬ (len : Int) = 0 := by omega
  clear m1 m2 m3 m4 e5 e12
  refine EvB_run (N := 32) Tryz.func160 rfl rfl fun z hP hO hro hN hQ => ?_
  repeat' first | simp (maxSteps := 2000000) (disch := first | omega | assumption) only [go_sem, *, wordsQ, bkL] | (apply xs <;> intro _) <;> try omega | ((with_reducible refine isD 3 ?_); refine dw 32 3 w160_3 (by first | (simp only [go_sem, *]; done) | rfl) (by kernel_rfl) (by kernel_rfl) ?_) | refine fun (_ _ : List Nat) => ?_ | (first | refine inQ Tryz.func164 rfl ?_ ?_ ?_ ?_ | refine inQ Tryz.func169 rfl ?_ ?_ ?_ ?_ | refine inQ Tryz.func69 rfl ?_ ?_ ?_ ?_ | refine inQ Tryz.func94 rfl ?_ ?_ ?_ ?_ | refine inQ Tryz.func93 rfl ?_ ?_ ?_ ?_ | fail) <;> intros
  refine ⟨nn + 1, by omega, by omega, ?_⟩
  refine St.aux ((((S.junk (Nat.le_refl _) (Nat.lt_succ_self _)).new (13, t) _ (Nat.le_refl _) (Nat.lt_succ_self _)).set (13, t) _ upd_same upd_same).set (11, t) _ ((upd_tag (by decide)).trans ((upd_tag (by decide)).trans e11)) (upd_tag (by decide)) |>.eq (by first | (rw [upd_upd]; done) | (rw [upd_upd]; rfl)) rfl) ?_ (by omega)
  intro r B e
  by_cases c : r = (13, t)
  · subst c; rw [upd_same]; omega
  · rw [upd_ne c]
    by_cases c2 : r = (11, t)
    · subst c2; have := S.lt e11; omega
    · rw [upd_ne c2, upd_ne c] at e
      have := S.lt e; omega
end Go.Proofs.YtlnglgpipkmiaaaGreat
