/-
  A part of the proof: contracts of inner functions.
-/
import Derived.Test.YtbceiadaihphaaaGreatPG
import Derived.Test.YtbceiadaihphaaaGreatAmV3
import Derived.Test.YtbceiadaihphaaaGreatPR2
set_option linter.unusedVariables false
set_option linter.unusedSimpArgs false
namespace Go.Proofs.YtbceiadaihphaaaGreat
open Go.Am
theorem undS : Tryz.prog.underlying 190 = some (.map 3 292) := by kernel_rfl
theorem und3 : Tryz.prog.underlying 3 = some (.int .i64) := by kernel_rfl
theorem zeroS : zeroOf Tryz.prog 292 = some (.pointer none) := by kernel_rfl
@[go_sem] theorem lkS {r : Nat} {x : Int} {ok : Bool} : lkQ Tryz.prog 190 (.map (some r)) (.int .i64 x) ok = .get r (lkB Tryz.prog (.int .i64) 292 (.int .i64 x) ok) := lkI undS und3
@[go_sem] theorem muS {r : Nat} {x : Int} {v : Value} : muQ Tryz.prog 190 (.map (some r)) (.int .i64 x) v = .get r (muB Tryz.prog r (.int .i64) (.int .i64 x) v) := muI undS und3
@[go_sem] theorem dlS {ts : List TypeId} {r : Nat} {x : Int} : bltQ Tryz.prog .delete (190 :: ts) [.map (some r), .int .i64 x] = .get r (dlB Tryz.prog r (.int .i64) (.int .i64 x)) := dlI undS und3
attribute [go_sem] lkI_map muI_map dlI_map
@[go_sem] theorem lkR_none : lkR Tryz.prog 292 true (some none) = .pure (.value (.tuple ⟨[.pointer none, .bool false]⟩)) := by simp only [lkR, zeroS, cond_true]
@[go_sem] theorem lkR_some {i : Nat} {v : Value} : lkR Tryz.prog 292 true (some (some (i, v))) = .pure (.value (.tuple ⟨[v, .bool true]⟩)) := rfl
@[go_sem] theorem muR_none {r : Nat} {k v : Value} {es : List (Value × Value × Nat)} {c : Nat} : muR r true k v es c (some none) = .set r (.map (es ++ [(k, v, c)]) (c + 1)) (.pure .skip) := rfl
@[go_sem] theorem dlR_some {r i : Nat} {l : List IEnt} {k : IntKind} {c : Nat} {v : Value} : dlR r l k c (some (i, v)) = .set r (.map (ient k (l.eraseIdx i)) c) (.pure (.value (.tuple ⟨[]⟩))) := rfl
structure EngG (d : Rl → Nat) (C : Rl → Option ABlk) (base : Int) (nb n : Nat) (X : List IEnt) (ck : Nat) : Prop where
 prcu : C (4, 0) = row [.iface 160 (.agg ⟨[.iface 154 (pt (d (5, 0)))]⟩), U8 3, I6 n]
 eng : C (5, 0) = row [pt (d rM), I6 base, I6 nb, .map (some (d (6, 0)))]
 secs : C (6, 0) = some (.map (ient .i64 X) ck)
set_option maxRecDepth 100000 in
set_option maxHeartbeats 8000000 in
theorem gEnterB {h : PT ABlk} {n nb nn : Nat} {d : Rl → Nat} {C : Rl → Option ABlk} {base th v : Int} {X : List IEnt} {ck s t : Nat} (S : St h nn d C) (E : EngG d C base nb n X ck) (ht : 0 ≤ th ∧ th < 64) (hn : n ≤ 64) (hs : s < n) (hv : 0 ≤ v ∧ v < 64) (hnb : 0 < nb ∧ nb ≤ 16) (hb : 0 ≤ base ∧ base < 100000) (hX : ∀ e ∈ X, e.1 ≠ (s : Int)) :
  EvB Tryz.prog OP 69 [pt (d (4, 0)), I6 th, I6 s, I6 v] h nn fun r h' n' => ∃ p q g, nn ≤ g ∧ g < q ∧ q < p ∧ p < n' ∧ r = tup [pt p, I6 0] ∧ St h' n' (upd (upd (upd d (15, s) g) (9, t) q) (8, t) p) (upd (upd (upd (upd C (15, s) (row [I6 (-1), .bool false])) (6, 0) (some (.map (ient .i64 (X ++ [((s : Int), pt g, ck)])) (ck + 1)))) (9, t) (row ([pt (d rM), I6 th] ++ bkL base (v.tmod nb) ++ [pt g]))) (8, t) (row [.iface 291 (pt q)])) := by
 obtain ⟨e1, e2, e3⟩ := E
 have g1 := S.at e1
 have g2 := S.at e2
 have g3 := S.at e3
 have n1 := S.lt e1
 have n2 := S.lt e2
 have n3 := S.lt e3
 have d1 := S.df e2 e3 (by simp)
 obtain ⟨t1, t2⟩ := ht
 obtain ⟨v1, v2⟩ := hv
 obtain ⟨b1, b2⟩ := hnb
 obtain ⟨b3, b4⟩ := hb
 have s1 : (s : Int) < n := by omega
 have hf : ifind (s : Int) X 0 = none := ifind_none hX
 have hm1 := Int.tmod_nonneg (nb : Int) v1
 have hm2 := Int.tmod_lt_of_pos v (show (0 : Int) < nb by omega)
 generalize hbk : v.tmod nb = bk at *
 have nb0 : ¬ (nb : Int) = 0 := by omega
 have c9 : bk < 100 := by omega
 clear e1 e2 hX
 refine EvB_run (N := 37) Tryz.func69 rfl rfl fun z hP hO hro hN hQ => ?_
 repeat' first | simp (maxSteps := 2000000) (disch := first | omega | assumption) only [go_sem, *, bucketQ, bkL] | (apply xs <;> intro _) <;> try omega | ((with_reducible refine isD 12 ?_); refine dw 67 12 w163_12 (by first | (simp only [go_sem, *]; done) | rfl) (by kernel_rfl) (by kernel_rfl) ?_) | refine fun (_ _ : List Nat) => ?_ | (first | refine inQ Tryz.func77 rfl ?_ ?_ ?_ ?_ | refine inQ Tryz.func194 rfl ?_ ?_ ?_ ?_ | refine inQ Tryz.func163 rfl ?_ ?_ ?_ ?_ | refine inQ Tryz.func167 rfl ?_ ?_ ?_ ?_ | refine inQ Tryz.func171 rfl ?_ ?_ ?_ ?_ | refine inQ Tryz.func168 rfl ?_ ?_ ?_ ?_ | refine inQ Tryz.func85 rfl ?_ ?_ ?_ ?_ | refine inQ Tryz.func196 rfl ?_ ?_ ?_ ?_ | fail) <;> intros
 exact ⟨nn + 3, nn + 2, nn + 1, by omega, by omega, by omega, by omega, rfl, (((((S.junk (Nat.le_refl _) (Nat.lt_succ_self _)).new (15, s) _ (Nat.le_refl _) (Nat.lt_succ_self _)).set (6, 0) _ ((upd_tag (by decide)).trans e3) (upd_tag (by decide))).new (9, t) _ (Nat.le_refl _) (Nat.lt_succ_self _)).new (8, t) _ (Nat.le_refl _) (Nat.lt_succ_self _)).eq (by first | (rw [ient_snoc]; done) | (rw [ient_snoc]; rfl)) rfl⟩
end Go.Proofs.YtbceiadaihphaaaGreat
set_option linter.unusedVariables false
set_option linter.unusedSimpArgs false
namespace Go.Proofs.YtbceiadaihphaaaGreat
open Go.Am
theorem wrapU64 {x : Int} (h1 : 0 ≤ x) (h2 : x < 18446744073709551616) : IntKind.u64.wrap x = x := by
 simp only [IntKind.wrap, IntKind.bits, IntKind.signed, Bool.false_and, Bool.false_eq_true, if_false]
 omega
set_option maxRecDepth 100000 in
set_option maxHeartbeats 8000000 in
theorem gGateB {h : PT ABlk} {n nb nn : Nat} {d : Rl → Nat} {C : Rl → Option ABlk} {base th bk : Int} {W : List Int} {L : List Value} {k s t ba : Nat} {w : Int} (S : St h nn d C) (M : IsM d C W L k) (hk : k ≤ 100000) (ht : 0 ≤ th ∧ th < 64) (hbk : 0 ≤ bk ∧ bk < 16) (hba : base + 4 * bk + 0 = ba) (hb0 : 0 ≤ base) (hb : ba < W.length) (hw : W.length ≤ 100000) (hW : W[ba] = w) (hwr : 0 ≤ w ∧ w < 2)
  (e8 : C (8, t) = row [.iface 291 (pt (d (9, t)))]) (e9 : C (9, t) = row ([pt (d rM), I6 th] ++ bkL base bk ++ [pt (d (15, s))])) (e15 : C (15, s) = row [I6 (-1), .bool false]) :
  EvB Tryz.prog OP 57 [pt (d (8, t))] h nn fun r h' n' => ∃ g, nn ≤ g ∧ g < n' ∧ r = tup [U8 15, .bool false] ∧ St h' n' (upd d rL g) (upd (memC C (d rW) g W (L ++ accV th ba 1 w w false) (k + 1)) (15, s) (row [I6 (base + 4 * bk + 1 + w), .bool false])) := by
 have g8 := S.at e8
 have g9 := S.at e9
 have g15 := S.at e15
 have n8 := S.lt e8
 have n9 := S.lt e9
 have n15 := S.lt e15
 obtain ⟨t1, t2⟩ := ht
 obtain ⟨b1, b2⟩ := hbk
 obtain ⟨w1, w2⟩ := hwr
 have eA : ∀ g, memC C (d rW) g W (L ++ accV th ba 1 w w false) (k + 1) (15, s) = C (15, s) := fun g => memC_ne (by decide)
 have eD : ∀ g, upd d rL g (15, s) = d (15, s) := fun g => upd_tag (by decide)
 simp only [bkL, List.cons_append, List.nil_append] at g9
 refine EvB_run (N := 13) Tryz.func57 rfl rfl fun z hP hO hro hN hQ => ?_
 repeat' first | simp (maxSteps := 2000000) (disch := first | omega | assumption) only [go_sem, *] | (apply xs <;> intro _) <;> try omega | ((with_reducible refine isD 4 ?_); refine dw 69 4 w216_4 (by first | (simp only [go_sem, *]; done) | rfl) (by kernel_rfl) (by kernel_rfl) ?_) | refine fun (_ _ : List Nat) => ?_ | (first | refine inQ Tryz.func216 rfl ?_ ?_ ?_ ?_ | refine inQ Tryz.func215 rfl ?_ ?_ ?_ ?_ | fail) <;> intros
 refine cal (loadB OPm S M hk ⟨t1, t2⟩ hb) (by simp only [*]) (by simp only [*]) (by simp only [go_sem, *]) (by simp only [go_sem, *]) ?_
 rintro r h2 n2' ⟨g, hg1, hg2, rfl, S2⟩
 rw [hW] at S2 ⊢
 have f9 := S2.at2 (a := 9) (b := t) (by decide) e9
 have f15 := S2.at2 (a := 15) (b := s) (by decide) e15
 simp only [bkL, List.cons_append, List.nil_append] at f9
 clear g8 g9 g15
 by_cases c1 : w = 0
 ·subst c1
  have c2 : (0 : Int).tmod 2 = 0 := rfl
  repeat' first | simp (maxSteps := 2000000) (disch := first | omega | assumption) only [go_sem, *] | (apply xs <;> intro _) <;> try omega | ((with_reducible refine isD 5 ?_); refine dw 69 5 w216_5 (by first | (simp only [go_sem, *]; done) | rfl) (by kernel_rfl) (by kernel_rfl) ?_) | refine fun (_ _ : List Nat) => ?_
  exact ⟨g, by omega, hg2, (S2.set (15, s) _ ((eA g).trans e15) (eD g)).eq (by first | (rw [Int.add_zero]; done) | (rw [Int.add_zero]; rfl)) rfl⟩
 ·have c2 : w = 1 := by omega
  subst c2
  have c3 : (1 : Int).tmod 2 = 1 := rfl
  repeat' first | simp (maxSteps := 2000000) (disch := first | omega | assumption) only [go_sem, *] | (apply xs <;> intro _) <;> try omega | ((with_reducible refine isD 5 ?_); refine dw 69 5 w216_5 (by first | (simp only [go_sem, *]; done) | rfl) (by kernel_rfl) (by kernel_rfl) ?_) | refine fun (_ _ : List Nat) => ?_
  exact ⟨g, by omega, hg2, (S2.set (15, s) _ ((eA g).trans e15) (eD g)).eq (by first | (rw [Int.add_assoc _ 1 1]; done) | (rw [Int.add_assoc _ 1 1]; rfl)) rfl⟩
set_option maxRecDepth 100000 in
set_option maxHeartbeats 8000000 in
theorem gCountB {h : PT ABlk} {n nb nn : Nat} {d : Rl → Nat} {C : Rl → Option ABlk} {base th bk : Int} {W : List Int} {L : List Value} {k s t ba : Nat} {w : Int} (S : St h nn d C) (M : IsM d C W L k) (hk : k ≤ 100000) (ht : 0 ≤ th ∧ th < 64) (hb : ba < W.length) (hw : W.length ≤ 100000) (hW : W[ba] = w) (hwr : 0 ≤ w ∧ w < 18446744073709551615)
  (e8 : C (8, t) = row [.iface 291 (pt (d (9, t)))]) (e9 : C (9, t) = row ([pt (d rM), I6 th] ++ bkL base bk ++ [pt (d (15, s))])) (e15 : C (15, s) = row [I6 ba, .bool false]) :
  EvB Tryz.prog OP 57 [pt (d (8, t))] h nn fun r h' n' => ∃ g, nn ≤ g ∧ g < n' ∧ r = tup [U8 16, .bool true] ∧ St h' n' (upd d rL g) (upd (memC C (d rW) g (W.set ba (w + 1)) (L ++ accV th ba 3 w (w + 1) false) (k + 1)) (15, s) (row [I6 ba, .bool true])) := by
 have g8 := S.at e8
 have g9 := S.at e9
 have g15 := S.at e15
 have n8 := S.lt e8
 have n9 := S.lt e9
 have n15 := S.lt e15
 obtain ⟨t1, t2⟩ := ht
 obtain ⟨w1, w2⟩ := hwr
 have eA : ∀ g W' L', memC C (d rW) g W' L' (k + 1) (15, s) = C (15, s) := fun g W' L' => memC_ne (by decide)
 have eD : ∀ g, upd d rL g (15, s) = d (15, s) := fun g => upd_tag (by decide)
 have eW : IntKind.u64.wrap (w + 1) = w + 1 := wrapU64 (by omega) (by omega)
 have eW2 : IntKind.u64.wrap (w + 1 - 1) = w := by rw [show w + 1 - 1 = w by omega]; exact wrapU64 (by omega) (by omega)
 simp only [bkL, List.cons_append, List.nil_append] at g9
 refine EvB_run (N := 13) Tryz.func57 rfl rfl fun z hP hO hro hN hQ => ?_
 repeat' first | simp (maxSteps := 2000000) (disch := first | omega | assumption) only [go_sem, *] | (apply xs <;> intro _) <;> try omega | ((with_reducible refine isD 7 ?_); refine dw 69 7 w216_7 (by first | (simp only [go_sem, *]; done) | rfl) (by kernel_rfl) (by kernel_rfl) ?_) | refine fun (_ _ : List Nat) => ?_ | (first | refine inQ Tryz.func216 rfl ?_ ?_ ?_ ?_ | refine inQ Tryz.func215 rfl ?_ ?_ ?_ ?_ | fail) <;> intros
 refine cal (addB (x := 1) OPm S M hk ⟨t1, t2⟩ hb) (by simp only [*]) (by simp only [*]) (by simp only [go_sem, *]) (by simp only [go_sem, *]) ?_
 rintro r h2 n2' ⟨g, hg1, hg2, rfl, S2⟩
 rw [hW, eW, eW2] at S2
 rw [hW, eW]
 have f9 := S2.at2 (a := 9) (b := t) (by decide) e9
 have f15 := S2.at2 (a := 15) (b := s) (by decide) e15
 simp only [bkL, List.cons_append, List.nil_append] at f9
 clear g8 g9 g15
 repeat' first | simp (maxSteps := 2000000) (disch := first | omega | assumption) only [go_sem, *] | (apply xs <;> intro _) <;> try omega | refine fun (_ _ : List Nat) => ?_
 exact ⟨g, by omega, hg2, S2.set (15, s) _ ((eA g _ _).trans e15) (eD g)⟩
end Go.Proofs.YtbceiadaihphaaaGreat
set_option linter.unusedVariables false
set_option linter.unusedSimpArgs false
namespace Go.Proofs.YtbceiadaihphaaaGreat
open Go.Am
set_option maxRecDepth 100000 in
set_option maxHeartbeats 8000000 in
theorem gExitB {h : PT ABlk} {n nb nn : Nat} {d : Rl → Nat} {C : Rl → Option ABlk} {base th : Int} {X : List IEnt} {ck cj j : Nat} {W : List Int} {L : List Value} {k s ba : Nat} {w : Int} (S : St h nn d C) (E : EngG d C base nb n X ck) (M : IsM d C W L k) (hk : k ≤ 100000) (ht : 0 ≤ th ∧ th < 64) (hn : n ≤ 64) (hs : s < n) (hj : X[j]? = some ((s : Int), pt (d (15, s)), cj)) (hjn : ∀ m e, m < j → X[m]? = some e → e.1 ≠ (s : Int)) (hb : ba < W.length) (hw : W.length ≤ 100000) (hW : W[ba] = w) (hwr : 1 ≤ w ∧ w < 18446744073709551615) (e15 : C (15, s) = row [I6 ba, .bool true]) :
  EvB Tryz.prog OP 60 [pt (d (4, 0)), I6 th, I6 s] h nn fun r h' n' => ∃ g, nn ≤ g ∧ g < n' ∧ r = tup [U8 16, I6 0] ∧ St h' n' (upd d rL g) (upd (memC C (d rW) g (W.set ba (w - 1)) (L ++ accV th ba 3 w (w - 1) false) (k + 1)) (6, 0) (some (.map (ient .i64 (X.eraseIdx j)) ck))) := by
 obtain ⟨e1, e2, e3⟩ := E
 have g1 := S.at e1
 have g2 := S.at e2
 have g3 := S.at e3
 have g15 := S.at e15
 have n1 := S.lt e1
 have n2 := S.lt e2
 have n3 := S.lt e3
 have n15 := S.lt e15
 obtain ⟨t1, t2⟩ := ht
 obtain ⟨w1, w2⟩ := hwr
 have s1 : (s : Int) < n := by omega
 have hf : ifind (s : Int) X 0 = some (j, pt (d (15, s))) := by rw [ifind_some hj hjn, Nat.zero_add]
 have eA : ∀ g W' L', memC C (d rW) g W' L' (k + 1) (6, 0) = C (6, 0) := fun g W' L' => memC_ne (by decide)
 have eD : ∀ g, upd d rL g (6, 0) = d (6, 0) := fun g => upd_tag (by decide)
 have eW : IntKind.u64.wrap (w + 18446744073709551615) = w - 1 := by
  simp only [IntKind.wrap, IntKind.bits, IntKind.signed, Bool.false_and, Bool.false_eq_true, if_false]; omega
 have eW2 : IntKind.u64.wrap (w - 1 - 18446744073709551615) = w := by
  simp only [IntKind.wrap, IntKind.bits, IntKind.signed, Bool.false_and, Bool.false_eq_true, if_false]; omega
 clear e1 hj hjn
 refine EvB_run (N := 25) Tryz.func60 rfl rfl fun z hP hO hro hN hQ => ?_
 repeat' first | simp (maxSteps := 2000000) (disch := first | omega | assumption) only [go_sem, *] | (apply xs <;> intro _) <;> try omega | ((with_reducible refine isD 7 ?_); refine dw 51 7 w164_7 (by first | (simp only [go_sem, *]; done) | rfl) (by kernel_rfl) (by kernel_rfl) ?_) | refine fun (_ _ : List Nat) => ?_ | (first | refine inQ Tryz.func77 rfl ?_ ?_ ?_ ?_ | refine inQ Tryz.func164 rfl ?_ ?_ ?_ ?_ | refine inQ Tryz.func167 rfl ?_ ?_ ?_ ?_ | refine inQ Tryz.func171 rfl ?_ ?_ ?_ ?_ | fail) <;> intros
 refine cal (addB (x := 18446744073709551615) OPm S M hk ⟨t1, t2⟩ hb) (by simp only [*]) (by simp only [*]) (by simp only [go_sem, *]) (by simp only [go_sem, *]) ?_
 rintro r h2 n2' ⟨g, hg1, hg2, rfl, S2⟩
 rw [hW, eW, eW2] at S2
 rw [hW, eW]
 have f2 := S2.at2 (a := 5) (b := 0) (by decide) e2
 have f6 := S2.at2 (a := 6) (b := 0) (by decide) e3
 clear g1 g2 g3 g15
 repeat' first | simp (maxSteps := 2000000) (disch := first | omega | assumption) only [go_sem, *] | (apply xs <;> intro _) <;> try omega | refine fun (_ _ : List Nat) => ?_
 exact ⟨g, by omega, hg2, S2.set (6, 0) _ ((eA g _ _).trans e3) (eD g)⟩
end Go.Proofs.YtbceiadaihphaaaGreat
set_option linter.unusedVariables false
set_option linter.unusedSimpArgs false
namespace Go.Proofs.YtbceiadaihphaaaGreat
open Go.Am
theorem _root_.Go.Am.St.aux {h : PT ABlk} {n i : Nat} {d : Rl → Nat} {C : Rl → Option ABlk} {B : Option ABlk} (S : St h n d C) (hi : ∀ r B, C r = some B → d r ≠ i) (hin : i < n) : St (h.set i B) n d C := by
 refine ⟨fun s D q => ?_, S.inj, S.wf.set (Nat.le_refl _) hin⟩
 rw [heap_ne (fun e => hi s D q e.symm)]; exact S.get s D q
set_option maxRecDepth 100000 in
set_option maxHeartbeats 8000000 in
theorem gBeginB {h : PT ABlk} {nb nn off len cap ba : Nat} {d : Rl → Nat} {C : Rl → Option ABlk} {base th b : Int} {v1 lk sd p q : Value} {t : Nat} {W : List Int} {L : List Value} {k : Nat} {Lf : List Int} (S : St h nn d C) (M : IsM d C W L k) (e5 : C (5, 0) = row [pt (d rM), I6 base, I6 nb, v1]) (e11 : C (11, t) = row [pt (d (5, 0)), I6 th, .slice (some ⟨d (12, t), off, none⟩) len cap, lk, sd, p, q]) (e12 : C (12, t) = row (Lf.map (.int .i64))) (hl : 0 < len) (hL : Lf[off]? = some b) (hb : 0 ≤ b ∧ b < 16) (hb0 : 0 ≤ base ∧ base < 100000) (ht : 0 ≤ th ∧ th < 64) (hba : base + 4 * b + 3 = ba) (hbw : ba < W.length) (hw : W.length ≤ 100000) :
  EvB Tryz.prog OP 173 [pt (d (11, t))] h nn fun r h' n' => ∃ g, nn ≤ g ∧ g < n' ∧ r = .agg ⟨[U8 2, .func (.func 177) ⟨[]⟩ ⟨[]⟩]⟩ ∧ St h' n' (upd d (13, t) g) (upd (upd C (13, t) (row [I6 0, I6 0, pt (d rM), I6 th, I6 ba, .func (.func 180) ⟨[pt g]⟩ ⟨[]⟩, I6 0])) (11, t) (row [pt (d (5, 0)), I6 th, .slice (some ⟨d (12, t), off, none⟩) len cap, pt g, sd, p, q])) := by
 obtain ⟨m1, m2, m3, m4⟩ := M
 have g0 := S.at m1
 have gw := S.at m2
 have g5 := S.at e5
 have g11 := S.at e11
 have g12 := S.at e12
 have n0 := S.lt m1
 have nw := S.lt m2
 have n5 := S.lt e5
 have hbl : Nat.blt 0 len = true := Nat.ble_eq_true_of_le hl
 have n11 := S.lt e11
 have n12 := S.lt e12
 have hLv : (Lf.map (Value.int .i64))[off]? = some (.int .i64 b) := by rw [List.getElem?_map, hL]; rfl
 have hg := mapW_get hbw
 have d1 := S.df m1 e11 (by simp)
 have d2 := S.df m2 e11 (by simp)
 obtain ⟨t1, t2⟩ := ht
 obtain ⟨b1, b2⟩ := hb
 obtain ⟨b3, b4⟩ := hb0
 have b5 : b < 100 := by omega
 have a1 : (0 : Int) ≤ (ba : Int) := by omega
 have a2 : (ba : Int) < (W.length : Int) := by omega
 have hl0 : ¬ (len : Int) = 0 := by omega
 clear m1 m2 m3 m4 e5 e12
 refine EvB_run (N := 32) Tryz.func173 rfl rfl fun z hP hO hro hN hQ => ?_
 repeat' first | simp (maxSteps := 2000000) (disch := first | omega | assumption) only [go_sem, *, wordsQ, bkL] | (apply xs <;> intro _) <;> try omega | ((with_reducible refine isD 3 ?_); refine dw 32 3 w173_3 (by first | (simp only [go_sem, *]; done) | rfl) (by kernel_rfl) (by kernel_rfl) ?_) | refine fun (_ _ : List Nat) => ?_ | (first | refine inQ Tryz.func175 rfl ?_ ?_ ?_ ?_ | refine inQ Tryz.func179 rfl ?_ ?_ ?_ ?_ | refine inQ Tryz.func79 rfl ?_ ?_ ?_ ?_ | refine inQ Tryz.func90 rfl ?_ ?_ ?_ ?_ | refine inQ Tryz.func89 rfl ?_ ?_ ?_ ?_ | fail) <;> intros
 refine ⟨nn + 1, by omega, by omega, ?_⟩
 refine St.aux ((((S.junk (Nat.le_refl _) (Nat.lt_succ_self _)).new (13, t) _ (Nat.le_refl _) (Nat.lt_succ_self _)).set (13, t) _ upd_same upd_same).set (11, t) _ ((upd_tag (by decide)).trans ((upd_tag (by decide)).trans e11)) (upd_tag (by decide)) |>.eq (by first | (rw [upd_upd]; done) | (rw [upd_upd]; rfl)) rfl) ?_ (by omega)
 intro r B e
 by_cases c : r = (13, t)
 ·subst c; rw [upd_same]; omega
 ·rw [upd_ne c]
  by_cases c2 : r = (11, t)
  ·subst c2; have := S.lt e11; omega
  ·rw [upd_ne c2, upd_ne c] at e
   have := S.lt e; omega
end Go.Proofs.YtbceiadaihphaaaGreat
set_option linter.unusedVariables false
set_option linter.unusedSimpArgs false
namespace Go.Proofs.YtbceiadaihphaaaGreat
open Go.Am
theorem _root_.Go.Am.St.give {h : PT ABlk} {n i : Nat} {d : Rl → Nat} {C : Rl → Option ABlk} {B : ABlk} (S : St h n d C) (r : Rl) (e : h.get i = some B) (hi : ∀ s D, C s = some D → d s ≠ i) : St h n (upd d r i) (upd C r (some B)) := by
 refine ⟨fun s D q => ?_, fun s t q1 q2 q => ?_, S.wf⟩
 ·unfold upd at q ⊢
  split at q
  ·rename_i c; rw [if_pos c]; rw [← Option.some.inj q]; exact e
  ·rename_i c; rw [if_neg c]; exact S.get s D q
 ·unfold upd at q q1 q2
  by_cases c1 : s = r
  ·by_cases c2 : t = r
   ·rw [c1, c2]
   ·rw [if_pos c1, if_neg c2] at q
    rw [if_neg c2] at q2
    obtain ⟨D, hD⟩ := Option.ne_none_iff_exists'.1 q2
    exact absurd q.symm (hi t D hD)
  ·by_cases c2 : t = r
   ·rw [if_neg c1, if_pos c2] at q
    rw [if_neg c1] at q1
    obtain ⟨D, hD⟩ := Option.ne_none_iff_exists'.1 q1
    exact absurd q (hi s D hD)
   ·rw [if_neg c1, if_neg c2] at q
    rw [if_neg c1] at q1
    rw [if_neg c2] at q2
    exact S.inj s t q1 q2 q
theorem IsM.upd {d : Rl → Nat} {C : Rl → Option ABlk} {W : List Int} {L : List Value} {k a b i : Nat} {B : Option ABlk} (M : IsM d C W L k) (ha : 2 < a) : IsM (upd d (a, b) i) (upd C (a, b) B) W L k := by
 obtain ⟨m1, m2, m3, m4⟩ := M
 refine ⟨?_, ?_, ?_, m4⟩
 ·rw [upd_tag (by omega), upd_tag (by omega), upd_tag (by omega)]; exact m1
 ·rw [upd_tag (by omega)]; exact m2
 ·rw [upd_tag (by omega)]; exact m3
def wants (nb : Nat) (ms : List Nat) (b : Nat) : Bool := ms.any fun v => decide (v % nb = b)
def lefts (nb : Nat) (ms : List Nat) : List Nat := (List.range nb).filter (wants nb ms)
theorem lefts_at (nb : Nat) (ms : List Nat) (b : Nat) : (List.range (b + 1)).filter (wants nb ms) = (List.range b).filter (wants nb ms) ++ if wants nb ms b = true then [b] else [] := by
 rw [List.range_succ, List.filter_append]
 congr 1
 by_cases c : wants nb ms b = true
 ·simp [c]
 ·simp [c]
def gw0 (e : Nat) (th : Int) (sl : Value) : List Value := [pt e, I6 th, sl, .pointer none, U6 0, U8 0, .nilFunc]
theorem mem_mbs : ∀ (f v s b : Nat), s < 2 ^ f → (b ∈ mbs f v s ↔ v ≤ b ∧ s.testBit (b - v) = true)
 | 0, v, s, b, h => by
  have : s = 0 := by simpa using h
  subst this
  simp [mbs]
 | f + 1, v, s, b, h => by
  rw [mbs]
  by_cases h0 : s = 0
  ·subst h0; simp
  ·rw [if_neg h0]
   have hlt : s / 2 < 2 ^ f := by rw [Nat.pow_succ] at h; omega
   have ih := mem_mbs f (v + 1) (s / 2) b hlt
   have key : v + 1 ≤ b → (s / 2).testBit (b - (v + 1)) = s.testBit (b - v) := fun hb => by
    rw [show b - v = (b - (v + 1)) + 1 by omega, Nat.testBit_succ]
   by_cases h1 : s % 2 = 1
   ·rw [if_pos h1, List.mem_cons, ih]
    constructor
    ·rintro (rfl | ⟨a, c⟩)
     ·exact ⟨Nat.le_refl _, by rw [Nat.sub_self, Nat.testBit_zero]; simpa using h1⟩
     ·exact ⟨by omega, by rw [← key a]; exact c⟩
    ·rintro ⟨a, c⟩
     by_cases hb : b = v
     ·exact .inl hb
     ·exact .inr ⟨by omega, by rw [key (by omega)]; exact c⟩
   ·rw [if_neg h1, ih]
    constructor
    ·rintro ⟨a, c⟩
     exact ⟨by omega, by rw [← key a]; exact c⟩
    ·rintro ⟨a, c⟩
     have hb : b ≠ v := fun e => by
      subst e
      rw [Nat.sub_self, Nat.testBit_zero] at c
      simp at c
      omega
     exact ⟨by omega, by rw [key (by omega)]; exact c⟩
theorem mbs_lt {s b : Nat} (hs : s < 2 ^ 64) (hb : b ∈ mbs 64 0 s) : b < 64 := by
 have := ((mem_mbs 64 0 s b hs).1 hb).2
 rw [Nat.sub_zero] at this
 by_cases c : b < 64
 ·exact c
 ·rw [Nat.testBit_lt_two_pow (Nat.lt_of_lt_of_le hs (Nat.pow_le_pow_right (by omega) (by omega)))] at this
  simp at this
set_option maxRecDepth 100000 in
set_option maxHeartbeats 8000000 in
theorem gEWaitB {h : PT ABlk} {nb nn s : Nat} {d : Rl → Nat} {C : Rl → Option ABlk} {base th : Int} {v1 : Value} {t k ba b0 : Nat} {W : List Int} {L : List Value} (S : St h nn d C) (M : IsM d C W L k) (hb0 : 0 ≤ base ∧ base < 100000) (hbw : base + 4 * nb ≤ W.length) (hw : W.length ≤ 100000) (e5 : C (5, 0) = row [pt (d rM), I6 base, I6 nb, v1]) (ht : 0 ≤ th ∧ th < 64) (hnb : 0 < nb ∧ nb ≤ 16) (hs : s < 2 ^ 64) (hs0 : s ≠ 0) (hbb : (lefts nb (mbs 64 0 s))[0]? = some b0) (hba : base + 4 * (b0 : Int) + 3 = ba) (hbn : b0 < nb) :
  EvB Tryz.prog OP 166 [pt (d (5, 0)), I6 th, U6 s] h nn fun r h' n' => ∃ p q g, nn ≤ p ∧ p < q ∧ q < g ∧ g < n' ∧ r = tup [pt p, I6 0] ∧ St h' n' (upd (upd (upd d (11, t) p) (12, t) q) (13, t) g) (upd (upd (upd (upd C (11, t) (row (gw0 (d (5, 0)) th (.slice (some ⟨q, 0, none⟩) (lefts nb (mbs 64 0 s)).length (capInf + 1))))) (12, t) (row ((lefts nb (mbs 64 0 s)).map fun b : Nat => Value.int .i64 (b : Int)))) (13, t) (row [I6 0, I6 0, pt (d rM), I6 th, I6 ba, .func (.func 180) ⟨[pt g]⟩ ⟨[]⟩, I6 0])) (11, t) (row [pt (d (5, 0)), I6 th, .slice (some ⟨q, 0, none⟩) (lefts nb (mbs 64 0 s)).length (capInf + 1), pt g, U6 0, U8 2, .func (.func 177) ⟨[]⟩ ⟨[]⟩])) := by
 have g5 := S.at e5
 have n5 := S.lt e5
 obtain ⟨t1, t2⟩ := ht
 have s1 : ¬ (s : Int) = 0 := by omega
 have W0 := S.wf
 generalize hde : d (5, 0) = de at *
 generalize hdm : d rM = dm at *
 have oM := @membersB OP rfl rfl s hs
 have hml := mbs_length 64 0 s
 have hmv : ∀ v ∈ mbs 64 0 s, v < 64 := fun v hv => mbs_lt hs hv
 generalize mbs 64 0 s = ms at *
 have nb0 : ¬ (nb : Int) = 0 := by omega
 refine EvB_run (N := 71) Tryz.func166 rfl rfl fun z hP hO hro hN hQ => ?_
 repeat' first | simp (maxSteps := 2000000) (disch := first | omega | assumption) only [go_sem, *] | (apply xs <;> intro _) <;> try omega | refine fun (_ _ : List Nat) => ?_ | (first | refine inQ Tryz.func171 rfl ?_ ?_ ?_ ?_ | fail) <;> intros
 refine ind_loop (fun t m h' n' => ∃ (b : Nat) (sl : Value), b + t = nb ∧ m.n = 71 ∧ m.dfs = [] ∧ m.get 0 = pt de ∧ m.get 2 = U6 s ∧ m.get 9 = pt nn ∧ m.get 30 = I6 nb ∧ m.get 31 = I6 b ∧ Kept h h' ∧ WfH h' n' ∧ nn + 1 ≤ n' ∧ h'.get nn = row (gw0 de th sl) ∧ GrowInts .i64 h' (nn + 1) sl (((List.range b).filter (wants nb ms)).map fun v : Nat => (v : Int))) nb ?_ ?_
 ·refine ⟨0, .slice none 0 0, by omega, ?_⟩
  have k1 : Kept h (h.set nn (row (gw0 de th (.slice none 0 0)))) := Kept.set' W0 (Nat.le_refl _) (Kept.refl _)
  have k2 : WfH (h.set nn (row (gw0 de th (.slice none 0 0)))) (nn + 1) := W0.set (by omega) (by omega)
  simp only [gw0] at k1 k2
  simp only [gw0, List.range_zero, List.filter_nil, List.map_nil]
  simp (maxSteps := 2000000) (disch := first | omega | assumption) only [go_sem, *]
  exact ⟨Nat.le_refl _, .inl ⟨rfl, rfl⟩⟩
 ·rintro tt m h1 n1 ih ⟨b, sl, hbt, m1, m2, m3, m4, m5, m6, m7, q1, q2, q3, q4, q5⟩
  simp only [gw0] at q4
  have q6 := q1 _ _ g5
  clear g5
  by_cases hb : b = nb
  ·have hb' : (b : Int) = nb := by omega
   clear ih
   subst hb
   obtain ⟨g, w1, w2, w3⟩ : ∃ g, sl = .slice (some ⟨g, 0, none⟩) (lefts b ms).length (capInf + 1) ∧ nn + 1 ≤ g ∧ h1.get g = row ((lefts b ms).map fun b : Nat => Value.int .i64 (b : Int)) := by
    rcases q5 with ⟨w1, w2⟩ | ⟨g, w1, w2, w3⟩
    ·have : lefts b ms = [] := List.map_eq_nil_iff.1 w2
     rw [this] at hbb; simp at hbb
    ·exact ⟨g, by rw [w1, List.length_map]; rfl, w2, by rw [w3, List.map_map]; rfl⟩
   have St1 := ((S.kept q1 q2).give (11, t) q4 fun r D e => by have := S.lt e; omega).give (12, t) w3 fun r D e => by
    by_cases c : r = (11, t)
    ·subst c; rw [upd_same]; omega
    ·rw [upd_ne c] at e ⊢
     have := S.lt e; omega
   have M1 := (M.upd (a := 11) (b := t) (i := nn) (B := row [pt de, I6 th, sl, .pointer none, U6 0, U8 0, .nilFunc]) (by omega)).upd (a := 12) (b := t) (i := g) (B := row ((lefts b ms).map fun b : Nat => Value.int .i64 (b : Int))) (by omega)
   subst w1
   have hlen : 0 < (lefts b ms).length := by
    cases hc : lefts b ms with
    | nil => rw [hc] at hbb; simp at hbb
    | cons _ _ => simp
   have hb16 : (0 : Int) ≤ (b0 : Int) ∧ (b0 : Int) < 16 := by omega
   have bg := gBeginB (nb := b) (off := 0) (len := (lefts b ms).length) (cap := capInf + 1) (ba := ba) (base := base) (th := th) (b := b0) (v1 := v1) (lk := .pointer none) (sd := U6 0) (p := U8 0) (q := .nilFunc) (t := t) (Lf := (lefts b ms).map fun b : Nat => (b : Int)) St1 M1 (by simp (disch := decide) only [rM, upd_same, upd_tag, e5]; rw [← hdm]) (by simp (disch := decide) only [upd_same, upd_tag, hde]) (by simp (disch := decide) only [upd_same, upd_tag, List.map_map]; rfl) hlen (by rw [List.getElem?_map, hbb]; rfl) hb16 hb0 ⟨t1, t2⟩ hba (by omega) hw
   rw [show Go.Am.upd (Go.Am.upd d (11, t) nn) (12, t) g (11, t) = nn from by rw [upd_tag (by decide), upd_same]] at bg
   repeat' first | simp (maxSteps := 2000000) (disch := first | omega | assumption) only [go_sem, *] | (apply xs <;> intro _) <;> try omega | refine fun (_ _ : List Nat) => ?_
   refine cal (bg) (by simp only [*]) (by simp only [*]) (by simp only [go_sem, *]) (by simp only [go_sem, *]) ?_
   rintro r h2 n2 ⟨g3, x1, x2, rfl, S3⟩
   have f11 := S3.at (r := (11, t)) upd_same
   rw [show Go.Am.upd (Go.Am.upd (Go.Am.upd d (11, t) nn) (12, t) g) (13, t) g3 (11, t) = nn from by rw [upd_tag (by decide), upd_tag (by decide), upd_same]] at f11
   have hg1 := q2.lt w3
   clear q1 q2 q4 q5 q6 w3 St1 M1 bg e5
   repeat' first | simp (maxSteps := 2000000) (disch := first | omega | assumption) only [go_sem, *] | (apply xs <;> intro _) <;> try omega | refine fun (_ _ : List Nat) => ?_
   have hdm' : d (0, 0) = dm := hdm
   refine ⟨nn, g, g3, by omega, by omega, by omega, x2, rfl, (S3.set (11, t) _ upd_same (by rw [upd_tag (by decide), upd_tag (by decide), upd_same])).eq ?_ rfl⟩
   rw [upd_upd]
   simp (disch := decide) only [gw0, rM, upd_same, upd_tag, hde, hdm']
  ·have hb' : (b : Int) < nb := by omega
   repeat' first | simp (maxSteps := 2000000) (disch := first | omega | assumption) only [go_sem, *] | (apply xs <;> intro _) <;> try omega | refine fun (_ _ : List Nat) => ?_
   refine cal (oM _ _ q2) (by simp only [*]) (by simp only [*]) (by simp only [go_sem, *]) (by simp only [go_sem, *]) ?_
   rintro r h2 n2 ⟨r1, r2, r3, r4⟩
   have q7 := r2 _ _ q4
   have q8 := r2 _ _ q6
   have k2 : Kept h h2 := q1.trans r2
   have g2 : GrowInts .i64 h2 (nn + 1) sl (((List.range b).filter (wants nb ms)).map fun v : Nat => (v : Int)) := by
    rcases q5 with q | ⟨g, w1, w2, w3⟩
    ·exact .inl q
    ·exact .inr ⟨g, w1, w2, r2 _ _ w3⟩
   have n3 : nn + 1 ≤ n2 := by omega
   clear q1 q2 q3 q4 q5 q6 r2
   obtain ⟨rl, hrl⟩ : ∃ rl cp, r = .slice rl ms.length cp := by
    rcases r1 with ⟨w1, w2⟩ | ⟨g, w1, w2, w3⟩
    ·have : ms = [] := by simpa using w2
     subst this
     exact ⟨_, _, w1⟩
    ·rw [List.length_map] at w1
     exact ⟨_, _, w1⟩
   obtain ⟨cp, rfl⟩ := hrl
   repeat' first | simp (maxSteps := 2000000) (disch := first | omega | assumption) only [go_sem, *] | (apply xs <;> intro _) <;> try omega | refine fun (_ _ : List Nat) => ?_
   generalize hX : ((List.range b).filter (wants nb ms)).map (fun v : Nat => (v : Int)) = X at *
   have hXl : X.length ≤ b := by rw [← hX, List.length_map]; exact Nat.le_trans (List.length_filter_le _ _) (by rw [List.length_range]; exact Nat.le_refl _)
   have hin : wants nb ms b = true → ((List.range (b + 1)).filter (wants nb ms)).map (fun v : Nat => (v : Int)) = X ++ [(b : Int)] := fun c => by rw [lefts_at, if_pos c, List.map_append, hX]; rfl
   have hout : wants nb ms b = false → ((List.range (b + 1)).filter (wants nb ms)).map (fun v : Nat => (v : Int)) = X := fun c => by rw [lefts_at, c, List.map_append, hX]; simp
   clear hX
   have hb1 : ((b + 1 : Nat) : Int) = (b : Int) + 1 := by omega
   refine ind_loop (fun t2 m' h' n' => ∃ i : Nat, i + t2 = ms.length ∧ (∀ v ∈ ms.take i, v % nb ≠ b) ∧ m'.n = 71 ∧ m'.dfs = [] ∧ m'.get 0 = pt de ∧ m'.get 2 = U6 s ∧ m'.get 9 = pt nn ∧ m'.get 30 = I6 nb ∧ m'.get 31 = I6 b ∧ m'.get 10 = I6 b ∧ m'.get 35 = .slice rl ms.length cp ∧ m'.get 36 = I6 ms.length ∧ m'.get 37 = I6 i ∧ h' = h2 ∧ n' = n2) ms.length ?_ ?_
   ·refine ⟨0, by omega, by simp, ?_⟩
    simp (maxSteps := 2000000) (disch := first | omega | assumption) only [go_sem, *]
   ·rintro t2 m' h' n' ih2 ⟨i, hit, hno, p1, p2, p3, p4, p5, p6, p7, p8, p9, p10, p11, rfl, rfl⟩
    clear m1 m2 m3 m4 m5 m6 m7
    by_cases hi : i = ms.length
    ·have hi' : (i : Int) = ms.length := by omega
     have hw : wants nb ms b = false := by
      rw [hi, List.take_length] at hno
      simp only [wants, List.any_eq_false, decide_eq_true_eq]
      exact hno
     clear ih2 hno
     repeat' first | simp (maxSteps := 2000000) (disch := first | omega | assumption) only [go_sem, *] | (apply xs <;> intro _) <;> try omega | refine fun (_ _ : List Nat) => ?_
     refine ih (nb - (b + 1)) _ _ _ (by omega) ⟨b + 1, sl, by omega, ?_⟩
     rw [hout hw, hb1]
     simp only [gw0]
     simp (maxSteps := 2000000) (disch := first | omega | assumption) only [go_sem, *]
    ·have hi' : (i : Int) < ms.length := by omega
     obtain ⟨v, hv⟩ : ∃ v, ms[i]? = some v := ⟨ms[i]'(by omega), List.getElem?_eq_getElem _⟩
     have hvm : v ∈ ms := List.mem_of_getElem? hv
     have hv64 := hmv v hvm
     obtain ⟨g, rfl, gr⟩ : ∃ g, rl = some ⟨g, 0, none⟩ ∧ h'.get g = row ((ms.map fun v : Nat => (v : Int)).map (.int .i64)) := by
      rcases r1 with ⟨w1, w2⟩ | ⟨g, w1, w2, w3⟩
      ·have : ms = [] := by simpa using w2
       subst this; simp at hv
      ·injection w1 with w1; exact ⟨g, w1, w3⟩
     have hgv : ((ms.map fun v : Nat => (v : Int)).map (Value.int .i64))[i]? = some (.int .i64 v) := by rw [List.getElem?_map, List.getElem?_map, hv]; rfl
     have hvr : (v : Int).tmod nb = ((v % nb : Nat) : Int) := rfl
     by_cases hvb : v % nb = b
     ·have hvb' : ((v % nb : Nat) : Int) = b := by omega
      have hw : wants nb ms b = true := by
       simp only [wants, List.any_eq_true, decide_eq_true_eq]
       exact ⟨v, hvm, hvb⟩
      clear ih2 hno r1 hout
      have hWn := r3
      rcases g2 with ⟨rfl, rfl⟩ | ⟨g', rfl, w2, w3⟩
      ·repeat' first | simp (maxSteps := 2000000) (disch := first | omega | assumption) only [go_sem, *] | (apply xs <;> intro _) <;> try omega | refine fun (_ _ : List Nat) => ?_ | (first | refine inQ Tryz.func168 rfl ?_ ?_ ?_ ?_ | refine inQ Tryz.func85 rfl ?_ ?_ ?_ ?_ | fail) <;> intros
       refine ih (nb - (b + 1)) _ _ _ (by omega) ⟨b + 1, .slice (some ⟨n' + 1, 0, none⟩) 1 (capInf + 1), by omega, by simp (maxSteps := 2000000) (disch := first | omega | assumption) only [go_sem, *], by simp (maxSteps := 2000000) (disch := first | omega | assumption) only [go_sem, *], by simp (maxSteps := 2000000) (disch := first | omega | assumption) only [go_sem, *], by simp (maxSteps := 2000000) (disch := first | omega | assumption) only [go_sem, *], by simp (maxSteps := 2000000) (disch := first | omega | assumption) only [go_sem, *], by simp (maxSteps := 2000000) (disch := first | omega | assumption) only [go_sem, *], by simp (maxSteps := 2000000) (disch := first | omega | assumption) only [go_sem, *], ?_, ?_, by omega, by rw [heap_same]; rfl, ?_⟩
       ·repeat refine Kept.set' W0 (by omega) ?_
        exact k2
       ·repeat refine WfH.set' (by omega) ?_
        exact r3.mono (by omega)
       ·rw [hin hw]
        exact .inr ⟨n' + 1, rfl, by omega, by simp (disch := omega) only [heap_ne, heap_same]; rfl⟩
      ·have hgn := r3.lt w3
       have htk : List.take X.length (X.map (Value.int .i64)) = X.map (.int .i64) := take_map_self
       have hmX : (X.map (Value.int .i64)).length = X.length := List.length_map _
       have hble : Nat.ble (X.length + 1) 1048576 = true := Nat.ble_eq_true_of_le (by omega)
       have hgN : g' ≠ nn := by omega
       have hsn : X.map (Value.int .i64) ++ [.int .i64 (b : Int)] = (X ++ [(b : Int)]).map (.int .i64) := by simp
       repeat' first | simp (maxSteps := 2000000) (disch := first | omega | assumption) only [go_sem, *] | (apply xs <;> intro _) <;> try omega | refine fun (_ _ : List Nat) => ?_ | (first | refine inQ Tryz.func168 rfl ?_ ?_ ?_ ?_ | refine inQ Tryz.func85 rfl ?_ ?_ ?_ ?_ | fail) <;> intros
       refine ih (nb - (b + 1)) _ _ _ (by omega) ⟨b + 1, .slice (some ⟨n' + 1, 0, none⟩) (X.length + 1) (capInf + 1), by omega, by simp (maxSteps := 2000000) (disch := first | omega | assumption) only [go_sem, *], by simp (maxSteps := 2000000) (disch := first | omega | assumption) only [go_sem, *], by simp (maxSteps := 2000000) (disch := first | omega | assumption) only [go_sem, *], by simp (maxSteps := 2000000) (disch := first | omega | assumption) only [go_sem, *], by simp (maxSteps := 2000000) (disch := first | omega | assumption) only [go_sem, *], by simp (maxSteps := 2000000) (disch := first | omega | assumption) only [go_sem, *], by simp (maxSteps := 2000000) (disch := first | omega | assumption) only [go_sem, *], ?_, ?_, by omega, by rw [heap_same]; rfl, ?_⟩
       ·repeat refine Kept.set' W0 (by omega) ?_
        exact k2
       ·repeat refine WfH.set' (by omega) ?_
        exact r3.mono (by omega)
       ·rw [hin hw]
        exact .inr ⟨n' + 1, by simp, by omega, by simp (disch := omega) only [heap_ne, heap_same]⟩
     ·have hvb' : ¬ ((v % nb : Nat) : Int) = b := by omega
      have hi1 : ((i + 1 : Nat) : Int) = (i : Int) + 1 := by omega
      have hno2 : ∀ x ∈ ms.take (i + 1), x % nb ≠ b := by
       intro x hx
       rw [List.take_add_one, hv] at hx
       rcases List.mem_append.1 hx with q | q
       ·exact hno x q
       ·simp at q; rw [q]; exact hvb
      clear ih hno r1 hin hout g2
      repeat' first | simp (maxSteps := 2000000) (disch := first | omega | assumption) only [go_sem, *] | (apply xs <;> intro _) <;> try omega | refine fun (_ _ : List Nat) => ?_ | (first | refine inQ Tryz.func168 rfl ?_ ?_ ?_ ?_ | refine inQ Tryz.func85 rfl ?_ ?_ ?_ ?_ | fail) <;> intros
      refine ih2 (ms.length - (i + 1)) _ _ _ (by omega) ⟨i + 1, by omega, hno2, ?_⟩
      rw [hi1]
      simp (maxSteps := 2000000) (disch := first | omega | assumption) only [go_sem, *]
end Go.Proofs.YtbceiadaihphaaaGreat
