/-
  A part of the proof: contracts of inner functions.
-/
import Derived.Test.YtbceiadaihphaaaGreatPM
set_option linter.unusedVariables false
set_option linter.unusedSimpArgs false
namespace Go.Proofs.YtbceiadaihphaaaGreat
open Go.Am
structure EngF (d : Rl → Nat) (C : Rl → Option ABlk) (base : Int) (n : Nat) (N : List Int) (B : List Bool) : Prop where
 prcu : C (4, 0) = row [.iface 146 (.agg ⟨[.iface 140 (pt (d (5, 0)))]⟩), U8 1, I6 n]
 eng : C (5, 0) = row [pt (d rM), I6 base, .slice (some ⟨d (6, 0), 0, none⟩) n n, .slice (some ⟨d (7, 0), 0, none⟩) n n]
 nums : C (6, 0) = row (N.map (.int .u64))
 begun : C (7, 0) = row (B.map .bool)
 lenN : N.length = n
 lenB : B.length = n
theorem _root_.Go.Am.St.at2 {h : PT ABlk} {n g w k a b : Nat} {d : Rl → Nat} {C : Rl → Option ABlk} {W : List Int} {L : List Value} {B : ABlk} (S : St h n (upd d rL g) (memC C w g W L k)) (ha : 2 < a) (e : C (a, b) = some B) : h.get (d (a, b)) = some B := by
 have q := S.at (r := (a, b)) (by rw [memC_ne ha]; exact e)
 rwa [upd_tag (by omega)] at q
theorem OPm : MemO OP := ⟨rfl, rfl, rfl, rfl, rfl, rfl⟩
set_option maxHeartbeats 4000000 in
theorem fEnterB {h : PT ABlk} {n nn : Nat} {d : Rl → Nat} {C : Rl → Option ABlk} {base th v : Int} {N : List Int} {B : List Bool} {s t : Nat} (S : St h nn d C) (E : EngF d C base n N B) (ht : 0 ≤ th ∧ th < 64) (hn : n ≤ 64) (hs : s < n) (hv : 0 ≤ v ∧ v < 64) (hb : B[s]? = some false) (he : ∃ x, N[s]? = some x ∧ x.tmod 2 = 0) :
  EvB Tryz.prog OP 69 [pt (d (4, 0)), I6 th, I6 s, I6 v] h nn fun r h' n' => ∃ p q, nn ≤ q ∧ q < p ∧ p < n' ∧ r = tup [pt p, I6 0] ∧ St h' n' (upd (upd d (9, t) q) (8, t) p) (upd (upd (upd C (7, 0) (row ((B.set s true).map .bool))) (9, t) (row [pt (d (5, 0)), I6 th, I6 s, .func (.func 139) ⟨[pt q]⟩ ⟨[]⟩])) (8, t) (row [.iface 258 (pt q)])) := by
 obtain ⟨e1, e2, e3, e4, e5, e6⟩ := E
 have g1 := S.at e1
 have g2 := S.at e2
 have g3 := S.at e3
 have g4 := S.at e4
 have n1 := S.lt e1
 have n2 := S.lt e2
 have n3 := S.lt e3
 have n4 := S.lt e4
 obtain ⟨x, hx1, hx2⟩ := he
 obtain ⟨t1, t2⟩ := ht
 obtain ⟨v1, v2⟩ := hv
 have q1 : (N.map (Value.int .u64))[s]? = some (.int .u64 x) := by rw [List.getElem?_map, hx1]; rfl
 have q2 : (B.map Value.bool)[s]? = some (.bool false) := by rw [List.getElem?_map, hb]; rfl
 have s1 : (s : Int) < n := by omega
 have q3 : (B.map Value.bool).set s (.bool true) = (B.set s true).map .bool := by rw [List.map_set]
 clear e1 e2 e3
 refine EvB_run (N := 37) Tryz.func69 rfl rfl fun z hP hO hro hN hQ => ?_
 repeat' first | simp (maxSteps := 2000000) (disch := first | omega | assumption) only [go_sem, *] | (apply xs <;> intro _) <;> try omega | refine fun (_ _ : List Nat) => ?_ | (first | refine inQ Tryz.func77 rfl ?_ ?_ ?_ ?_ | refine inQ Tryz.func148 rfl ?_ ?_ ?_ ?_ | refine inQ Tryz.func132 rfl ?_ ?_ ?_ ?_ | refine inQ Tryz.func137 rfl ?_ ?_ ?_ ?_ | refine inQ Tryz.func140 rfl ?_ ?_ ?_ ?_ | refine inQ Tryz.func138 rfl ?_ ?_ ?_ ?_ | refine inQ Tryz.func150 rfl ?_ ?_ ?_ ?_ | fail) <;> intros
 exact ⟨nn + 2, nn + 1, by omega, by omega, by omega, rfl, ((((((S.junk (Nat.le_refl _) (Nat.lt_succ_self _)).set (7, 0) _ e4 rfl).new (9, t) _ (Nat.le_refl _) (Nat.lt_succ_self _)).set (9, t) _ upd_same upd_same).new (8, t) _ (Nat.le_refl _) (Nat.lt_succ_self _)).eq (by rw [upd_upd]) rfl)⟩
set_option maxHeartbeats 4000000 in
theorem fEStepB {h : PT ABlk} {n nn : Nat} {d : Rl → Nat} {C : Rl → Option ABlk} {base th : Int} {N : List Int} {B : List Bool} {W : List Int} {L : List Value} {k s t ba : Nat} {x : Int} (S : St h nn d C) (E : EngF d C base n N B) (M : IsM d C W L k) (hk : k ≤ 100000) (ht : 0 ≤ th ∧ th < 64) (hn : n ≤ 64) (hs : s < n) (hx : N[s]? = some x) (hxr : 0 ≤ x ∧ x < 100000) (hba : base + (s : Int) = ba) (hb : ba < W.length) (hw : W.length ≤ 100000)
  (e8 : C (8, t) = row [.iface 258 (pt (d (9, t)))]) (e9 : C (9, t) = row [pt (d (5, 0)), I6 th, I6 s, .func (.func 139) ⟨[pt (d (9, t))]⟩ ⟨[]⟩]) :
  EvB Tryz.prog OP 57 [pt (d (8, t))] h nn fun r h' n' => ∃ g, nn ≤ g ∧ g < n' ∧ r = tup [U8 13, .bool true] ∧ St h' n' (upd d rL g) (upd (upd (memC (upd C (6, 0) (row ((N.set s (x + 1)).map (.int .u64)))) (d rW) g (W.set ba (x + 1)) (L ++ accV th ba 2 W[ba] (x + 1) false) (k + 1)) (7, 0) (row ((B.set s false).map .bool))) (9, t) (row [pt (d (5, 0)), I6 th, I6 s, .nilFunc])) := by
 obtain ⟨e1, e2, e3, e4, e5, e6⟩ := E
 have g2 := S.at e2
 have g3 := S.at e3
 have g4 := S.at e4
 have g8 := S.at e8
 have g9 := S.at e9
 have d1 := S.df e2 e3 (by simp)
 have d2 := S.df e2 e4 (by simp)
 have d3 := S.df e2 e9 (by simp)
 have d4 := S.df e3 e4 (by simp)
 have d5 := S.df e3 e9 (by simp)
 have d6 := S.df e4 e9 (by simp)
 obtain ⟨t1, t2⟩ := ht
 have q1 : (N.map (Value.int .u64))[s]? = some (.int .u64 x) := by rw [List.getElem?_map, hx]; rfl
 have q2 : ((N.set s (x + 1)).map (Value.int .u64))[s]? = some (.int .u64 (x + 1)) := by rw [List.getElem?_map, List.getElem?_set_self (by omega)]; rfl
 have q3 : (N.map (Value.int .u64)).set s (.int .u64 (x + 1)) = (N.set s (x + 1)).map (.int .u64) := by rw [List.map_set]
 have s1 : (s : Int) < n := by omega
 clear e1
 refine EvB_run (N := 13) Tryz.func57 rfl rfl fun z hP hO hro hN hQ => ?_
 repeat' first | simp (maxSteps := 2000000) (disch := first | omega | assumption) only [go_sem, *] | (apply xs <;> intro _) <;> try omega | ((with_reducible refine isD 1 ?_); refine dw 31 1 w139_1 (by first | (simp only [go_sem, *]; done) | rfl) (by kernel_rfl) (by kernel_rfl) ?_) | ((with_reducible refine isD 1 ?_); refine dw 34 1 w136_1 (by first | (simp only [go_sem, *]; done) | rfl) (by kernel_rfl) (by kernel_rfl) ?_) | refine fun (_ _ : List Nat) => ?_ | (first | refine inQ Tryz.func200 rfl ?_ ?_ ?_ ?_ | refine inQ Tryz.func139 rfl ?_ ?_ ?_ ?_ | refine inQ Tryz.func136 rfl ?_ ?_ ?_ ?_ | fail) <;> intros
 have M' : IsM d (upd C (6, 0) (row ((N.set s (x + 1)).map (.int .u64)))) W L k := ⟨by rw [upd_tag (by decide)]; exact M.mem, by rw [upd_tag (by decide)]; exact M.words, M.log.imp id fun q => ⟨q.1, by rw [upd_tag (by decide)]; exact q.2⟩, M.len⟩
 refine cal (storeB (x := x + 1) OPm (S.set (6, 0) _ e3 rfl) M' hk ⟨t1, t2⟩ (a := ba) hb) (by simp only [*]) (by simp only [*]) (by simp only [go_sem, *]) (by simp only [go_sem, *]) ?_
 rintro r h2 n2 ⟨g, hg1, hg2, rfl, S2⟩
 have f2 := S2.at2 (a := 5) (b := 0) (by decide) (by rw [upd_tag (by decide)]; exact e2)
 have f4 := S2.at2 (a := 7) (b := 0) (by decide) (by rw [upd_tag (by decide)]; exact e4)
 have f9 := S2.at2 (a := 9) (b := t) (by decide) (by rw [upd_tag (by decide)]; exact e9)
 have q4 : (B.map Value.bool).set s (.bool false) = (B.set s false).map .bool := by rw [List.map_set]
 obtain ⟨b0, hb0⟩ : ∃ b0, (B.map Value.bool)[s]? = some (.bool b0) := ⟨B[s]'(by omega), by rw [List.getElem?_map, List.getElem?_eq_getElem (by omega)]; rfl⟩
 clear g2 g3 g4 g8 g9
 repeat' first | simp (maxSteps := 2000000) (disch := first | omega | assumption) only [go_sem, *] | (apply xs <;> intro _) <;> try omega | ((with_reducible refine isD 2 ?_); refine dw 31 2 w139_2 (by first | (simp only [go_sem, *]; done) | rfl) (by kernel_rfl) (by kernel_rfl) ?_) | refine fun (_ _ : List Nat) => ?_
 exact ⟨g, hg1, hg2, (S2.set (7, 0) _ (by rw [memC_ne (by decide), upd_tag (by decide)]; exact e4) (upd_tag (by decide))).set (9, t) _ (by rw [upd_tag (by decide), memC_ne (by decide), upd_tag (by decide)]; exact e9) (upd_tag (by simp))⟩
set_option maxHeartbeats 4000000 in
theorem fExitB {h : PT ABlk} {n nn : Nat} {d : Rl → Nat} {C : Rl → Option ABlk} {base th : Int} {N : List Int} {B : List Bool} {W : List Int} {L : List Value} {k s ba : Nat} {x : Int} (S : St h nn d C) (E : EngF d C base n N B) (M : IsM d C W L k) (hk : k ≤ 100000) (ht : 0 ≤ th ∧ th < 64) (hn : n ≤ 64) (hs : s < n) (hx : N[s]? = some x) (hxr : 0 ≤ x ∧ x < 100000) (ho : x.tmod 2 = 1) (hba : base + (s : Int) = ba) (hb : ba < W.length) (hw : W.length ≤ 100000) :
  EvB Tryz.prog OP 60 [pt (d (4, 0)), I6 th, I6 s] h nn fun r h' n' => ∃ g, nn ≤ g ∧ g < n' ∧ r = tup [U8 13, I6 0] ∧ St h' n' (upd d rL g) (memC (upd C (6, 0) (row ((N.set s (x + 1)).map (.int .u64)))) (d rW) g (W.set ba (x + 1)) (L ++ accV th ba 2 W[ba] (x + 1) false) (k + 1)) := by
 obtain ⟨e1, e2, e3, e4, e5, e6⟩ := E
 have g1 := S.at e1
 have g2 := S.at e2
 have g3 := S.at e3
 have d1 := S.df e2 e3 (by simp)
 have d2 := S.df e1 e3 (by simp)
 obtain ⟨t1, t2⟩ := ht
 have q1 : (N.map (Value.int .u64))[s]? = some (.int .u64 x) := by rw [List.getElem?_map, hx]; rfl
 have q2 : ((N.set s (x + 1)).map (Value.int .u64))[s]? = some (.int .u64 (x + 1)) := by rw [List.getElem?_map, List.getElem?_set_self (by omega)]; rfl
 have q3 : (N.map (Value.int .u64)).set s (.int .u64 (x + 1)) = (N.set s (x + 1)).map (.int .u64) := by rw [List.map_set]
 have s1 : (s : Int) < n := by omega
 have M' : IsM d (upd C (6, 0) (row ((N.set s (x + 1)).map (.int .u64)))) W L k := ⟨by rw [upd_tag (by decide)]; exact M.mem, by rw [upd_tag (by decide)]; exact M.words, M.log.imp id fun q => ⟨q.1, by rw [upd_tag (by decide)]; exact q.2⟩, M.len⟩
 clear e1 e2 e4
 refine EvB_run (N := 25) Tryz.func60 rfl rfl fun z hP hO hro hN hQ => ?_
 repeat' first | simp (maxSteps := 2000000) (disch := first | omega | assumption) only [go_sem, *] | (apply xs <;> intro _) <;> try omega | ((with_reducible refine isD 1 ?_); refine dw 34 1 w136_1 (by first | (simp only [go_sem, *]; done) | rfl) (by kernel_rfl) (by kernel_rfl) ?_) | refine fun (_ _ : List Nat) => ?_ | (first | refine inQ Tryz.func77 rfl ?_ ?_ ?_ ?_ | refine inQ Tryz.func133 rfl ?_ ?_ ?_ ?_ | refine inQ Tryz.func137 rfl ?_ ?_ ?_ ?_ | refine inQ Tryz.func140 rfl ?_ ?_ ?_ ?_ | refine inQ Tryz.func138 rfl ?_ ?_ ?_ ?_ | refine inQ Tryz.func136 rfl ?_ ?_ ?_ ?_ | fail) <;> intros
 refine cal (storeB (x := x + 1) OPm (S.set (6, 0) _ e3 rfl) M' hk ⟨t1, t2⟩ (a := ba) hb) (by simp only [*]) (by simp only [*]) (by simp only [go_sem, *]) (by simp only [go_sem, *]) ?_
 rintro r h2 n2 ⟨g, hg1, hg2, rfl, S2⟩
 clear g1 g2 g3
 repeat' first | simp (maxSteps := 2000000) (disch := first | omega | assumption) only [go_sem, *] | (apply xs <;> intro _) <;> try omega | refine fun (_ _ : List Nat) => ?_
 exact ⟨g, hg1, hg2, S2⟩
set_option maxHeartbeats 4000000 in
theorem fWaitB {h : PT ABlk} {n nn : Nat} {d : Rl → Nat} {C : Rl → Option ABlk} {base th set : Int} {N : List Int} {B : List Bool} {t : Nat} (S : St h nn d C) (E : EngF d C base n N B) (ht : 0 ≤ th ∧ th < 64) (hset : set ≠ 0) :
  EvB Tryz.prog OP 71 [pt (d (4, 0)), I6 th, U6 set] h nn fun r h' n' => ∃ p q, nn ≤ q ∧ q < p ∧ p < n' ∧ r = tup [pt p, I6 0] ∧ St h' n' (upd (upd d (11, t) q) (10, t) p) (upd (upd C (11, t) (row [pt (d (5, 0)), I6 th, I6 0, .func (.func 141) ⟨[pt q]⟩ ⟨[]⟩, U6 0])) (10, t) (row [.iface 261 (pt q)])) := by
 obtain ⟨e1, e2, e3, e4, e5, e6⟩ := E
 have g1 := S.at e1
 have g2 := S.at e2
 have n1 := S.lt e1
 have n2 := S.lt e2
 obtain ⟨t1, t2⟩ := ht
 clear e1 e2 e3 e4
 refine EvB_run (N := 28) Tryz.func71 rfl rfl fun z hP hO hro hN hQ => ?_
 repeat' first | simp (maxSteps := 2000000) (disch := first | omega | assumption) only [go_sem, *] | (apply xs <;> intro _) <;> try omega | refine fun (_ _ : List Nat) => ?_ | (first | refine inQ Tryz.func149 rfl ?_ ?_ ?_ ?_ | refine inQ Tryz.func135 rfl ?_ ?_ ?_ ?_ | refine inQ Tryz.func140 rfl ?_ ?_ ?_ ?_ | refine inQ Tryz.func151 rfl ?_ ?_ ?_ ?_ | fail) <;> intros
 exact ⟨nn + 2, nn + 1, by omega, by omega, by omega, rfl, ((((S.junk (Nat.le_refl _) (Nat.lt_succ_self _)).new (11, t) _ (Nat.le_refl _) (Nat.lt_succ_self _)).set (11, t) _ upd_same upd_same).new (10, t) _ (Nat.le_refl _) (Nat.lt_succ_self _)).eq (by rw [upd_upd]) rfl⟩
end Go.Proofs.YtbceiadaihphaaaGreat
set_option linter.unusedVariables false
set_option linter.unusedSimpArgs false
namespace Go.Proofs.YtbceiadaihphaaaGreat
open Go.Am
structure FW where
 slot : Nat
 again : Bool
 first : Int
 ended : Bool
def FW.next (x : FW) (n : Nat) : FW := ⟨x.slot + 1, false, x.first, decide (x.slot + 1 = n)⟩
def FW.step (x : FW) (n : Nat) (w : Int) : FW := if x.again = true then (if w = x.first then x else x.next n) else (if w.tmod 2 = 0 then x.next n else ⟨x.slot, true, w, false⟩)
def fwRow (x : FW) (e q : Nat) (th : Int) : List Value := [pt e, I6 th, I6 x.slot, if x.ended = true then .nilFunc else .func (.func (if x.again = true then 144 else 141)) ⟨[pt q]⟩ ⟨[]⟩, U6 x.first]
set_option maxRecDepth 100000 in
set_option maxHeartbeats 8000000 in
theorem fWStepB {h : PT ABlk} {n nn : Nat} {d : Rl → Nat} {C : Rl → Option ABlk} {base th : Int} {N : List Int} {B : List Bool} {W : List Int} {L : List Value} {k t ba : Nat} {w : Int} {x : FW} (S : St h nn d C) (E : EngF d C base n N B) (M : IsM d C W L k) (hk : k ≤ 100000) (ht : 0 ≤ th ∧ th < 64) (hn : n ≤ 64) (hs : x.slot < n) (hba : base + (x.slot : Int) = ba) (hb : ba < W.length) (hw : W.length ≤ 100000) (hW : W[ba] = w) (hwr : 0 ≤ w ∧ w < 18446744073709551616) (hx : x.ended = false)
  (e10 : C (10, t) = row [.iface 261 (pt (d (11, t)))]) (e11 : C (11, t) = row (fwRow x (d (5, 0)) (d (11, t)) th)) :
  EvB Tryz.prog OP 59 [pt (d (10, t))] h nn fun r h' n' => ∃ g, nn ≤ g ∧ g < n' ∧ r = tup [U8 17, .bool (x.step n w).ended] ∧ St h' n' (upd d rL g) (upd (memC C (d rW) g W (L ++ accV th ba 1 w w false) (k + 1)) (11, t) (row (fwRow (x.step n w) (d (5, 0)) (d (11, t)) th))) := by
 obtain ⟨sl, ag, fi, en⟩ := x
 simp only at hs hba hx
 subst hx
 obtain ⟨e1, e2, e3, e4, e5, e6⟩ := E
 have g2 := S.at e2
 have g10 := S.at e10
 have g11 := S.at e11
 have d1 := S.df e2 e11 (by simp)
 obtain ⟨t1, t2⟩ := ht
 have s1 : (sl : Int) < n := by omega
 clear e1
 refine EvB_run (N := 13) Tryz.func59 rfl rfl fun z hP hO hro hN hQ => ?_
 have eA : ∀ g, memC C (d rW) g W (L ++ accV th ba 1 w w false) (k + 1) (11, t) = C (11, t) := fun g => memC_ne (by decide)
 have eD : ∀ g, upd d rL g (11, t) = d (11, t) := fun g => upd_tag (by decide)
 cases ag
 ·simp only [fwRow, Bool.false_eq_true, if_false] at g11
  repeat' first | simp (maxSteps := 2000000) (disch := first | omega | assumption) only [go_sem, *] | (apply xs <;> intro _) <;> try omega | ((with_reducible refine isD 3 ?_); refine dw 53 3 w202_3 (by first | (simp only [go_sem, *]; done) | rfl) (by kernel_rfl) (by kernel_rfl) ?_) | refine fun (_ _ : List Nat) => ?_ | (first | refine inQ Tryz.func202 rfl ?_ ?_ ?_ ?_ | fail) <;> intros
  refine cal (loadB OPm S M hk ⟨t1, t2⟩ hb) (by simp only [*]) (by simp only [*]) (by simp only [go_sem, *]) (by simp only [go_sem, *]) ?_
  rintro r h2 n2 ⟨g, hg1, hg2, rfl, S2⟩
  rw [hW] at S2 ⊢
  have f2 := S2.at2 (a := 5) (b := 0) (by decide) e2
  have f11 := S2.at2 (a := 11) (b := t) (by decide) e11
  simp only [fwRow, Bool.false_eq_true, if_false] at f11
  clear g2 g10 g11
  by_cases c1 : w.tmod 2 = 0
  ·by_cases c2 : (sl : Int) + 1 = n
   ·have es : FW.step ⟨sl, false, fi, false⟩ n w = ⟨sl + 1, false, fi, true⟩ := by simp [FW.step, FW.next, c1, show sl + 1 = n by omega]
    have er : fwRow ⟨sl + 1, false, fi, true⟩ (d (5, 0)) (d (11, t)) th = [pt (d (5, 0)), I6 th, I6 n, .nilFunc, U6 fi] := by simp only [fwRow, if_true]; rw [show ((sl + 1 : Nat) : Int) = n by omega]
    rw [es, er] at hQ
    repeat' first | simp (maxSteps := 2000000) (disch := first | omega | assumption) only [go_sem, *] | (apply xs <;> intro _) <;> try omega | ((with_reducible refine isD 5 ?_); refine dw 53 5 w202_5 (by first | (simp only [go_sem, *]; done) | rfl) (by kernel_rfl) (by kernel_rfl) ?_) | ((with_reducible refine isD 2 ?_); refine dw 30 2 w143_2 (by first | (simp only [go_sem, *]; done) | rfl) (by kernel_rfl) (by kernel_rfl) ?_) | refine fun (_ _ : List Nat) => ?_ | (first | refine inQ Tryz.func141 rfl ?_ ?_ ?_ ?_ | refine inQ Tryz.func143 rfl ?_ ?_ ?_ ?_ | fail) <;> intros
    exact ⟨g, hg1, hg2, (((S2.set (11, t) _ ((eA g).trans e11) (eD g)).set (11, t) _ upd_same (eD g)).set (11, t) _ upd_same (eD g)).eq (by rw [upd_upd, upd_upd]) rfl⟩
   ·have es : FW.step ⟨sl, false, fi, false⟩ n w = ⟨sl + 1, false, fi, false⟩ := by simp [FW.step, FW.next, c1, show ¬ sl + 1 = n by omega]
    have er : fwRow ⟨sl + 1, false, fi, false⟩ (d (5, 0)) (d (11, t)) th = [pt (d (5, 0)), I6 th, I6 ((sl : Int) + 1), .func (.func 141) ⟨[pt (d (11, t))]⟩ ⟨[]⟩, U6 fi] := by simp only [fwRow, Bool.false_eq_true, if_false]; rw [show ((sl + 1 : Nat) : Int) = (sl : Int) + 1 by omega]
    rw [es, er] at hQ
    repeat' first | simp (maxSteps := 2000000) (disch := first | omega | assumption) only [go_sem, *] | (apply xs <;> intro _) <;> try omega | ((with_reducible refine isD 5 ?_); refine dw 53 5 w202_5 (by first | (simp only [go_sem, *]; done) | rfl) (by kernel_rfl) (by kernel_rfl) ?_) | ((with_reducible refine isD 2 ?_); refine dw 30 2 w143_2 (by first | (simp only [go_sem, *]; done) | rfl) (by kernel_rfl) (by kernel_rfl) ?_) | refine fun (_ _ : List Nat) => ?_ | (first | refine inQ Tryz.func141 rfl ?_ ?_ ?_ ?_ | refine inQ Tryz.func143 rfl ?_ ?_ ?_ ?_ | fail) <;> intros
    exact ⟨g, hg1, hg2, ((S2.set (11, t) _ ((eA g).trans e11) (eD g)).set (11, t) _ upd_same (eD g)).eq (by rw [upd_upd]) rfl⟩
  ·have es : FW.step ⟨sl, false, fi, false⟩ n w = ⟨sl, true, w, false⟩ := by simp [FW.step, c1]
   have er : fwRow ⟨sl, true, w, false⟩ (d (5, 0)) (d (11, t)) th = [pt (d (5, 0)), I6 th, I6 sl, .func (.func 144) ⟨[pt (d (11, t))]⟩ ⟨[]⟩, U6 w] := by simp only [fwRow, Bool.false_eq_true, if_false, if_true]
   rw [es, er] at hQ
   repeat' first | simp (maxSteps := 2000000) (disch := first | omega | assumption) only [go_sem, *] | (apply xs <;> intro _) <;> try omega | ((with_reducible refine isD 5 ?_); refine dw 53 5 w202_5 (by first | (simp only [go_sem, *]; done) | rfl) (by kernel_rfl) (by kernel_rfl) ?_) | refine fun (_ _ : List Nat) => ?_ | (first | refine inQ Tryz.func141 rfl ?_ ?_ ?_ ?_ | fail) <;> intros
   exact ⟨g, hg1, hg2, ((S2.set (11, t) _ ((eA g).trans e11) (eD g)).set (11, t) _ upd_same (eD g)).eq (by rw [upd_upd]) rfl⟩
 ·simp only [fwRow, Bool.false_eq_true, if_false, if_true] at g11
  repeat' first | simp (maxSteps := 2000000) (disch := first | omega | assumption) only [go_sem, *] | (apply xs <;> intro _) <;> try omega | ((with_reducible refine isD 3 ?_); refine dw 53 3 w202_3 (by first | (simp only [go_sem, *]; done) | rfl) (by kernel_rfl) (by kernel_rfl) ?_) | refine fun (_ _ : List Nat) => ?_ | (first | refine inQ Tryz.func202 rfl ?_ ?_ ?_ ?_ | fail) <;> intros
  refine cal (loadB OPm S M hk ⟨t1, t2⟩ hb) (by simp only [*]) (by simp only [*]) (by simp only [go_sem, *]) (by simp only [go_sem, *]) ?_
  rintro r h2 n2 ⟨g, hg1, hg2, rfl, S2⟩
  rw [hW] at S2 ⊢
  have f2 := S2.at2 (a := 5) (b := 0) (by decide) e2
  have f11 := S2.at2 (a := 11) (b := t) (by decide) e11
  simp only [fwRow, Bool.false_eq_true, if_false, if_true] at f11
  clear g2 g10 g11
  by_cases c1 : w = fi
  ·subst c1
   have es : FW.step ⟨sl, true, w, false⟩ n w = ⟨sl, true, w, false⟩ := by simp [FW.step]
   rw [es] at hQ
   repeat' first | simp (maxSteps := 2000000) (disch := first | omega | assumption) only [go_sem, *] | (apply xs <;> intro _) <;> try omega | ((with_reducible refine isD 5 ?_); refine dw 53 5 w202_5 (by first | (simp only [go_sem, *]; done) | rfl) (by kernel_rfl) (by kernel_rfl) ?_) | refine fun (_ _ : List Nat) => ?_ | (first | refine inQ Tryz.func144 rfl ?_ ?_ ?_ ?_ | fail) <;> intros
   exact ⟨g, hg1, hg2, S2.eq (upd_id ((eA g).trans e11)).symm rfl⟩
  ·by_cases c2 : (sl : Int) + 1 = n
   ·have es : FW.step ⟨sl, true, fi, false⟩ n w = ⟨sl + 1, false, fi, true⟩ := by simp [FW.step, FW.next, c1, show sl + 1 = n by omega]
    have er : fwRow ⟨sl + 1, false, fi, true⟩ (d (5, 0)) (d (11, t)) th = [pt (d (5, 0)), I6 th, I6 n, .nilFunc, U6 fi] := by simp only [fwRow, if_true]; rw [show ((sl + 1 : Nat) : Int) = n by omega]
    rw [es, er] at hQ
    repeat' first | simp (maxSteps := 2000000) (disch := first | omega | assumption) only [go_sem, *] | (apply xs <;> intro _) <;> try omega | ((with_reducible refine isD 5 ?_); refine dw 53 5 w202_5 (by first | (simp only [go_sem, *]; done) | rfl) (by kernel_rfl) (by kernel_rfl) ?_) | ((with_reducible refine isD 2 ?_); refine dw 30 2 w143_2 (by first | (simp only [go_sem, *]; done) | rfl) (by kernel_rfl) (by kernel_rfl) ?_) | refine fun (_ _ : List Nat) => ?_ | (first | refine inQ Tryz.func144 rfl ?_ ?_ ?_ ?_ | refine inQ Tryz.func143 rfl ?_ ?_ ?_ ?_ | fail) <;> intros
    exact ⟨g, hg1, hg2, (((S2.set (11, t) _ ((eA g).trans e11) (eD g)).set (11, t) _ upd_same (eD g)).set (11, t) _ upd_same (eD g)).eq (by rw [upd_upd, upd_upd]) rfl⟩
   ·have es : FW.step ⟨sl, true, fi, false⟩ n w = ⟨sl + 1, false, fi, false⟩ := by simp [FW.step, FW.next, c1, show ¬ sl + 1 = n by omega]
    have er : fwRow ⟨sl + 1, false, fi, false⟩ (d (5, 0)) (d (11, t)) th = [pt (d (5, 0)), I6 th, I6 ((sl : Int) + 1), .func (.func 141) ⟨[pt (d (11, t))]⟩ ⟨[]⟩, U6 fi] := by simp only [fwRow, Bool.false_eq_true, if_false]; rw [show ((sl + 1 : Nat) : Int) = (sl : Int) + 1 by omega]
    rw [es, er] at hQ
    repeat' first | simp (maxSteps := 2000000) (disch := first | omega | assumption) only [go_sem, *] | (apply xs <;> intro _) <;> try omega | ((with_reducible refine isD 5 ?_); refine dw 53 5 w202_5 (by first | (simp only [go_sem, *]; done) | rfl) (by kernel_rfl) (by kernel_rfl) ?_) | ((with_reducible refine isD 2 ?_); refine dw 30 2 w143_2 (by first | (simp only [go_sem, *]; done) | rfl) (by kernel_rfl) (by kernel_rfl) ?_) | refine fun (_ _ : List Nat) => ?_ | (first | refine inQ Tryz.func144 rfl ?_ ?_ ?_ ?_ | refine inQ Tryz.func143 rfl ?_ ?_ ?_ ?_ | fail) <;> intros
    exact ⟨g, hg1, hg2, ((S2.set (11, t) _ ((eA g).trans e11) (eD g)).set (11, t) _ upd_same (eD g)).eq (by rw [upd_upd]) rfl⟩
end Go.Proofs.YtbceiadaihphaaaGreat
