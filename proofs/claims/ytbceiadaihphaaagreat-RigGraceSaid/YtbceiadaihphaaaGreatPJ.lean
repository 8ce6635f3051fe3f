/-
  A part of the proof: contracts of inner functions.
-/
import Derived.Test.YtbceiadaihphaaaGreatPG
set_option linter.unusedVariables false
set_option linter.unusedSimpArgs false
namespace Go.Proofs.YtbceiadaihphaaaGreat
open Go.Am
def slV (p : Int × Bool) : List Value := [.int .u64 p.1, .bool p.2]
def slL (P : List (Int × Bool)) : List Value := P.flatMap slV
theorem slL_cons (p : Int × Bool) (P : List (Int × Bool)) : slL (p :: P) = .int .u64 p.1 :: .bool p.2 :: slL P := by simp [slL, slV]
theorem slL_length : ∀ P : List (Int × Bool), (slL P).length = P.length * 2
 | [] => rfl
 | p :: P => by rw [slL_cons, List.length_cons, List.length_cons, slL_length P, List.length_cons]; omega
theorem slL_get : ∀ (P : List (Int × Bool)) (s : Nat) (x : Int) (b : Bool), P[s]? = some (x, b) → (slL P)[s * 2]? = some (.int .u64 x) ∧ (slL P)[s * 2 + 1]? = some (.bool b)
 | [], s, x, b, h => by simp at h
 | p :: P, 0, x, b, h => by simp at h; subst h; rw [slL_cons]; exact ⟨rfl, rfl⟩
 | p :: P, s + 1, x, b, h => by
  have := slL_get P s x b (by simpa using h)
  rw [slL_cons, show (s + 1) * 2 = s * 2 + 1 + 1 by omega]
  exact ⟨by simpa using this.1, by simpa using this.2⟩
theorem slL_setN : ∀ (P : List (Int × Bool)) (s : Nat) (x y : Int) (b : Bool), P[s]? = some (x, b) → (slL P).set (s * 2) (.int .u64 y) = slL (P.set s (y, b))
 | [], s, x, y, b, h => by simp at h
 | p :: P, 0, x, y, b, h => by simp at h; subst h; rw [slL_cons]; simp [slL_cons]
 | p :: P, s + 1, x, y, b, h => by
  rw [slL_cons, show (s + 1) * 2 = s * 2 + 1 + 1 by omega, List.set_cons_succ, List.set_cons_succ, slL_setN P s x y b (by simpa using h), List.set_cons_succ, slL_cons]
theorem slL_setB : ∀ (P : List (Int × Bool)) (s : Nat) (x : Int) (b c : Bool), P[s]? = some (x, b) → (slL P).set (s * 2 + 1) (.bool c) = slL (P.set s (x, c))
 | [], s, x, b, c, h => by simp at h
 | p :: P, 0, x, b, c, h => by simp at h; subst h; rw [slL_cons]; simp [slL_cons]
 | p :: P, s + 1, x, b, c, h => by
  rw [slL_cons, show (s + 1) * 2 + 1 = s * 2 + 1 + 1 + 1 by omega, List.set_cons_succ, List.set_cons_succ, slL_setB P s x b c (by simpa using h), List.set_cons_succ, slL_cons]
structure EngE (d : Rl → Nat) (C : Rl → Option ABlk) (base : Int) (n : Nat) (P : List (Int × Bool)) : Prop where
 prcu : C (4, 0) = row [.iface 153 (.agg ⟨[.iface 147 (pt (d (5, 0)))]⟩), U8 2, I6 n]
 eng : C (5, 0) = row [pt (d rM), .slice (some ⟨d (6, 0), 0, none⟩) n n, .func (.func 80) ⟨[]⟩ ⟨[pt (d (7, 0))]⟩]
 slots : C (6, 0) = row (slL P)
 base : C (7, 0) = row [I6 base]
 len : P.length = n
set_option maxHeartbeats 4000000 in
theorem eEnterB {h : PT ABlk} {n nn : Nat} {d : Rl → Nat} {C : Rl → Option ABlk} {base th v : Int} {P : List (Int × Bool)} {s t : Nat} {x : Int} (S : St h nn d C) (E : EngE d C base n P) (ht : 0 ≤ th ∧ th < 64) (hn : n ≤ 64) (hs : s < n) (hv : 0 ≤ v ∧ v < 64) (hx : P[s]? = some (x, false)) (he : x.tmod 2 = 0) :
  EvB Tryz.prog OP 69 [pt (d (4, 0)), I6 th, I6 s, I6 v] h nn fun r h' n' => ∃ p q, nn ≤ q ∧ q < p ∧ p < n' ∧ r = tup [pt p, I6 0] ∧ St h' n' (upd (upd d (9, t) q) (8, t) p) (upd (upd (upd C (6, 0) (row (slL (P.set s (x, true))))) (9, t) (row [pt (d (5, 0)), I6 th, I6 s, I6 v, I6 0])) (8, t) (row [.iface 274 (pt q)])) := by
 obtain ⟨e1, e2, e3, e4, e5⟩ := E
 have g1 := S.at e1
 have g2 := S.at e2
 have g3 := S.at e3
 have n1 := S.lt e1
 have n2 := S.lt e2
 have n3 := S.lt e3
 have d1 := S.df e2 e3 (by simp)
 obtain ⟨t1, t2⟩ := ht
 obtain ⟨v1, v2⟩ := hv
 obtain ⟨q1, q2⟩ := slL_get P s x false hx
 have q3 := slL_setB P s x false true hx
 have q4 := slL_length P
 have s1 : (s : Int) < n := by omega
 clear e1 e2 e4
 refine EvB_run (N := 37) Tryz.func69 rfl rfl fun z hP hO hro hN hQ => ?_
 repeat' first | simp (maxSteps := 2000000) (disch := first | omega | assumption) only [go_sem, *] | (apply xs <;> intro _) <;> try omega | refine fun (_ _ : List Nat) => ?_ | (first | refine inQ Tryz.func77 rfl ?_ ?_ ?_ ?_ | refine inQ Tryz.func159 rfl ?_ ?_ ?_ ?_ | refine inQ Tryz.func152 rfl ?_ ?_ ?_ ?_ | refine inQ Tryz.func157 rfl ?_ ?_ ?_ ?_ | refine inQ Tryz.func158 rfl ?_ ?_ ?_ ?_ | refine inQ Tryz.func161 rfl ?_ ?_ ?_ ?_ | fail) <;> intros
 exact ⟨nn + 2, nn + 1, by omega, by omega, by omega, rfl, ((((S.junk (Nat.le_refl _) (Nat.lt_succ_self _)).set (6, 0) _ e3 rfl).new (9, t) _ (Nat.le_refl _) (Nat.lt_succ_self _)).new (8, t) _ (Nat.le_refl _) (Nat.lt_succ_self _))⟩
end Go.Proofs.YtbceiadaihphaaaGreat
set_option linter.unusedVariables false
set_option linter.unusedSimpArgs false
namespace Go.Proofs.YtbceiadaihphaaaGreat
open Go.Am
theorem _root_.Go.Am.St.junk2 {h : PT ABlk} {n : Nat} {d : Rl → Nat} {C : Rl → Option ABlk} (S : St h n d C) {i m : Nat} {A B : Option ABlk} (hi : n ≤ i) (hm : i < m) : St ((h.set i A).set i B) m d C := by
 refine ⟨fun s D q => ?_, S.inj, (S.wf.set (by omega) hm).set (Nat.le_refl _) hm⟩
 have := S.lt q
 rw [heap_ne (by omega), heap_ne (by omega)]; exact S.get s D q
set_option maxRecDepth 100000 in
set_option maxHeartbeats 4000000 in
theorem eMarkB {h : PT ABlk} {n nn : Nat} {d : Rl → Nat} {C : Rl → Option ABlk} {base th v : Int} {P : List (Int × Bool)} {W : List Int} {L : List Value} {k s t ba : Nat} (S : St h nn d C) (E : EngE d C base n P) (M : IsM d C W L k) (hk : k ≤ 100000) (ht : 0 ≤ th ∧ th < 64) (hn : n ≤ 64) (hs : s < n) (hv : 0 ≤ v ∧ v < 64) (hba : base + 2 * (s : Int) + 1 = ba) (hb0 : 0 ≤ base) (hb : ba < W.length) (hw : W.length ≤ 100000)
  (e8 : C (8, t) = row [.iface 274 (pt (d (9, t)))]) (e9 : C (9, t) = row [pt (d (5, 0)), I6 th, I6 s, I6 v, I6 0]) :
  EvB Tryz.prog OP 57 [pt (d (8, t))] h nn fun r h' n' => ∃ g, nn ≤ g ∧ g < n' ∧ r = tup [U8 14, .bool false] ∧ St h' n' (upd d rL g) (upd (memC C (d rW) g (W.set ba v) (L ++ accV th ba 2 W[ba] v false) (k + 1)) (9, t) (row [pt (d (5, 0)), I6 th, I6 s, I6 v, I6 1])) := by
 obtain ⟨e1, e2, e3, e4, e5⟩ := E
 have g2 := S.at e2
 have g7 := S.at e4
 have g8 := S.at e8
 have g9 := S.at e9
 have n2 := S.lt e2
 have n7 := S.lt e4
 have n8 := S.lt e8
 have n9 := S.lt e9
 obtain ⟨t1, t2⟩ := ht
 obtain ⟨v1, v2⟩ := hv
 have s1 : (s : Int) < n := by omega
 have eA : ∀ g W' L', memC C (d rW) g W' L' (k + 1) (9, t) = C (9, t) := fun g W' L' => memC_ne (by decide)
 clear e1 e3 e4
 refine EvB_run (N := 13) Tryz.func57 rfl rfl fun z hP hO hro hN hQ => ?_
 repeat' first | simp (maxSteps := 2000000) (disch := first | omega | assumption) only [go_sem, *, atQ] | (apply xs <;> intro _) <;> try omega | ((with_reducible refine isD 1 ?_); refine dw 33 1 w206_1 (by first | (simp only [go_sem, *]; done) | rfl) (by kernel_rfl) (by kernel_rfl) ?_) | refine fun (_ _ : List Nat) => ?_ | (first | refine inQ Tryz.func204 rfl ?_ ?_ ?_ ?_ | refine inQ Tryz.func205 rfl ?_ ?_ ?_ ?_ | refine inQ Tryz.func206 rfl ?_ ?_ ?_ ?_ | fail) <;> intros
 refine cal (storeB (x := v) OPm ((S.junk2 (Nat.le_refl _) (Nat.lt_succ_self _)).junk2 (Nat.le_refl _) (Nat.lt_succ_self _)) M hk ⟨t1, t2⟩ (a := ba) hb) (by simp only [*]) (by simp only [*]) (by simp only [go_sem, *]) (by simp only [go_sem, *]) ?_
 rintro r h2 n2 ⟨g, hg1, hg2, rfl, S2⟩
 have f9 := S2.at2 (a := 9) (b := t) (by decide) e9
 clear g2 g7 g8 g9
 repeat' first | simp (maxSteps := 2000000) (disch := first | omega | assumption) only [go_sem, *] | (apply xs <;> intro _) <;> try omega | ((with_reducible refine isD 6 ?_); refine dw 36 6 w204_6 (by first | (simp only [go_sem, *]; done) | rfl) (by kernel_rfl) (by kernel_rfl) ?_) | refine fun (_ _ : List Nat) => ?_
 exact ⟨g, by omega, hg2, S2.set (9, t) _ ((eA _ _ _).trans e9) (upd_tag (by decide))⟩
set_option maxRecDepth 100000 in
set_option maxHeartbeats 4000000 in
theorem eSeqB {h : PT ABlk} {n nn : Nat} {d : Rl → Nat} {C : Rl → Option ABlk} {base th v : Int} {P : List (Int × Bool)} {W : List Int} {L : List Value} {k s t ba : Nat} {x : Int} {b0 : Bool} (S : St h nn d C) (E : EngE d C base n P) (M : IsM d C W L k) (hk : k ≤ 100000) (ht : 0 ≤ th ∧ th < 64) (hn : n ≤ 64) (hs : s < n) (hx : P[s]? = some (x, b0)) (hxr : 0 ≤ x ∧ x < 100000) (hba : base + 2 * (s : Int) = ba) (hb0 : 0 ≤ base) (hb : ba < W.length) (hw : W.length ≤ 100000)
  (e8 : C (8, t) = row [.iface 274 (pt (d (9, t)))]) (e9 : C (9, t) = row [pt (d (5, 0)), I6 th, I6 s, I6 v, I6 1]) :
  EvB Tryz.prog OP 57 [pt (d (8, t))] h nn fun r h' n' => ∃ g, nn ≤ g ∧ g < n' ∧ r = tup [U8 13, .bool true] ∧ St h' n' (upd d rL g) (upd (upd (memC (upd C (6, 0) (row (slL (P.set s (x + 1, b0))))) (d rW) g (W.set ba (x + 1)) (L ++ accV th ba 2 W[ba] (x + 1) false) (k + 1)) (6, 0) (row (slL (P.set s (x + 1, false))))) (9, t) (row [pt (d (5, 0)), I6 th, I6 s, I6 v, I6 2])) := by
 obtain ⟨e1, e2, e3, e4, e5⟩ := E
 have g2 := S.at e2
 have g3 := S.at e3
 have g7 := S.at e4
 have g8 := S.at e8
 have g9 := S.at e9
 have n2 := S.lt e2
 have n3 := S.lt e3
 have n7 := S.lt e4
 have n8 := S.lt e8
 have n9 := S.lt e9
 have d1 := S.df e2 e3 (by simp)
 have d2 := S.df e3 e4 (by simp)
 have d3 := S.df e3 e9 (by simp)
 have d4 := S.df e2 e9 (by simp)
 obtain ⟨t1, t2⟩ := ht
 have s1 : (s : Int) < n := by omega
 obtain ⟨q1, q2⟩ := slL_get P s x b0 hx
 have q3 := slL_setN P s x (x + 1) b0 hx
 have hx2 : (P.set s (x + 1, b0))[s]? = some (x + 1, b0) := List.getElem?_set_self (by omega)
 obtain ⟨q4, q5⟩ := slL_get _ s _ _ hx2
 have q6 := slL_setB _ s _ _ false hx2
 rw [List.set_set] at q6
 have q7 := slL_length (P.set s (x + 1, b0))
 have q8 := slL_length P
 rw [List.length_set] at q7
 have eA : ∀ g C W' L', memC C (d rW) g W' L' (k + 1) (9, t) = C (9, t) := fun g C W' L' => memC_ne (by decide)
 have eB : ∀ g C W' L', memC C (d rW) g W' L' (k + 1) (6, 0) = C (6, 0) := fun g C W' L' => memC_ne (by decide)
 have M' : IsM d (upd C (6, 0) (row (slL (P.set s (x + 1, b0))))) W L k := ⟨by rw [upd_tag (by decide)]; exact M.mem, by rw [upd_tag (by decide)]; exact M.words, M.log.imp id fun q => ⟨q.1, by rw [upd_tag (by decide)]; exact q.2⟩, M.len⟩
 clear e1
 refine EvB_run (N := 13) Tryz.func57 rfl rfl fun z hP hO hro hN hQ => ?_
 repeat' first | simp (maxSteps := 2000000) (disch := first | omega | assumption) only [go_sem, *, atQ] | (apply xs <;> intro _) <;> try omega | ((with_reducible refine isD 1 ?_); refine dw 29 1 w207_1 (by first | (simp only [go_sem, *]; done) | rfl) (by kernel_rfl) (by kernel_rfl) ?_) | ((with_reducible refine isD 1 ?_); refine dw 37 1 w156_1 (by first | (simp only [go_sem, *]; done) | rfl) (by kernel_rfl) (by kernel_rfl) ?_) | refine fun (_ _ : List Nat) => ?_ | (first | refine inQ Tryz.func204 rfl ?_ ?_ ?_ ?_ | refine inQ Tryz.func205 rfl ?_ ?_ ?_ ?_ | refine inQ Tryz.func207 rfl ?_ ?_ ?_ ?_ | refine inQ Tryz.func156 rfl ?_ ?_ ?_ ?_ | fail) <;> intros
 refine cal (storeB (x := x + 1) OPm (((S.junk2 (Nat.le_refl _) (Nat.lt_succ_self _)).junk2 (Nat.le_refl _) (Nat.lt_succ_self _)).set (6, 0) _ e3 rfl) M' hk ⟨t1, t2⟩ (a := ba) hb) (by simp only [*]) (by simp only [*]) (by simp only [go_sem, *]) (by simp only [go_sem, *]) ?_
 rintro r h2 n2 ⟨g, hg1, hg2, rfl, S2⟩
 have f9 := S2.at2 (a := 9) (b := t) (by decide) (by rw [upd_tag (by decide)]; exact e9)
 have f5 := S2.at2 (a := 5) (b := 0) (by decide) (by rw [upd_tag (by decide)]; exact e2)
 have f6 := S2.at2 (a := 6) (b := 0) (by decide) upd_same
 clear g2 g3 g7 g8 g9
 repeat' first | simp (maxSteps := 2000000) (disch := first | omega | assumption) only [go_sem, *] | (apply xs <;> intro _) <;> try omega | ((with_reducible refine isD 6 ?_); refine dw 36 6 w204_6 (by first | (simp only [go_sem, *]; done) | rfl) (by kernel_rfl) (by kernel_rfl) ?_) | ((with_reducible refine isD 2 ?_); refine dw 29 2 w207_2 (by first | (simp only [go_sem, *]; done) | rfl) (by kernel_rfl) (by kernel_rfl) ?_) | refine fun (_ _ : List Nat) => ?_
 exact ⟨g, by omega, hg2, (S2.set (6, 0) _ ((eB _ _ _ _).trans upd_same) (upd_tag (by decide))).set (9, t) _ (by rw [upd_tag (by decide), eA, upd_tag (by decide)]; exact e9) (upd_tag (by decide))⟩
end Go.Proofs.YtbceiadaihphaaaGreat
set_option linter.unusedVariables false
set_option linter.unusedSimpArgs false
namespace Go.Proofs.YtbceiadaihphaaaGreat
open Go.Am
set_option maxRecDepth 100000 in
set_option maxHeartbeats 4000000 in
theorem eExitB {h : PT ABlk} {n nn : Nat} {d : Rl → Nat} {C : Rl → Option ABlk} {base th : Int} {P : List (Int × Bool)} {W : List Int} {L : List Value} {k s ba : Nat} {x : Int} {b0 : Bool} (S : St h nn d C) (E : EngE d C base n P) (M : IsM d C W L k) (hk : k ≤ 100000) (ht : 0 ≤ th ∧ th < 64) (hn : n ≤ 64) (hs : s < n) (hx : P[s]? = some (x, b0)) (hxr : 0 ≤ x ∧ x < 100000) (ho : x.tmod 2 = 1) (hba : base + 2 * (s : Int) = ba) (hb0 : 0 ≤ base) (hb : ba < W.length) (hw : W.length ≤ 100000) :
  EvB Tryz.prog OP 60 [pt (d (4, 0)), I6 th, I6 s] h nn fun r h' n' => ∃ g, nn ≤ g ∧ g < n' ∧ r = tup [U8 13, I6 0] ∧ St h' n' (upd d rL g) (memC (upd C (6, 0) (row (slL (P.set s (x + 1, b0))))) (d rW) g (W.set ba (x + 1)) (L ++ accV th ba 2 W[ba] (x + 1) false) (k + 1)) := by
 obtain ⟨e1, e2, e3, e4, e5⟩ := E
 have g1 := S.at e1
 have g2 := S.at e2
 have g3 := S.at e3
 have g7 := S.at e4
 have d1 := S.df e2 e3 (by simp)
 have d2 := S.df e3 e4 (by simp)
 obtain ⟨t1, t2⟩ := ht
 have s1 : (s : Int) < n := by omega
 obtain ⟨q1, q2⟩ := slL_get P s x b0 hx
 have q3 := slL_setN P s x (x + 1) b0 hx
 have hx2 : (P.set s (x + 1, b0))[s]? = some (x + 1, b0) := List.getElem?_set_self (by omega)
 obtain ⟨q4, q5⟩ := slL_get _ s _ _ hx2
 have q7 := slL_length (P.set s (x + 1, b0))
 have q8 := slL_length P
 rw [List.length_set] at q7
 have M' : IsM d (upd C (6, 0) (row (slL (P.set s (x + 1, b0))))) W L k := ⟨by rw [upd_tag (by decide)]; exact M.mem, by rw [upd_tag (by decide)]; exact M.words, M.log.imp id fun q => ⟨q.1, by rw [upd_tag (by decide)]; exact q.2⟩, M.len⟩
 clear e1 e2 e4
 refine EvB_run (N := 25) Tryz.func60 rfl rfl fun z hP hO hro hN hQ => ?_
 repeat' first | simp (maxSteps := 2000000) (disch := first | omega | assumption) only [go_sem, *, atQ] | (apply xs <;> intro _) <;> try omega | ((with_reducible refine isD 1 ?_); refine dw 37 1 w156_1 (by first | (simp only [go_sem, *]; done) | rfl) (by kernel_rfl) (by kernel_rfl) ?_) | refine fun (_ _ : List Nat) => ?_ | (first | refine inQ Tryz.func77 rfl ?_ ?_ ?_ ?_ | refine inQ Tryz.func153 rfl ?_ ?_ ?_ ?_ | refine inQ Tryz.func157 rfl ?_ ?_ ?_ ?_ | refine inQ Tryz.func158 rfl ?_ ?_ ?_ ?_ | refine inQ Tryz.func156 rfl ?_ ?_ ?_ ?_ | fail) <;> intros
 refine cal (storeB (x := x + 1) OPm (S.set (6, 0) _ e3 rfl) M' hk ⟨t1, t2⟩ (a := ba) hb) (by simp only [*]) (by simp only [*]) (by simp only [go_sem, *]) (by simp only [go_sem, *]) ?_
 rintro r h2 n2 ⟨g, hg1, hg2, rfl, S2⟩
 clear g1 g2 g3 g7
 repeat' first | simp (maxSteps := 2000000) (disch := first | omega | assumption) only [go_sem, *] | (apply xs <;> intro _) <;> try omega | refine fun (_ _ : List Nat) => ?_
 exact ⟨g, hg1, hg2, S2⟩
set_option maxRecDepth 100000 in
set_option maxHeartbeats 4000000 in
theorem eWaitB {h : PT ABlk} {n nn : Nat} {d : Rl → Nat} {C : Rl → Option ABlk} {base th set : Int} {P : List (Int × Bool)} {t : Nat} (S : St h nn d C) (E : EngE d C base n P) (ht : 0 ≤ th ∧ th < 64) (hset : set ≠ 0) :
  EvB Tryz.prog OP 71 [pt (d (4, 0)), I6 th, U6 set] h nn fun r h' n' => ∃ p q, nn ≤ q ∧ q < p ∧ p < n' ∧ r = tup [pt p, I6 0] ∧ St h' n' (upd (upd d (11, t) q) (10, t) p) (upd (upd C (11, t) (row [pt (d (5, 0)), I6 th, U6 set, I6 0, U6 0, I6 0])) (10, t) (row [.iface 282 (pt q)])) := by
 obtain ⟨e1, e2, e3, e4, e5⟩ := E
 have g1 := S.at e1
 have g2 := S.at e2
 have n1 := S.lt e1
 have n2 := S.lt e2
 obtain ⟨t1, t2⟩ := ht
 clear e1 e2 e3 e4
 refine EvB_run (N := 28) Tryz.func71 rfl rfl fun z hP hO hro hN hQ => ?_
 repeat' first | simp (maxSteps := 2000000) (disch := first | omega | assumption) only [go_sem, *] | (apply xs <;> intro _) <;> try omega | refine fun (_ _ : List Nat) => ?_ | (first | refine inQ Tryz.func160 rfl ?_ ?_ ?_ ?_ | refine inQ Tryz.func155 rfl ?_ ?_ ?_ ?_ | refine inQ Tryz.func158 rfl ?_ ?_ ?_ ?_ | refine inQ Tryz.func162 rfl ?_ ?_ ?_ ?_ | fail) <;> intros
 exact ⟨nn + 2, nn + 1, by omega, by omega, by omega, rfl, ((S.junk (Nat.le_refl _) (Nat.lt_succ_self _)).new (11, t) _ (Nat.le_refl _) (Nat.lt_succ_self _)).new (10, t) _ (Nat.le_refl _) (Nat.lt_succ_self _)⟩
structure EW where
 slot : Nat
 seen : Int
 st : Nat
def EW.next (x : EW) (n : Nat) : EW := ⟨x.slot + 1, x.seen, if x.slot + 1 = n then 3 else 0⟩
def inSet (v set : Int) : Bool := decide (0 ≤ v ∧ v < 64) && decide (set.toNat.testBit v.toNat = true)
def EW.step (x : EW) (n : Nat) (set w : Int) : EW :=
 if x.st = 0 then (if w.tmod 2 = 1 then ⟨x.slot, w, 1⟩ else (⟨x.slot, w, 0⟩ : EW).next n)
 else if x.st = 1 then (if inSet w set = true then ⟨x.slot, x.seen, 2⟩ else x.next n)
 else (if w = x.seen then x else x.next n)
def ewRow (x : EW) (e : Nat) (th set : Int) : List Value := [pt e, I6 th, U6 set, I6 x.slot, U6 x.seen, I6 x.st]
set_option maxRecDepth 100000 in
set_option maxHeartbeats 8000000 in
theorem eLookB {h : PT ABlk} {n nn : Nat} {d : Rl → Nat} {C : Rl → Option ABlk} {base th set : Int} {P : List (Int × Bool)} {W : List Int} {L : List Value} {k t ba : Nat} {w : Int} {x : EW} (S : St h nn d C) (E : EngE d C base n P) (M : IsM d C W L k) (hk : k ≤ 100000) (ht : 0 ≤ th ∧ th < 64) (hn : n ≤ 64) (hs : x.slot < n) (hba : base + 2 * (x.slot : Int) = ba) (hb0 : 0 ≤ base) (hb : ba < W.length) (hw : W.length ≤ 100000) (hW : W[ba] = w) (hwr : 0 ≤ w ∧ w < 18446744073709551616) (hx : x.st = 0)
  (e10 : C (10, t) = row [.iface 282 (pt (d (11, t)))]) (e11 : C (11, t) = row (ewRow x (d (5, 0)) th set)) :
  EvB Tryz.prog OP 59 [pt (d (10, t))] h nn fun r h' n' => ∃ g, nn ≤ g ∧ g < n' ∧ r = tup [U8 17, .bool (decide ((x.step n set w).st = 3))] ∧ St h' n' (upd d rL g) (upd (memC C (d rW) g W (L ++ accV th ba 1 w w false) (k + 1)) (11, t) (row (ewRow (x.step n set w) (d (5, 0)) th set))) := by
 obtain ⟨sl, se, st⟩ := x
 simp only at hs hba hx
 subst hx
 obtain ⟨e1, e2, e3, e4, e5⟩ := E
 have g2 := S.at e2
 have g7 := S.at e4
 have g10 := S.at e10
 have g11 := S.at e11
 have n2 := S.lt e2
 have n7 := S.lt e4
 have n10 := S.lt e10
 have n11 := S.lt e11
 have d1 := S.df e2 e11 (by simp)
 obtain ⟨t1, t2⟩ := ht
 have s1 : (sl : Int) < n := by omega
 have eA : ∀ g, memC C (d rW) g W (L ++ accV th ba 1 w w false) (k + 1) (11, t) = C (11, t) := fun g => memC_ne (by decide)
 have eD : ∀ g, upd d rL g (11, t) = d (11, t) := fun g => upd_tag (by decide)
 clear e1
 simp only [ewRow] at g11
 refine EvB_run (N := 13) Tryz.func59 rfl rfl fun z hP hO hro hN hQ => ?_
 repeat' first | simp (maxSteps := 2000000) (disch := first | omega | assumption) only [go_sem, *, atQ] | (apply xs <;> intro _) <;> try omega | ((with_reducible refine isD 1 ?_); refine dw 44 1 w211_1 (by first | (simp only [go_sem, *]; done) | rfl) (by kernel_rfl) (by kernel_rfl) ?_) | refine fun (_ _ : List Nat) => ?_ | (first | refine inQ Tryz.func209 rfl ?_ ?_ ?_ ?_ | refine inQ Tryz.func211 rfl ?_ ?_ ?_ ?_ | fail) <;> intros
 refine cal (loadB OPm (S.junk2 (Nat.le_refl _) (Nat.lt_succ_self _)) M hk ⟨t1, t2⟩ hb) (by simp only [*]) (by simp only [*]) (by simp only [go_sem, *]) (by simp only [go_sem, *]) ?_
 rintro r h2 n2' ⟨g, hg1, hg2, rfl, S2⟩
 rw [hW] at S2 ⊢
 have f2 := S2.at2 (a := 5) (b := 0) (by decide) e2
 have f11 := S2.at2 (a := 11) (b := t) (by decide) e11
 simp only [ewRow] at f11
 clear g2 g7 g10 g11
 by_cases c1 : w.tmod 2 = 1
 ·have es : EW.step ⟨sl, se, 0⟩ n set w = ⟨sl, w, 1⟩ := by simp [EW.step, c1]
  rw [es] at hQ
  simp only [ewRow] at hQ
  repeat' first | simp (maxSteps := 2000000) (disch := first | omega | assumption) only [go_sem, *] | (apply xs <;> intro _) <;> try omega | ((with_reducible refine isD 5 ?_); refine dw 29 5 w209_5 (by first | (simp only [go_sem, *]; done) | rfl) (by kernel_rfl) (by kernel_rfl) ?_) | refine fun (_ _ : List Nat) => ?_
  exact ⟨g, by omega, hg2, ((S2.set (11, t) _ ((eA g).trans e11) (eD g)).set (11, t) _ upd_same (eD g)).eq (by first | (rw [upd_upd]; done) | (rw [upd_upd]; rfl)) rfl⟩
 ·by_cases c2 : (sl : Int) + 1 = n
  ·have es : EW.step ⟨sl, se, 0⟩ n set w = ⟨sl + 1, w, 3⟩ := by simp [EW.step, EW.next, c1, show sl + 1 = n by omega]
   have ec : ((sl + 1 : Nat) : Int) = n := by omega
   rw [es] at hQ
   simp only [ewRow, ec] at hQ
   repeat' first | simp (maxSteps := 2000000) (disch := first | omega | assumption) only [go_sem, *] | (apply xs <;> intro _) <;> try omega | ((with_reducible refine isD 5 ?_); refine dw 29 5 w209_5 (by first | (simp only [go_sem, *]; done) | rfl) (by kernel_rfl) (by kernel_rfl) ?_) | ((with_reducible refine isD 2 ?_); refine dw 28 2 w210_2 (by first | (simp only [go_sem, *]; done) | rfl) (by kernel_rfl) (by kernel_rfl) ?_) | refine fun (_ _ : List Nat) => ?_ | (first | refine inQ Tryz.func210 rfl ?_ ?_ ?_ ?_ | fail) <;> intros
   exact ⟨g, by omega, hg2, ((((S2.set (11, t) _ ((eA g).trans e11) (eD g)).set (11, t) _ upd_same (eD g)).set (11, t) _ upd_same (eD g)).set (11, t) _ upd_same (eD g)).eq (by first | (rw [upd_upd, upd_upd, upd_upd]; done) | (rw [upd_upd, upd_upd, upd_upd]; rfl)) rfl⟩
  ·have es : EW.step ⟨sl, se, 0⟩ n set w = ⟨sl + 1, w, 0⟩ := by simp [EW.step, EW.next, c1, show ¬ sl + 1 = n by omega]
   have ec : ((sl + 1 : Nat) : Int) = (sl : Int) + 1 := by omega
   rw [es] at hQ
   simp only [ewRow, ec] at hQ
   repeat' first | simp (maxSteps := 2000000) (disch := first | omega | assumption) only [go_sem, *] | (apply xs <;> intro _) <;> try omega | ((with_reducible refine isD 5 ?_); refine dw 29 5 w209_5 (by first | (simp only [go_sem, *]; done) | rfl) (by kernel_rfl) (by kernel_rfl) ?_) | ((with_reducible refine isD 2 ?_); refine dw 28 2 w210_2 (by first | (simp only [go_sem, *]; done) | rfl) (by kernel_rfl) (by kernel_rfl) ?_) | refine fun (_ _ : List Nat) => ?_ | (first | refine inQ Tryz.func210 rfl ?_ ?_ ?_ ?_ | fail) <;> intros
   exact ⟨g, by omega, hg2, (((S2.set (11, t) _ ((eA g).trans e11) (eD g)).set (11, t) _ upd_same (eD g)).set (11, t) _ upd_same (eD g)).eq (by first | (rw [upd_upd, upd_upd]; done) | (rw [upd_upd, upd_upd]; rfl)) rfl⟩
end Go.Proofs.YtbceiadaihphaaaGreat
