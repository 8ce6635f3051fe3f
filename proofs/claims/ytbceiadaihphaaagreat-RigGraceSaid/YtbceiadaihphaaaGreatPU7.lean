/-
  A part of the proof: contracts of inner functions.
-/
import Derived.Test.YtbceiadaihphaaaGreatPU3
import Derived.Test.YtbceiadaihphaaaGreatPJ
set_option linter.unusedVariables false
set_option linter.unusedSimpArgs false
namespace Go.Proofs.YtbceiadaihphaaaGreat
open Go.Am
set_option maxRecDepth 100000 in
set_option maxHeartbeats 8000000 in
theorem gFlipsB {h : PT ABlk} {nb nn off len cap ba t k : Nat} {d : Rl → Nat} {C : Rl → Option ABlk} {base th b side : Int} {v1 : Value} {W : List Int} {L : List Value} {Lf : List Int} (S : St h nn d C) (M : IsM d C W L k) (hk : k ≤ 100000) (e5 : C (5, 0) = row [pt (d rM), I6 base, I6 nb, v1]) (e10 : C (10, t) = row [.iface 302 (pt (d (11, t)))]) (e11 : C (11, t) = row (gwRow (d (5, 0)) th (d (12, t)) off len cap (d (13, t)) side 20 189)) (e12 : C (12, t) = row (Lf.map (.int .i64))) (hl : 0 < len) (hL : Lf[off]? = some b) (hb : 0 ≤ b ∧ b < 16) (hb0 : 0 ≤ base ∧ base < 100000) (ht : 0 ≤ th ∧ th < 64) (hsd : 0 ≤ side ∧ side < 2) (hba : base + 4 * b + 0 = ba) (hbw : ba < W.length) (hw : W.length ≤ 100000) (hsc : C (20, 0) = none) :
  EvB Tryz.prog OP 59 [pt (d (10, t))] h nn fun r h' n' => ∃ g, nn ≤ g ∧ g < n' ∧ r = tup [U8 20, .bool false] ∧ St h' n' (upd d rL g) (upd (memC C (d rW) g (W.set ba (1 - side)) (L ++ accV th ba 2 W[ba] (1 - side) false) (k + 1)) (11, t) (row (gwRow (d (5, 0)) th (d (12, t)) off len cap (d (13, t)) side 19 191))) := by
 have g5 := S.at e5
 have g10 := S.at e10
 have g11 := S.at e11
 have g12 := S.at e12
 have n5 := S.lt e5
 have n10 := S.lt e10
 have n11 := S.lt e11
 have n12 := S.lt e12
 have hLv : (Lf.map (Value.int .i64))[off]? = some (.int .i64 b) := by rw [List.getElem?_map, hL]; rfl
 have hbl : Nat.blt 0 len = true := Nat.ble_eq_true_of_le hl
 obtain ⟨t1, t2⟩ := ht
 obtain ⟨b1, b2⟩ := hb
 obtain ⟨b3, b4⟩ := hb0
 have b5 : b < 100 := by omega
 simp only [gwRow] at g11
 have Ms := M.upd (a := 20) (b := 0) (i := nn) (B := row [U8 0, .nilFunc]) (by omega)
 clear e5 e10 e12
 refine EvB_run (N := 13) Tryz.func59 rfl rfl fun z hP hO hro hN hQ => ?_
 obtain ⟨sd1, sd2⟩ := hsd
 by_cases cs : side = 0
 ·subst cs
  have c3 : (0 : Int).tmod 2 = 0 := rfl
  repeat' first | simp (maxSteps := 2000000) (disch := first | omega | assumption) only [go_sem, *, wordsQ, bkL] | (apply xs <;> intro _) <;> try omega | ((with_reducible refine isD 1 ?_); refine dw 25 1 w189_1 (by first | (simp only [go_sem, *]; done) | rfl) (by kernel_rfl) (by kernel_rfl) ?_) | refine fun (_ _ : List Nat) => ?_ | (first | refine inQ Tryz.func218 rfl ?_ ?_ ?_ ?_ | refine inQ Tryz.func189 rfl ?_ ?_ ?_ ?_ | fail) <;> intros
  refine cal (storeB (x := 1) OPm (S.new (20, 0) _ (Nat.le_refl _) (Nat.lt_succ_self _)) Ms hk ⟨t1, t2⟩ hbw) (by simp only [*]) (by simp only [*]) (by simp only [go_sem, *]) (by simp only [go_sem, *]) ?_
  rintro r h2 n2' ⟨g, hg1, hg2, rfl, S2⟩
  have f11 := S2.at2 (a := 11) (b := t) (by decide) ((upd_tag (by decide)).trans e11)
  rw [upd_tag (by decide)] at f11
  have f20 := S2.at2 (a := 20) (b := 0) (by decide) upd_same
  rw [upd_same] at f20
  simp only [gwRow] at f11
  clear g5 g10 g11 g12
  repeat' first | simp (maxSteps := 2000000) (disch := first | omega | assumption) only [go_sem, *] | (apply xs <;> intro _) <;> try omega | ((with_reducible refine isD 5 ?_); refine dw 36 5 w218_5 (by first | (simp only [go_sem, *]; done) | rfl) (by kernel_rfl) (by kernel_rfl) ?_) | refine fun (_ _ : List Nat) => ?_
  exact ⟨g, by omega, hg2, St.scr2 S2 hsc e11⟩
 ·have cs1 : side = 1 := by omega
  subst cs1
  have c3 : (1 : Int).tmod 2 = 1 := rfl
  repeat' first | simp (maxSteps := 2000000) (disch := first | omega | assumption) only [go_sem, *, wordsQ, bkL] | (apply xs <;> intro _) <;> try omega | ((with_reducible refine isD 1 ?_); refine dw 25 1 w189_1 (by first | (simp only [go_sem, *]; done) | rfl) (by kernel_rfl) (by kernel_rfl) ?_) | refine fun (_ _ : List Nat) => ?_ | (first | refine inQ Tryz.func218 rfl ?_ ?_ ?_ ?_ | refine inQ Tryz.func189 rfl ?_ ?_ ?_ ?_ | fail) <;> intros
  refine cal (storeB (x := 0) OPm (S.new (20, 0) _ (Nat.le_refl _) (Nat.lt_succ_self _)) Ms hk ⟨t1, t2⟩ hbw) (by simp only [*]) (by simp only [*]) (by simp only [go_sem, *]) (by simp only [go_sem, *]) ?_
  rintro r h2 n2' ⟨g, hg1, hg2, rfl, S2⟩
  have f11 := S2.at2 (a := 11) (b := t) (by decide) ((upd_tag (by decide)).trans e11)
  rw [upd_tag (by decide)] at f11
  have f20 := S2.at2 (a := 20) (b := 0) (by decide) upd_same
  rw [upd_same] at f20
  simp only [gwRow] at f11
  clear g5 g10 g11 g12
  repeat' first | simp (maxSteps := 2000000) (disch := first | omega | assumption) only [go_sem, *] | (apply xs <;> intro _) <;> try omega | ((with_reducible refine isD 5 ?_); refine dw 36 5 w218_5 (by first | (simp only [go_sem, *]; done) | rfl) (by kernel_rfl) (by kernel_rfl) ?_) | refine fun (_ _ : List Nat) => ?_
  exact ⟨g, by omega, hg2, St.scr2 S2 hsc e11⟩
end Go.Proofs.YtbceiadaihphaaaGreat
set_option linter.unusedVariables false
set_option linter.unusedSimpArgs false
namespace Go.Proofs.YtbceiadaihphaaaGreat
open Go.Am
theorem St.scr3 {h : PT ABlk} {n nn g t : Nat} {d : Rl → Nat} {C C' : Rl → Option ABlk} {B Y Z A : ABlk} (S : St h n (upd (upd d (20, 0) nn) rL g) C') (e20 : C' (20, 0) = some B) (e11 : C' (11, t) = some A) (hC : ∀ s, s ≠ (20, 0) → C' s = C s) (hsc : C (20, 0) = none) : St ((h.set nn (some Y)).set (d (11, t)) (some Z)) n (upd d rL g) (upd C (11, t) (some Z)) := by
 have dA : Go.Am.upd (Go.Am.upd d (20, 0) nn) rL g (11, t) = d (11, t) := by rw [upd_tag (by decide), upd_tag (by decide)]
 have dB : Go.Am.upd (Go.Am.upd d (20, 0) nn) rL g (20, 0) = nn := by rw [upd_tag (by decide), upd_same]
 have S4 := S.set (20, 0) Y e20 dB
 have S5 := ((S4.set (11, t) Z ((upd_tag (by decide)).trans e11) dA).drop (20, 0)).redir (d' := Go.Am.upd d rL g) (20, 0) upd_same fun s c => by
  by_cases c2 : s = rL
  ·subst c2; rw [upd_same, upd_same]
  ·rw [upd_ne c2, upd_ne c2, upd_ne c]
 refine S5.eq ?_ rfl
 funext s
 by_cases c1 : s = (20, 0)
 ·subst c1; rw [upd_same, upd_tag (by decide), hsc]
 ·rw [upd_ne c1]
  by_cases c2 : s = (11, t)
  ·subst c2; rw [upd_same, upd_same]
  ·rw [upd_ne c2, upd_ne c1, upd_ne c2, hC s c1]
set_option maxRecDepth 100000 in
set_option maxHeartbeats 8000000 in
theorem gLocksB {h : PT ABlk} {nb nn off len cap ba t k : Nat} {d : Rl → Nat} {C : Rl → Option ABlk} {base th b side fl : Int} {v1 : Value} {W : List Int} {L : List Value} {Lf : List Int} (S : St h nn d C) (M : IsM d C W L k) (hk : k ≤ 100000) (e5 : C (5, 0) = row [pt (d rM), I6 base, I6 nb, v1]) (e10 : C (10, t) = row [.iface 302 (pt (d (11, t)))]) (e11 : C (11, t) = row (gwRow (d (5, 0)) th (d (12, t)) off len cap (d (13, t)) side 2 177)) (e13 : C (13, t) = row [I6 fl, I6 0, pt (d rM), I6 th, I6 ba, .func (.func 180) ⟨[pt (d (13, t))]⟩ ⟨[]⟩, I6 0]) (hfl : 0 ≤ fl ∧ fl < 100000) (e12 : C (12, t) = row (Lf.map (.int .i64))) (hl : 0 < len) (hL : Lf[off]? = some b) (hb : 0 ≤ b ∧ b < 16) (hb0 : 0 ≤ base ∧ base < 100000) (ht : 0 ≤ th ∧ th < 64) (hba : base + 4 * b + 3 = ba) (hbw : ba < W.length) (hw : W.length ≤ 100000) (hsc : C (20, 0) = none) (hW0 : W[ba] = 0) :
  EvB Tryz.prog OP 59 [pt (d (10, t))] h nn fun r h' n' => ∃ g, nn ≤ g ∧ g < n' ∧ r = tup [U8 2, .bool false] ∧ St h' n' (upd d rL g) (upd (upd (memC C (d rW) g (W.set ba (th + 1)) (L ++ accV th ba 4 0 (th + 1) true) (k + 1)) (13, t) (row [I6 fl, I6 0, pt (d rM), I6 th, I6 ba, .nilFunc, I6 0])) (11, t) (row (gwRow (d (5, 0)) th (d (12, t)) off len cap (d (13, t)) side 15 182))) := by
 have g5 := S.at e5
 have g10 := S.at e10
 have g11 := S.at e11
 have g12 := S.at e12
 have n5 := S.lt e5
 have g13 := S.at e13
 have n13 := S.lt e13
 have d13 := S.df e11 e13 (by simp)
 have n10 := S.lt e10
 have n11 := S.lt e11
 have n12 := S.lt e12
 have hLv : (Lf.map (Value.int .i64))[off]? = some (.int .i64 b) := by rw [List.getElem?_map, hL]; rfl
 have hbl : Nat.blt 0 len = true := Nat.ble_eq_true_of_le hl
 obtain ⟨t1, t2⟩ := ht
 obtain ⟨b1, b2⟩ := hb
 obtain ⟨b3, b4⟩ := hb0
 have b5 : b < 100 := by omega
 simp only [gwRow] at g11
 have Ms := M.upd (a := 20) (b := 0) (i := nn) (B := row [U8 0, .nilFunc]) (by omega)
 clear e5 e10 e12
 refine EvB_run (N := 13) Tryz.func59 rfl rfl fun z hP hO hro hN hQ => ?_
 repeat' first | simp (maxSteps := 2000000) (disch := first | omega | assumption) only [go_sem, *, wordsQ, bkL] | (apply xs <;> intro _) <;> try omega | ((with_reducible refine isD 1 ?_); refine dw 47 1 w180_1 (by first | (simp only [go_sem, *]; done) | rfl) (by kernel_rfl) (by kernel_rfl) ?_) | refine fun (_ _ : List Nat) => ?_ | (first | refine inQ Tryz.func218 rfl ?_ ?_ ?_ ?_ | refine inQ Tryz.func177 rfl ?_ ?_ ?_ ?_ | refine inQ Tryz.func181 rfl ?_ ?_ ?_ ?_ | refine inQ Tryz.func180 rfl ?_ ?_ ?_ ?_ | fail) <;> intros
 refine cal (casB (o := 0) (x := th + 1) OPm (S.new (20, 0) _ (Nat.le_refl _) (Nat.lt_succ_self _)) Ms hk ⟨t1, t2⟩ hbw hW0) (by simp only [*]) (by simp only [*]) (by simp only [go_sem, *]) (by simp only [go_sem, *]) ?_
 rintro r h2 n2' ⟨g, hg1, hg2, rfl, S2⟩
 have f11 := S2.at2 (a := 11) (b := t) (by decide) ((upd_tag (by decide)).trans e11)
 rw [upd_tag (by decide)] at f11
 have f13 := S2.at2 (a := 13) (b := t) (by decide) ((upd_tag (by decide)).trans e13)
 rw [upd_tag (by decide)] at f13
 have f20 := S2.at2 (a := 20) (b := 0) (by decide) upd_same
 rw [upd_same] at f20
 simp only [gwRow] at f11
 clear g5 g10 g11 g12 g13
 repeat' first | simp (maxSteps := 2000000) (disch := first | omega | assumption) only [go_sem, *] | (apply xs <;> intro _) <;> try omega | ((with_reducible refine isD 5 ?_); refine dw 36 5 w218_5 (by first | (simp only [go_sem, *]; done) | rfl) (by kernel_rfl) (by kernel_rfl) ?_) | ((with_reducible refine isD 6 ?_); refine dw 47 6 w180_6 (by first | (simp only [go_sem, *]; done) | rfl) (by kernel_rfl) (by kernel_rfl) ?_) | refine fun (_ _ : List Nat) => ?_
 have dC : Go.Am.upd (Go.Am.upd d (20, 0) nn) rL g (13, t) = d (13, t) := by rw [upd_tag (by decide), upd_tag (by decide)]
 exact ⟨g, by omega, hg2, St.scr3 (S2.set (13, t) _ ((memC_ne (by decide)).trans ((upd_tag (by decide)).trans e13)) dC) (by rw [upd_tag (by decide), memC_ne (by decide), upd_same]) (by rw [upd_tag (by decide), memC_ne (by decide), upd_tag (by decide)]; exact e11) (fun s c => by
  by_cases c3 : s = (13, t)
  ·subst c3; rw [upd_same, upd_same]
  ·rw [upd_ne c3, upd_ne c3, memC_scr c, upd_tag (by decide)]) (by rw [upd_tag (by decide), memC_ne (by decide)]; exact hsc)⟩
end Go.Proofs.YtbceiadaihphaaaGreat
set_option linter.unusedVariables false
set_option linter.unusedSimpArgs false
namespace Go.Proofs.YtbceiadaihphaaaGreat
open Go.Am
set_option maxRecDepth 100000 in
set_option maxHeartbeats 8000000 in
theorem gLockedB {h : PT ABlk} {nb nn off len cap ba t k : Nat} {d : Rl → Nat} {C : Rl → Option ABlk} {base th b side fl : Int} {v1 : Value} {W : List Int} {L : List Value} {Lf : List Int} (S : St h nn d C) (M : IsM d C W L k) (hk : k ≤ 100000) (e5 : C (5, 0) = row [pt (d rM), I6 base, I6 nb, v1]) (e10 : C (10, t) = row [.iface 302 (pt (d (11, t)))]) (e11 : C (11, t) = row (gwRow (d (5, 0)) th (d (12, t)) off len cap (d (13, t)) side 2 177)) (e13 : C (13, t) = row [I6 fl, I6 0, pt (d rM), I6 th, I6 ba, .func (.func 180) ⟨[pt (d (13, t))]⟩ ⟨[]⟩, I6 0]) (hfl : 0 ≤ fl ∧ fl < 100000) (e12 : C (12, t) = row (Lf.map (.int .i64))) (hl : 0 < len) (hL : Lf[off]? = some b) (hb : 0 ≤ b ∧ b < 16) (hb0 : 0 ≤ base ∧ base < 100000) (ht : 0 ≤ th ∧ th < 64) (hba : base + 4 * b + 3 = ba) (hbw : ba < W.length) (hw : W.length ≤ 100000) (hsc : C (20, 0) = none) (hW0 : W[ba] ≠ 0) :
  EvB Tryz.prog OP 59 [pt (d (10, t))] h nn fun r h' n' => ∃ g, nn ≤ g ∧ g < n' ∧ r = tup [U8 2, .bool false] ∧ St h' n' (upd d rL g) (upd (upd (memC C (d rW) g W (L ++ accV th ba 4 W[ba] W[ba] false) (k + 1)) (13, t) (row [I6 (fl + 1), I6 0, pt (d rM), I6 th, I6 ba, .func (.func 180) ⟨[pt (d (13, t))]⟩ ⟨[]⟩, I6 0])) (11, t) (row (gwRow (d (5, 0)) th (d (12, t)) off len cap (d (13, t)) side 2 177))) := by
 have g5 := S.at e5
 have g10 := S.at e10
 have g11 := S.at e11
 have g12 := S.at e12
 have n5 := S.lt e5
 have g13 := S.at e13
 have n13 := S.lt e13
 have d13 := S.df e11 e13 (by simp)
 have n10 := S.lt e10
 have n11 := S.lt e11
 have n12 := S.lt e12
 have hLv : (Lf.map (Value.int .i64))[off]? = some (.int .i64 b) := by rw [List.getElem?_map, hL]; rfl
 have hbl : Nat.blt 0 len = true := Nat.ble_eq_true_of_le hl
 obtain ⟨t1, t2⟩ := ht
 obtain ⟨fl1, fl2⟩ := hfl
 obtain ⟨b1, b2⟩ := hb
 obtain ⟨b3, b4⟩ := hb0
 have b5 : b < 100 := by omega
 simp only [gwRow] at g11
 have Ms := M.upd (a := 20) (b := 0) (i := nn) (B := row [U8 0, .nilFunc]) (by omega)
 clear e5 e10 e12
 refine EvB_run (N := 13) Tryz.func59 rfl rfl fun z hP hO hro hN hQ => ?_
 repeat' first | simp (maxSteps := 2000000) (disch := first | omega | assumption) only [go_sem, *, wordsQ, bkL] | (apply xs <;> intro _) <;> try omega | ((with_reducible refine isD 1 ?_); refine dw 47 1 w180_1 (by first | (simp only [go_sem, *]; done) | rfl) (by kernel_rfl) (by kernel_rfl) ?_) | refine fun (_ _ : List Nat) => ?_ | (first | refine inQ Tryz.func218 rfl ?_ ?_ ?_ ?_ | refine inQ Tryz.func177 rfl ?_ ?_ ?_ ?_ | refine inQ Tryz.func181 rfl ?_ ?_ ?_ ?_ | refine inQ Tryz.func180 rfl ?_ ?_ ?_ ?_ | fail) <;> intros
 refine cal (casfB (o := 0) (x := th + 1) OPm (S.new (20, 0) _ (Nat.le_refl _) (Nat.lt_succ_self _)) Ms hk ⟨t1, t2⟩ hbw hW0) (by simp only [*]) (by simp only [*]) (by simp only [go_sem, *]) (by simp only [go_sem, *]) ?_
 rintro r h2 n2' ⟨g, hg1, hg2, rfl, S2⟩
 have f11 := S2.at2 (a := 11) (b := t) (by decide) ((upd_tag (by decide)).trans e11)
 rw [upd_tag (by decide)] at f11
 have f13 := S2.at2 (a := 13) (b := t) (by decide) ((upd_tag (by decide)).trans e13)
 rw [upd_tag (by decide)] at f13
 have f20 := S2.at2 (a := 20) (b := 0) (by decide) upd_same
 rw [upd_same] at f20
 simp only [gwRow] at f11
 clear g5 g10 g11 g12 g13
 have hf1 : ¬ fl + 1 = 0 := by omega
 repeat' first | simp (maxSteps := 2000000) (disch := first | omega | assumption) only [go_sem, *] | (apply xs <;> intro _) <;> try omega | ((with_reducible refine isD 5 ?_); refine dw 36 5 w218_5 (by first | (simp only [go_sem, *]; done) | rfl) (by kernel_rfl) (by kernel_rfl) ?_) | ((with_reducible refine isD 6 ?_); refine dw 47 6 w180_6 (by first | (simp only [go_sem, *]; done) | rfl) (by kernel_rfl) (by kernel_rfl) ?_) | ((with_reducible refine isD 2 ?_); refine dw 19 2 w184_2 (by first | (simp only [go_sem, *]; done) | rfl) (by kernel_rfl) (by kernel_rfl) ?_) | refine fun (_ _ : List Nat) => ?_ | (first | refine inQ Tryz.func184 rfl ?_ ?_ ?_ ?_ | fail) <;> intros
 have dC : Go.Am.upd (Go.Am.upd d (20, 0) nn) rL g (13, t) = d (13, t) := by rw [upd_tag (by decide), upd_tag (by decide)]
 exact ⟨g, by omega, hg2, St.scr3 (S2.set (13, t) _ ((memC_ne (by decide)).trans ((upd_tag (by decide)).trans e13)) dC) (by rw [upd_tag (by decide), memC_ne (by decide), upd_same]) (by rw [upd_tag (by decide), memC_ne (by decide), upd_tag (by decide)]; exact e11) (fun s c => by
  by_cases c3 : s = (13, t)
  ·subst c3; rw [upd_same, upd_same]
  ·rw [upd_ne c3, upd_ne c3, memC_scr c, upd_tag (by decide)]) (by rw [upd_tag (by decide), memC_ne (by decide)]; exact hsc)⟩
end Go.Proofs.YtbceiadaihphaaaGreat
set_option linter.unusedVariables false
set_option linter.unusedSimpArgs false
namespace Go.Proofs.YtbceiadaihphaaaGreat
open Go.Am
theorem IsM.updC {d : Rl → Nat} {C : Rl → Option ABlk} {W : List Int} {L : List Value} {k a b : Nat} {B : Option ABlk} (M : IsM d C W L k) (ha : 2 < a) : IsM d (Go.Am.upd C (a, b) B) W L k := by
 obtain ⟨m1, m2, m3, m4⟩ := M
 refine ⟨?_, ?_, ?_, m4⟩
 ·rw [upd_tag (by omega)]; exact m1
 ·rw [upd_tag (by omega)]; exact m2
 ·rw [upd_tag (by omega)]; exact m3
theorem IsM.updD {d : Rl → Nat} {C : Rl → Option ABlk} {W : List Int} {L : List Value} {k a b i : Nat} (M : IsM d C W L k) (ha : 2 < a) : IsM (Go.Am.upd d (a, b) i) C W L k := by
 obtain ⟨m1, m2, m3, m4⟩ := M
 refine ⟨?_, m2, m3, m4⟩
 rw [upd_tag (by omega), upd_tag (by omega)]; exact m1
theorem St.scr4 {h : PT ABlk} {n nn i t : Nat} {D d' : Rl → Nat} {C C' : Rl → Option ABlk} {B Y Z A : ABlk} (S : St h n D C') (e20 : C' (20, 0) = some B) (e11 : C' (11, t) = some A) (hC : ∀ s, s ≠ (20, 0) → s ≠ (11, t) → C' s = C s) (hsc : C (20, 0) = none) (d20 : D (20, 0) = nn) (d11 : D (11, t) = i) (hd : ∀ s, s ≠ (20, 0) → d' s = D s) : St ((h.set nn (some Y)).set i (some Z)) n d' (upd C (11, t) (some Z)) := by
 have S4 := S.set (20, 0) Y e20 d20
 have S5 := ((S4.set (11, t) Z ((upd_tag (by decide)).trans e11) d11).drop (20, 0)).redir (d' := d') (20, 0) upd_same hd
 refine S5.eq ?_ rfl
 funext s
 by_cases c1 : s = (20, 0)
 ·subst c1; rw [upd_same, upd_tag (by decide), hsc]
 ·rw [upd_ne c1]
  by_cases c2 : s = (11, t)
  ·subst c2; rw [upd_same, upd_same]
  ·rw [upd_ne c2, upd_ne c1, upd_ne c2, hC s c1 c2]
set_option maxRecDepth 100000 in
set_option maxHeartbeats 8000000 in
theorem gUnlockB {h : PT ABlk} {nb nn off len ba ba2 t k : Nat} {d : Rl → Nat} {C : Rl → Option ABlk} {base th b b2 side : Int} {v1 : Value} {W : List Int} {L : List Value} {Lf : List Int} (S : St h nn d C) (M : IsM d C W L k) (hk : k ≤ 100000) (e5 : C (5, 0) = row [pt (d rM), I6 base, I6 nb, v1]) (e10 : C (10, t) = row [.iface 302 (pt (d (11, t)))]) (e11 : C (11, t) = row (gwRow (d (5, 0)) th (d (12, t)) off len (capInf + 1) (d (13, t)) side 3 192)) (e12 : C (12, t) = row (Lf.map (.int .i64))) (hl : 1 < len) (hL : Lf[off]? = some b) (hL2 : Lf[off + 1]? = some b2) (hb : 0 ≤ b ∧ b < 16) (hb2 : 0 ≤ b2 ∧ b2 < 16) (hb0 : 0 ≤ base ∧ base < 100000) (ht : 0 ≤ th ∧ th < 64) (hba : base + 4 * b + 3 = ba) (hbw : ba < W.length) (hba2 : base + 4 * b2 + 3 = ba2) (hbw2 : ba2 < W.length) (hw : W.length ≤ 100000) (hsc : C (20, 0) = none) (hW0 : W[ba] = th + 1) :
  EvB Tryz.prog OP 59 [pt (d (10, t))] h nn fun r h' n' => ∃ g g3, nn ≤ g ∧ g < g3 ∧ g3 < n' ∧ r = tup [U8 3, .bool false] ∧ St h' n' (upd (upd d rL g) (13, t) g3) (upd (upd (memC C (d rW) g (W.set ba 0) (L ++ accV th ba 2 (th + 1) 0 false) (k + 1)) (13, t) (row [I6 0, I6 0, pt (d rM), I6 th, I6 ba2, .func (.func 180) ⟨[pt g3]⟩ ⟨[]⟩, I6 0])) (11, t) (row (gwRow (d (5, 0)) th (d (12, t)) (off + 1) (len - 1) (capInf + 1) g3 side 2 177))) := by
 have g5 := S.at e5
 have g10 := S.at e10
 have g11 := S.at e11
 have g12 := S.at e12
 have g0 := S.at M.mem
 have gw := S.at M.words
 have n0 := S.lt M.mem
 have nw := S.lt M.words
 have n5 := S.lt e5
 have n10 := S.lt e10
 have n11 := S.lt e11
 have n12 := S.lt e12
 have hg := mapW_get hbw
 rw [hW0] at hg
 have a1 : (0 : Int) ≤ (ba : Int) := by omega
 have a2 : (ba : Int) < (W.length : Int) := by omega
 have hLv : (Lf.map (Value.int .i64))[off]? = some (.int .i64 b) := by rw [List.getElem?_map, hL]; rfl
 have hbl : Nat.blt 0 len = true := Nat.ble_eq_true_of_le (by omega)
 obtain ⟨t1, t2⟩ := ht
 obtain ⟨b1, b2'⟩ := hb
 obtain ⟨b3, b4⟩ := hb0
 have b5 : b < 100 := by omega
 simp only [gwRow] at g11
 have Ms := M.upd (a := 20) (b := 0) (i := nn) (B := row [U8 0, .nilFunc]) (by omega)
 refine EvB_run (N := 13) Tryz.func59 rfl rfl fun z hP hO hro hN hQ => ?_
 repeat' first | simp (maxSteps := 2000000) (disch := first | omega | assumption) only [go_sem, *, wordsQ, bkL] | (apply xs <;> intro _) <;> try omega | ((with_reducible refine isD 1 ?_); refine dw 28 1 w192_1 (by first | (simp only [go_sem, *]; done) | rfl) (by kernel_rfl) (by kernel_rfl) ?_) | refine fun (_ _ : List Nat) => ?_ | (first | refine inQ Tryz.func218 rfl ?_ ?_ ?_ ?_ | refine inQ Tryz.func192 rfl ?_ ?_ ?_ ?_ | refine inQ Tryz.func193 rfl ?_ ?_ ?_ ?_ | refine inQ Tryz.func179 rfl ?_ ?_ ?_ ?_ | refine inQ Tryz.func79 rfl ?_ ?_ ?_ ?_ | refine inQ Tryz.func90 rfl ?_ ?_ ?_ ?_ | refine inQ Tryz.func89 rfl ?_ ?_ ?_ ?_ | fail) <;> intros
 refine cal (storeB (x := 0) OPm (S.new (20, 0) _ (Nat.le_refl _) (Nat.lt_succ_self _)) Ms hk ⟨t1, t2⟩ hbw) (by simp only [*]) (by simp only [*]) (by simp only [go_sem, *]) (by simp only [go_sem, *]) ?_
 rintro r h2 n2' ⟨g, hg1, hg2, rfl, S2⟩
 rw [hW0] at S2
 have f11 := S2.at2 (a := 11) (b := t) (by decide) ((upd_tag (by decide)).trans e11)
 rw [upd_tag (by decide)] at f11
 have f20 := S2.at2 (a := 20) (b := 0) (by decide) upd_same
 rw [upd_same] at f20
 simp only [gwRow] at f11
 have hl2 : 1 ≤ len := by omega
 clear g5 g10 g11 g12 g0 gw
 repeat' first | simp (maxSteps := 2000000) (disch := first | omega | assumption) only [go_sem, *] | (apply xs <;> intro _) <;> try omega | refine fun (_ _ : List Nat) => ?_
 have M3 : IsM (upd (upd d (20, 0) nn) rL g) (memC (upd C (20, 0) (row [U8 0, .nilFunc])) (upd d (20, 0) nn rW) g (W.set ba 0) (L ++ accV th ba 2 (th + 1) 0 false) (k + 1)) (W.set ba 0) (L ++ accV th ba 2 (th + 1) 0 false) (k + 1) := IsM.next (W := W) (L := L) List.length_set (by rw [List.length_append, M.len]; show _ + 6 = _; omega)
 have dA : Go.Am.upd (Go.Am.upd d (20, 0) nn) rL g (11, t) = d (11, t) := by simp (disch := first | decide | assumption | omega) only [rM, rW, rL, upd_same, upd_tag, upd_num, memC_ne]
 have S3 := S2.set (11, t) (.cells (PT.ofList .leaf 0 [pt (d (5, 0)), I6 th, .slice (some ⟨d (12, t), off + 1, none⟩) (len - 1) (capInf + 1), pt (d (13, t)), U6 side, U8 3, .func (.func 192) ⟨[]⟩ ⟨[]⟩]) false) (by simp (disch := first | decide | assumption | omega) only [rM, rW, rL, upd_same, upd_tag, upd_num, memC_ne]; exact e11) dA
 have bg := gBeginB (nb := nb) (off := off + 1) (len := len - 1) (cap := capInf + 1) (ba := ba2) (base := base) (th := th) (b := b2) (v1 := v1) (lk := pt (d (13, t))) (sd := U6 side) (p := U8 3) (q := .func (.func 192) ⟨[]⟩ ⟨[]⟩) (t := t) (Lf := Lf) S3 (M3.updC (by omega)) (by simp (disch := first | decide | assumption | omega) only [rM, rW, rL, upd_same, upd_tag, upd_num, memC_ne]; exact e5) (by simp (disch := first | decide | assumption | omega) only [rM, rW, rL, upd_same, upd_tag, upd_num, memC_ne]) (by simp (disch := first | decide | assumption | omega) only [rM, rW, rL, upd_same, upd_tag, upd_num, memC_ne]; exact e12) (by omega) hL2 hb2 ⟨b3, b4⟩ ⟨t1, t2⟩ hba2 (by rw [List.length_set]; exact hbw2) (by rw [List.length_set]; exact hw)
 rw [dA] at bg
 refine cal (bg) (by simp only [*]) (by simp only [*]) (by simp only [go_sem, *]) (by simp only [go_sem, *]) ?_
 rintro r h3 n3 ⟨g3, hg3, hg4, rfl, S4⟩
 have f11 := S4.at (r := (11, t)) upd_same
 rw [show Go.Am.upd (Go.Am.upd (Go.Am.upd d (20, 0) nn) rL g) (13, t) g3 (11, t) = d (11, t) by simp (disch := first | decide | assumption | omega) only [rM, rW, rL, upd_same, upd_tag, upd_num, memC_ne]] at f11
 have f20 := S4.at (r := (20, 0)) (B := .cells (PT.ofList .leaf 0 [U8 0, .nilFunc]) false) (by simp (disch := first | decide | assumption | omega) only [rM, rW, rL, upd_same, upd_tag, upd_num, memC_ne])
 rw [show Go.Am.upd (Go.Am.upd (Go.Am.upd d (20, 0) nn) rL g) (13, t) g3 (20, 0) = nn by simp (disch := first | decide | assumption | omega) only [rM, rW, rL, upd_same, upd_tag, upd_num, memC_ne]] at f20
 clear bg
 repeat' first | simp (maxSteps := 2000000) (disch := first | omega | assumption) only [go_sem, *] | (apply xs <;> intro _) <;> try omega | ((with_reducible refine isD 5 ?_); refine dw 36 5 w218_5 (by first | (simp only [go_sem, *]; done) | rfl) (by kernel_rfl) (by kernel_rfl) ?_) | refine fun (_ _ : List Nat) => ?_
 have dE : Go.Am.upd (Go.Am.upd d (20, 0) nn) rL g (5, 0) = d (5, 0) := by simp (disch := first | decide | assumption | omega) only [rM, rW, rL, upd_same, upd_tag, upd_num, memC_ne]
 have dF : Go.Am.upd (Go.Am.upd d (20, 0) nn) rL g (12, t) = d (12, t) := by simp (disch := first | decide | assumption | omega) only [rM, rW, rL, upd_same, upd_tag, upd_num, memC_ne]
 refine ⟨g, g3, by omega, by omega, hg4, ?_⟩
 rw [dE, dF]
 simp only [gwRow]
 refine St.scr4 (B := .cells (PT.ofList .leaf 0 [U8 0, .nilFunc]) false) (C := Go.Am.upd (memC C (d rW) g (W.set ba 0) (L ++ accV th ba 2 (th + 1) 0 false) (k + 1)) (13, t) (row [I6 0, I6 0, pt (d rM), I6 th, I6 ba2, .func (.func 180) ⟨[pt g3]⟩ ⟨[]⟩, I6 0])) S4 (by simp (disch := first | decide | assumption | omega) only [rM, rW, rL, upd_same, upd_tag, upd_num, memC_ne]) upd_same ?_ ?_ (by simp (disch := first | decide | assumption | omega) only [rM, rW, rL, upd_same, upd_tag, upd_num, memC_ne]) (by simp (disch := first | decide | assumption | omega) only [rM, rW, rL, upd_same, upd_tag, upd_num, memC_ne]) (fun s c => ?_)
 ·intro s c1 c2
  rw [upd_ne c2]
  by_cases c3 : s = (13, t)
  ·subst c3; rw [upd_same, upd_same]; simp (disch := decide) only [rM, upd_tag]
  ·rw [upd_ne c3, upd_ne c3, upd_ne c2, memC_scr c1, upd_tag (by decide)]
 ·simp (disch := first | decide | assumption | omega) only [rM, rW, rL, upd_same, upd_tag, upd_num, memC_ne]; exact hsc
 ·by_cases c3 : s = (13, t)
  ·subst c3; rw [upd_same, upd_same]
  ·rw [upd_ne c3, upd_ne c3]
   by_cases c2 : s = rL
   ·subst c2; rw [upd_same, upd_same]
   ·rw [upd_ne c2, upd_ne c2, upd_ne c]
set_option maxRecDepth 100000 in
set_option maxHeartbeats 8000000 in
theorem gUnlockEndB {h : PT ABlk} {nb nn off ba t k : Nat} {d : Rl → Nat} {C : Rl → Option ABlk} {base th b side : Int} {v1 : Value} {W : List Int} {L : List Value} {Lf : List Int} (S : St h nn d C) (M : IsM d C W L k) (hk : k ≤ 100000) (e5 : C (5, 0) = row [pt (d rM), I6 base, I6 nb, v1]) (e10 : C (10, t) = row [.iface 302 (pt (d (11, t)))]) (e11 : C (11, t) = row (gwRow (d (5, 0)) th (d (12, t)) off 1 (capInf + 1) (d (13, t)) side 3 192)) (e12 : C (12, t) = row (Lf.map (.int .i64))) (hL : Lf[off]? = some b) (hb : 0 ≤ b ∧ b < 16) (hb0 : 0 ≤ base ∧ base < 100000) (ht : 0 ≤ th ∧ th < 64) (hba : base + 4 * b + 3 = ba) (hbw : ba < W.length) (hw : W.length ≤ 100000) (hsc : C (20, 0) = none) (hW0 : W[ba] = th + 1) :
  EvB Tryz.prog OP 59 [pt (d (10, t))] h nn fun r h' n' => ∃ g, nn ≤ g ∧ g < n' ∧ r = tup [U8 3, .bool true] ∧ St h' n' (upd d rL g) (upd (memC C (d rW) g (W.set ba 0) (L ++ accV th ba 2 (th + 1) 0 false) (k + 1)) (11, t) (row [pt (d (5, 0)), I6 th, .slice (some ⟨d (12, t), off + 1, none⟩) 0 (capInf + 1), pt (d (13, t)), U6 side, U8 0, .nilFunc])) := by
 have g5 := S.at e5
 have g10 := S.at e10
 have g11 := S.at e11
 have g12 := S.at e12
 have g0 := S.at M.mem
 have gw := S.at M.words
 have n0 := S.lt M.mem
 have nw := S.lt M.words
 have n5 := S.lt e5
 have n10 := S.lt e10
 have n11 := S.lt e11
 have n12 := S.lt e12
 have hg := mapW_get hbw
 rw [hW0] at hg
 have a1 : (0 : Int) ≤ (ba : Int) := by omega
 have a2 : (ba : Int) < (W.length : Int) := by omega
 have hLv : (Lf.map (Value.int .i64))[off]? = some (.int .i64 b) := by rw [List.getElem?_map, hL]; rfl
 obtain ⟨t1, t2⟩ := ht
 obtain ⟨b1, b2'⟩ := hb
 obtain ⟨b3, b4⟩ := hb0
 have b5 : b < 100 := by omega
 simp only [gwRow] at g11
 have Ms := M.upd (a := 20) (b := 0) (i := nn) (B := row [U8 0, .nilFunc]) (by omega)
 refine EvB_run (N := 13) Tryz.func59 rfl rfl fun z hP hO hro hN hQ => ?_
 repeat' first | simp (maxSteps := 2000000) (disch := first | omega | assumption) only [go_sem, *, wordsQ, bkL] | (apply xs <;> intro _) <;> try omega | ((with_reducible refine isD 1 ?_); refine dw 28 1 w192_1 (by first | (simp only [go_sem, *]; done) | rfl) (by kernel_rfl) (by kernel_rfl) ?_) | refine fun (_ _ : List Nat) => ?_ | (first | refine inQ Tryz.func218 rfl ?_ ?_ ?_ ?_ | refine inQ Tryz.func192 rfl ?_ ?_ ?_ ?_ | refine inQ Tryz.func193 rfl ?_ ?_ ?_ ?_ | refine inQ Tryz.func179 rfl ?_ ?_ ?_ ?_ | refine inQ Tryz.func79 rfl ?_ ?_ ?_ ?_ | refine inQ Tryz.func90 rfl ?_ ?_ ?_ ?_ | refine inQ Tryz.func89 rfl ?_ ?_ ?_ ?_ | fail) <;> intros
 refine cal (storeB (x := 0) OPm (S.new (20, 0) _ (Nat.le_refl _) (Nat.lt_succ_self _)) Ms hk ⟨t1, t2⟩ hbw) (by simp only [*]) (by simp only [*]) (by simp only [go_sem, *]) (by simp only [go_sem, *]) ?_
 rintro r h2 n2' ⟨g, hg1, hg2, rfl, S2⟩
 rw [hW0] at S2
 have f11 := S2.at2 (a := 11) (b := t) (by decide) ((upd_tag (by decide)).trans e11)
 rw [upd_tag (by decide)] at f11
 have f20 := S2.at2 (a := 20) (b := 0) (by decide) upd_same
 rw [upd_same] at f20
 simp only [gwRow] at f11
 clear g5 g10 g11 g12 g0 gw
 repeat' first | simp (maxSteps := 2000000) (disch := first | omega | assumption) only [go_sem, *] | (apply xs <;> intro _) <;> try omega | ((with_reducible refine isD 5 ?_); refine dw 36 5 w218_5 (by first | (simp only [go_sem, *]; done) | rfl) (by kernel_rfl) (by kernel_rfl) ?_) | refine fun (_ _ : List Nat) => ?_ | (first | refine inQ Tryz.func173 rfl ?_ ?_ ?_ ?_ | fail) <;> intros
 have dA : Go.Am.upd (Go.Am.upd d (20, 0) nn) rL g (11, t) = d (11, t) := by simp (disch := first | decide | assumption | omega) only [rM, rW, rL, upd_same, upd_tag, upd_num, memC_ne]
 have S3 := S2.set (11, t) (.cells (PT.ofList .leaf 0 [pt (d (5, 0)), I6 th, .slice (some ⟨d (12, t), off + 1, none⟩) 0 (capInf + 1), pt (d (13, t)), U6 side, U8 3, .func (.func 192) ⟨[]⟩ ⟨[]⟩]) false) (by simp (disch := first | decide | assumption | omega) only [rM, rW, rL, upd_same, upd_tag, upd_num, memC_ne]; exact e11) dA
 refine ⟨g, by omega, by omega, ?_⟩
 refine St.scr4 (B := .cells (PT.ofList .leaf 0 [U8 0, .nilFunc]) false) (C := memC C (d rW) g (W.set ba 0) (L ++ accV th ba 2 (th + 1) 0 false) (k + 1)) (S3.junk2 (Nat.le_refl _) (Nat.lt_succ_self _)) (by simp (disch := first | decide | assumption | omega) only [rM, rW, rL, upd_same, upd_tag, upd_num, memC_ne]) upd_same ?_ ?_ (by simp (disch := first | decide | assumption | omega) only [rM, rW, rL, upd_same, upd_tag, upd_num, memC_ne]) (by simp (disch := first | decide | assumption | omega) only [rM, rW, rL, upd_same, upd_tag, upd_num, memC_ne]) (fun s c => ?_)
 ·intro s c1 c2
  rw [upd_ne c2, memC_scr c1, upd_tag (by decide)]
 ·simp (disch := first | decide | assumption | omega) only [rM, rW, rL, upd_same, upd_tag, upd_num, memC_ne]; exact hsc
 ·by_cases c2 : s = rL
  ·subst c2; rw [upd_same, upd_same]
  ·rw [upd_ne c2, upd_ne c2, upd_ne c]
end Go.Proofs.YtbceiadaihphaaaGreat
