/-
  A part of the proof: contracts of inner functions.
-/
import Derived.Test.YtbceiadaihphaaaGreatPS
set_option linter.unusedVariables false
set_option linter.unusedSimpArgs false
namespace Go.Proofs.YtbceiadaihphaaaGreat
open Go.Am
set_option maxRecDepth 100000 in
set_option maxHeartbeats 8000000 in
theorem gWaitB {h : PT ABlk} {n nb nn s : Nat} {d : Rl → Nat} {C : Rl → Option ABlk} {base th : Int} {X : List IEnt} {ck t k ba b0 : Nat} {W : List Int} {L : List Value} (S : St h nn d C) (E : EngG d C base nb n X ck) (M : IsM d C W L k) (hb0 : 0 ≤ base ∧ base < 100000) (hbw : base + 4 * nb ≤ W.length) (hw : W.length ≤ 100000) (ht : 0 ≤ th ∧ th < 64) (hnb : 0 < nb ∧ nb ≤ 16) (hs : s < 2 ^ 64) (hs0 : s ≠ 0) (hbb : (lefts nb (mbs 64 0 s))[0]? = some b0) (hba : base + 4 * (b0 : Int) + 3 = ba) (hbn : b0 < nb) :
  EvB Tryz.prog OP 71 [pt (d (4, 0)), I6 th, U6 s] h nn fun r h' n' => ∃ w p q g, nn ≤ p ∧ p < q ∧ q < g ∧ g < w ∧ w < n' ∧ r = tup [pt w, I6 0] ∧ St h' n' (upd (upd (upd (upd d (11, t) p) (12, t) q) (13, t) g) (10, t) w) (upd (upd (upd (upd (upd C (11, t) (row (gw0 (d (5, 0)) th (.slice (some ⟨q, 0, none⟩) (lefts nb (mbs 64 0 s)).length (capInf + 1))))) (12, t) (row ((lefts nb (mbs 64 0 s)).map fun b : Nat => Value.int .i64 (b : Int)))) (13, t) (row [I6 0, I6 0, pt (d rM), I6 th, I6 ba, .func (.func 180) ⟨[pt g]⟩ ⟨[]⟩, I6 0])) (11, t) (row [pt (d (5, 0)), I6 th, .slice (some ⟨q, 0, none⟩) (lefts nb (mbs 64 0 s)).length (capInf + 1), pt g, U6 0, U8 2, .func (.func 177) ⟨[]⟩ ⟨[]⟩])) (10, t) (row [.iface 302 (pt p)])) := by
 obtain ⟨e1, e2, e3⟩ := E
 have g1 := S.at e1
 have n1 := S.lt e1
 have wb := gEWaitB (t := t) (S.junk (i := nn) (m := nn + 1) (B := row [.iface 154 (pt (d (5, 0)))]) (Nat.le_refl _) (Nat.lt_succ_self _)) M hb0 hbw hw e2 ht hnb hs hs0 hbb hba hbn
 obtain ⟨t1, t2⟩ := ht
 clear e1 e2 e3
 refine EvB_run (N := 28) Tryz.func71 rfl rfl fun z hP hO hro hN hQ => ?_
 repeat' first | simp (maxSteps := 2000000) (disch := first | omega | assumption) only [go_sem, *] | (apply xs <;> intro _) <;> try omega | refine fun (_ _ : List Nat) => ?_ | (first | refine inQ Tryz.func195 rfl ?_ ?_ ?_ ?_ | fail) <;> intros
 refine cal (wb) (by simp only [*]) (by simp only [*]) (by simp only [go_sem, *]) (by simp only [go_sem, *]) ?_
 rintro r h2 n2 ⟨p, q, g, p1, p2, p3, p4, rfl, S3⟩
 clear g1 wb hbb hba
 repeat' first | simp (maxSteps := 2000000) (disch := first | omega | assumption) only [go_sem, *] | (apply xs <;> intro _) <;> try omega | refine fun (_ _ : List Nat) => ?_ | (first | refine inQ Tryz.func197 rfl ?_ ?_ ?_ ?_ | fail) <;> intros
 exact ⟨n2, p, q, g, by omega, p2, p3, p4, by omega, rfl, S3.new (10, t) _ (Nat.le_refl _) (Nat.lt_succ_self _)⟩
end Go.Proofs.YtbceiadaihphaaaGreat
set_option linter.unusedVariables false
set_option linter.unusedSimpArgs false
namespace Go.Proofs.YtbceiadaihphaaaGreat
open Go.Am
def gwRow (de : Nat) (th : Int) (lf : Nat) (off len cap : Nat) (lk : Nat) (side : Int) (pc : Int) (f : Nat) : List Value := [pt de, I6 th, .slice (some ⟨lf, off, none⟩) len cap, pt lk, U6 side, U8 pc, .func (.func f) ⟨[]⟩ ⟨[]⟩]
theorem _root_.Go.Am.St.redir {h : PT ABlk} {n : Nat} {d : Rl → Nat} {C : Rl → Option ABlk} (S : St h n d C) (r : Rl) (hr : C r = none) {d' : Rl → Nat} (hd : ∀ s, s ≠ r → d' s = d s) : St h n d' C := by
 refine ⟨fun s B q => ?_, fun s t q1 q2 q => ?_, S.wf⟩
 ·rw [hd s (fun c => by rw [c, hr] at q; simp at q)]; exact S.get s B q
 ·rw [hd s (fun c => q1 (by rw [c, hr])), hd t (fun c => q2 (by rw [c, hr]))] at q
  exact S.inj s t q1 q2 q
theorem memC_scr {C : Rl → Option ABlk} {w g k : Nat} {W : List Int} {L : List Value} {B : Option ABlk} {s : Rl} (c : s ≠ (20, 0)) : memC (upd C (20, 0) B) w g W L k s = memC C w g W L k s := by
 unfold memC
 by_cases c1 : s = rM
 ·subst c1; rw [upd_same, upd_same]
 ·rw [upd_ne c1, upd_ne c1]
  by_cases c2 : s = rL
  ·subst c2; rw [upd_same, upd_same]
  ·rw [upd_ne c2, upd_ne c2]
   by_cases c3 : s = rW
   ·subst c3; rw [upd_same, upd_same]
   ·rw [upd_ne c3, upd_ne c3, upd_ne c]
theorem scr_eq {C : Rl → Option ABlk} {w g k t : Nat} {W : List Int} {L : List Value} {B X Y Z : Option ABlk} (hsc : C (20, 0) = none) : upd (upd (upd (upd (memC (upd C (20, 0) B) w g W L k) (11, t) X) (20, 0) Y) (11, t) Z) (20, 0) none = upd (memC C w g W L k) (11, t) Z := by
 funext s
 by_cases c1 : s = (20, 0)
 ·subst c1; rw [upd_same, upd_tag (by decide), memC_ne (by decide), hsc]
 ·rw [upd_ne c1]
  by_cases c2 : s = (11, t)
  ·subst c2; rw [upd_same, upd_same]
  ·rw [upd_ne c2, upd_ne c1, upd_ne c2, upd_ne c2, memC_scr c1]
set_option maxRecDepth 100000 in
set_option maxHeartbeats 8000000 in
theorem gLooksB {h : PT ABlk} {nb nn off len cap ba t k : Nat} {d : Rl → Nat} {C : Rl → Option ABlk} {base th b side : Int} {v1 : Value} {W : List Int} {L : List Value} {Lf : List Int} (S : St h nn d C) (M : IsM d C W L k) (hk : k ≤ 100000) (e5 : C (5, 0) = row [pt (d rM), I6 base, I6 nb, v1]) (e10 : C (10, t) = row [.iface 302 (pt (d (11, t)))]) (e11 : C (11, t) = row (gwRow (d (5, 0)) th (d (12, t)) off len cap (d (13, t)) side 15 182)) (e12 : C (12, t) = row (Lf.map (.int .i64))) (hl : 0 < len) (hL : Lf[off]? = some b) (hb : 0 ≤ b ∧ b < 16) (hb0 : 0 ≤ base ∧ base < 100000) (ht : 0 ≤ th ∧ th < 64) (hba : base + 4 * b + 0 = ba) (hbw : ba < W.length) (hw : W.length ≤ 100000) (hsc : C (20, 0) = none) :
  EvB Tryz.prog OP 59 [pt (d (10, t))] h nn fun r h' n' => ∃ g, nn ≤ g ∧ g < n' ∧ r = tup [U8 15, .bool false] ∧ St h' n' (upd d rL g) (upd (memC C (d rW) g W (L ++ accV th ba 1 W[ba] W[ba] false) (k + 1)) (11, t) (row (gwRow (d (5, 0)) th (d (12, t)) off len cap (d (13, t)) W[ba] 19 186))) := by
 have g5 := S.at e5
 have g10 := S.at e10
 have g11 := S.at e11
 have g12 := S.at e12
 have n5 := S.lt e5
 have n10 := S.lt e10
 have n11 := S.lt e11
 have n12 := S.lt e12
 have hLv : (Lf.map (Value.int .i64))[off]? = some (.int .i64 b) := by rw [List.getElem?_map, hL]; rfl
 have hbl : Nat.blt 0 len = true := Nat.ble_eq_true_of_le hl
 obtain ⟨t1, t2⟩ := ht
 obtain ⟨b1, b2⟩ := hb
 obtain ⟨b3, b4⟩ := hb0
 have b5 : b < 100 := by omega
 simp only [gwRow] at g11
 have Ms := M.upd (a := 20) (b := 0) (i := nn) (B := row [U8 0, .nilFunc]) (by omega)
 clear e5 e10 e12
 refine EvB_run (N := 13) Tryz.func59 rfl rfl fun z hP hO hro hN hQ => ?_
 repeat' first | simp (maxSteps := 2000000) (disch := first | omega | assumption) only [go_sem, *, wordsQ, bkL] | (apply xs <;> intro _) <;> try omega | ((with_reducible refine isD 1 ?_); refine dw 25 1 w182_1 (by first | (simp only [go_sem, *]; done) | rfl) (by kernel_rfl) (by kernel_rfl) ?_) | refine fun (_ _ : List Nat) => ?_ | (first | refine inQ Tryz.func218 rfl ?_ ?_ ?_ ?_ | refine inQ Tryz.func182 rfl ?_ ?_ ?_ ?_ | fail) <;> intros
 refine cal (loadB OPm (S.new (20, 0) _ (Nat.le_refl _) (Nat.lt_succ_self _)) Ms hk ⟨t1, t2⟩ hbw) (by simp only [*]) (by simp only [*]) (by simp only [go_sem, *]) (by simp only [go_sem, *]) ?_
 rintro r h2 n2' ⟨g, hg1, hg2, rfl, S2⟩
 have f11 := S2.at2 (a := 11) (b := t) (by decide) ((upd_tag (by decide)).trans e11)
 rw [upd_tag (by decide)] at f11
 have f20 := S2.at2 (a := 20) (b := 0) (by decide) upd_same
 rw [upd_same] at f20
 simp only [gwRow] at f11
 clear g5 g10 g11 g12
 repeat' first | simp (maxSteps := 2000000) (disch := first | omega | assumption) only [go_sem, *] | (apply xs <;> intro _) <;> try omega | ((with_reducible refine isD 5 ?_); refine dw 36 5 w218_5 (by first | (simp only [go_sem, *]; done) | rfl) (by kernel_rfl) (by kernel_rfl) ?_) | refine fun (_ _ : List Nat) => ?_
 simp only [gwRow]
 have dA : Go.Am.upd (Go.Am.upd d (20, 0) nn) rL g (11, t) = d (11, t) := by rw [upd_tag (by decide), upd_tag (by decide)]
 have dB : Go.Am.upd (Go.Am.upd d (20, 0) nn) rL g (20, 0) = nn := by rw [upd_tag (by decide), upd_same]
 have S3 := S2.set (11, t) (.cells (PT.ofList .leaf 0 (gwRow (d (5, 0)) th (d (12, t)) off len cap (d (13, t)) W[ba] 15 182)) false) ((memC_ne (by decide)).trans ((upd_tag (by decide)).trans e11)) dA
 have S4 := S3.set (20, 0) (.cells (PT.ofList .leaf 0 [U8 19, .func (.func 186) ⟨[]⟩ ⟨[]⟩]) false) ((upd_tag (by decide)).trans ((memC_ne (by decide)).trans upd_same)) dB
 have S5 := ((S4.set (11, t) (.cells (PT.ofList .leaf 0 (gwRow (d (5, 0)) th (d (12, t)) off len cap (d (13, t)) W[ba] 19 186)) false) ((upd_tag (by decide)).trans upd_same) dA).drop (20, 0)).redir (d' := Go.Am.upd d rL g) (20, 0) upd_same fun s c => by
  by_cases c2 : s = rL
  ·subst c2; rw [upd_same, upd_same]
  ·rw [upd_ne c2, upd_ne c2, upd_ne c]
 exact ⟨g, by omega, hg2, S5.eq (by rw [scr_eq hsc, upd_tag (by decide)]; rfl) rfl⟩
end Go.Proofs.YtbceiadaihphaaaGreat
set_option linter.unusedVariables false
set_option linter.unusedSimpArgs false
namespace Go.Proofs.YtbceiadaihphaaaGreat
open Go.Am
theorem scr_eq2 {C : Rl → Option ABlk} {w g k t : Nat} {W : List Int} {L : List Value} {B Y Z : Option ABlk} (hsc : C (20, 0) = none) : upd (upd (upd (memC (upd C (20, 0) B) w g W L k) (20, 0) Y) (11, t) Z) (20, 0) none = upd (memC C w g W L k) (11, t) Z := by
 funext s
 by_cases c1 : s = (20, 0)
 ·subst c1; rw [upd_same, upd_tag (by decide), memC_ne (by decide), hsc]
 ·rw [upd_ne c1]
  by_cases c2 : s = (11, t)
  ·subst c2; rw [upd_same, upd_same]
  ·rw [upd_ne c2, upd_ne c1, upd_ne c2, memC_scr c1]
theorem St.scr2 {h : PT ABlk} {n nn g k t : Nat} {d : Rl → Nat} {C : Rl → Option ABlk} {W : List Int} {L : List Value} {B Y Z A : ABlk} (S : St h n (upd (upd d (20, 0) nn) rL g) (memC (upd C (20, 0) (some B)) (upd d (20, 0) nn rW) g W L k)) (hsc : C (20, 0) = none) (e11 : C (11, t) = some A) : St ((h.set nn (some Y)).set (d (11, t)) (some Z)) n (upd d rL g) (upd (memC C (d rW) g W L k) (11, t) (some Z)) := by
 have dA : Go.Am.upd (Go.Am.upd d (20, 0) nn) rL g (11, t) = d (11, t) := by rw [upd_tag (by decide), upd_tag (by decide)]
 have dB : Go.Am.upd (Go.Am.upd d (20, 0) nn) rL g (20, 0) = nn := by rw [upd_tag (by decide), upd_same]
 have S4 := S.set (20, 0) Y ((memC_ne (by decide)).trans upd_same) dB
 have S5 := ((S4.set (11, t) Z ((upd_tag (by decide)).trans ((memC_ne (by decide)).trans ((upd_tag (by decide)).trans e11))) dA).drop (20, 0)).redir (d' := Go.Am.upd d rL g) (20, 0) upd_same fun s c => by
  by_cases c2 : s = rL
  ·subst c2; rw [upd_same, upd_same]
  ·rw [upd_ne c2, upd_ne c2, upd_ne c]
 exact S5.eq (by rw [scr_eq2 hsc, upd_tag (by decide)]) rfl
set_option maxRecDepth 100000 in
set_option maxHeartbeats 8000000 in
theorem gOtherB {h : PT ABlk} {nb nn off len cap ba t k : Nat} {d : Rl → Nat} {C : Rl → Option ABlk} {base th b side : Int} {v1 : Value} {W : List Int} {L : List Value} {Lf : List Int} (S : St h nn d C) (M : IsM d C W L k) (hk : k ≤ 100000) (e5 : C (5, 0) = row [pt (d rM), I6 base, I6 nb, v1]) (e10 : C (10, t) = row [.iface 302 (pt (d (11, t)))]) (e11 : C (11, t) = row (gwRow (d (5, 0)) th (d (12, t)) off len cap (d (13, t)) side 19 186)) (e12 : C (12, t) = row (Lf.map (.int .i64))) (hl : 0 < len) (hL : Lf[off]? = some b) (hb : 0 ≤ b ∧ b < 16) (hb0 : 0 ≤ base ∧ base < 100000) (ht : 0 ≤ th ∧ th < 64) (hsd : 0 ≤ side ∧ side < 2) (hba : base + 4 * b + 1 + (1 - side) = ba) (hbw : ba < W.length) (hw : W.length ≤ 100000) (hsc : C (20, 0) = none) :
  EvB Tryz.prog OP 59 [pt (d (10, t))] h nn fun r h' n' => ∃ g, nn ≤ g ∧ g < n' ∧ r = tup [U8 19, .bool false] ∧ St h' n' (upd d rL g) (upd (memC C (d rW) g W (L ++ accV th ba 1 W[ba] W[ba] false) (k + 1)) (11, t) (row (gwRow (d (5, 0)) th (d (12, t)) off len cap (d (13, t)) side (if W[ba] = 0 then 20 else 19) (if W[ba] = 0 then 189 else 186)))) := by
 have g5 := S.at e5
 have g10 := S.at e10
 have g11 := S.at e11
 have g12 := S.at e12
 have n5 := S.lt e5
 have n10 := S.lt e10
 have n11 := S.lt e11
 have n12 := S.lt e12
 have hLv : (Lf.map (Value.int .i64))[off]? = some (.int .i64 b) := by rw [List.getElem?_map, hL]; rfl
 have hbl : Nat.blt 0 len = true := Nat.ble_eq_true_of_le hl
 obtain ⟨t1, t2⟩ := ht
 obtain ⟨b1, b2⟩ := hb
 obtain ⟨b3, b4⟩ := hb0
 have b5 : b < 100 := by omega
 simp only [gwRow] at g11
 have Ms := M.upd (a := 20) (b := 0) (i := nn) (B := row [U8 0, .nilFunc]) (by omega)
 clear e5 e10 e12
 refine EvB_run (N := 13) Tryz.func59 rfl rfl fun z hP hO hro hN hQ => ?_
 obtain ⟨sd1, sd2⟩ := hsd
 by_cases cs : side = 0
 ·subst cs
  have c3 : (1 : Int).tmod 2 = 1 := rfl
  have hba1 : base + 4 * b + 2 = ba := by omega
  repeat' first | simp (maxSteps := 2000000) (disch := first | omega | assumption) only [go_sem, *, wordsQ, bkL] | (apply xs <;> intro _) <;> try omega | ((with_reducible refine isD 1 ?_); refine dw 30 1 w188_1 (by first | (simp only [go_sem, *]; done) | rfl) (by kernel_rfl) (by kernel_rfl) ?_) | refine fun (_ _ : List Nat) => ?_ | (first | refine inQ Tryz.func218 rfl ?_ ?_ ?_ ?_ | refine inQ Tryz.func188 rfl ?_ ?_ ?_ ?_ | refine inQ Tryz.func186 rfl ?_ ?_ ?_ ?_ | fail) <;> intros
  refine cal (loadB OPm (S.new (20, 0) _ (Nat.le_refl _) (Nat.lt_succ_self _)) Ms hk ⟨t1, t2⟩ hbw) (by simp only [*]) (by simp only [*]) (by simp only [go_sem, *]) (by simp only [go_sem, *]) ?_
  rintro r h2 n2' ⟨g, hg1, hg2, rfl, S2⟩
  have f11 := S2.at2 (a := 11) (b := t) (by decide) ((upd_tag (by decide)).trans e11)
  rw [upd_tag (by decide)] at f11
  have f20 := S2.at2 (a := 20) (b := 0) (by decide) upd_same
  rw [upd_same] at f20
  simp only [gwRow] at f11
  clear g5 g10 g11 g12
  by_cases cw : W[ba] = 0
  ·rw [if_pos cw, if_pos cw] at hQ
   simp only [cw] at S2
   repeat' first | simp (maxSteps := 2000000) (disch := first | omega | assumption) only [go_sem, *] | (apply xs <;> intro _) <;> try omega | ((with_reducible refine isD 5 ?_); refine dw 36 5 w218_5 (by first | (simp only [go_sem, *]; done) | rfl) (by kernel_rfl) (by kernel_rfl) ?_) | refine fun (_ _ : List Nat) => ?_
   exact ⟨g, by omega, hg2, St.scr2 S2 hsc e11⟩
  ·rw [if_neg cw, if_neg cw] at hQ
   repeat' first | simp (maxSteps := 2000000) (disch := first | omega | assumption) only [go_sem, *] | (apply xs <;> intro _) <;> try omega | ((with_reducible refine isD 5 ?_); refine dw 36 5 w218_5 (by first | (simp only [go_sem, *]; done) | rfl) (by kernel_rfl) (by kernel_rfl) ?_) | refine fun (_ _ : List Nat) => ?_
   exact ⟨g, by omega, hg2, St.scr2 S2 hsc e11⟩
 ·have cs1 : side = 1 := by omega
  subst cs1
  have c3 : (2 : Int).tmod 2 = 0 := rfl
  have hba1 : base + 4 * b + 1 = ba := by omega
  repeat' first | simp (maxSteps := 2000000) (disch := first | omega | assumption) only [go_sem, *, wordsQ, bkL] | (apply xs <;> intro _) <;> try omega | ((with_reducible refine isD 1 ?_); refine dw 30 1 w188_1 (by first | (simp only [go_sem, *]; done) | rfl) (by kernel_rfl) (by kernel_rfl) ?_) | refine fun (_ _ : List Nat) => ?_ | (first | refine inQ Tryz.func218 rfl ?_ ?_ ?_ ?_ | refine inQ Tryz.func188 rfl ?_ ?_ ?_ ?_ | refine inQ Tryz.func186 rfl ?_ ?_ ?_ ?_ | fail) <;> intros
  refine cal (loadB OPm (S.new (20, 0) _ (Nat.le_refl _) (Nat.lt_succ_self _)) Ms hk ⟨t1, t2⟩ hbw) (by simp only [*]) (by simp only [*]) (by simp only [go_sem, *]) (by simp only [go_sem, *]) ?_
  rintro r h2 n2' ⟨g, hg1, hg2, rfl, S2⟩
  have f11 := S2.at2 (a := 11) (b := t) (by decide) ((upd_tag (by decide)).trans e11)
  rw [upd_tag (by decide)] at f11
  have f20 := S2.at2 (a := 20) (b := 0) (by decide) upd_same
  rw [upd_same] at f20
  simp only [gwRow] at f11
  clear g5 g10 g11 g12
  by_cases cw : W[ba] = 0
  ·rw [if_pos cw, if_pos cw] at hQ
   simp only [cw] at S2
   repeat' first | simp (maxSteps := 2000000) (disch := first | omega | assumption) only [go_sem, *] | (apply xs <;> intro _) <;> try omega | ((with_reducible refine isD 5 ?_); refine dw 36 5 w218_5 (by first | (simp only [go_sem, *]; done) | rfl) (by kernel_rfl) (by kernel_rfl) ?_) | refine fun (_ _ : List Nat) => ?_
   exact ⟨g, by omega, hg2, St.scr2 S2 hsc e11⟩
  ·rw [if_neg cw, if_neg cw] at hQ
   repeat' first | simp (maxSteps := 2000000) (disch := first | omega | assumption) only [go_sem, *] | (apply xs <;> intro _) <;> try omega | ((with_reducible refine isD 5 ?_); refine dw 36 5 w218_5 (by first | (simp only [go_sem, *]; done) | rfl) (by kernel_rfl) (by kernel_rfl) ?_) | refine fun (_ _ : List Nat) => ?_
   exact ⟨g, by omega, hg2, St.scr2 S2 hsc e11⟩
end Go.Proofs.YtbceiadaihphaaaGreat
set_option linter.unusedVariables false
set_option linter.unusedSimpArgs false
namespace Go.Proofs.YtbceiadaihphaaaGreat
open Go.Am
set_option maxRecDepth 100000 in
set_option maxHeartbeats 8000000 in
theorem gDrainsB {h : PT ABlk} {nb nn off len cap ba t k : Nat} {d : Rl → Nat} {C : Rl → Option ABlk} {base th b side : Int} {v1 : Value} {W : List Int} {L : List Value} {Lf : List Int} (S : St h nn d C) (M : IsM d C W L k) (hk : k ≤ 100000) (e5 : C (5, 0) = row [pt (d rM), I6 base, I6 nb, v1]) (e10 : C (10, t) = row [.iface 302 (pt (d (11, t)))]) (e11 : C (11, t) = row (gwRow (d (5, 0)) th (d (12, t)) off len cap (d (13, t)) side 19 191)) (e12 : C (12, t) = row (Lf.map (.int .i64))) (hl : 0 < len) (hL : Lf[off]? = some b) (hb : 0 ≤ b ∧ b < 16) (hb0 : 0 ≤ base ∧ base < 100000) (ht : 0 ≤ th ∧ th < 64) (hsd : 0 ≤ side ∧ side < 2) (hba : base + 4 * b + 1 + side = ba) (hbw : ba < W.length) (hw : W.length ≤ 100000) (hsc : C (20, 0) = none) :
  EvB Tryz.prog OP 59 [pt (d (10, t))] h nn fun r h' n' => ∃ g, nn ≤ g ∧ g < n' ∧ r = tup [U8 19, .bool false] ∧ St h' n' (upd d rL g) (upd (memC C (d rW) g W (L ++ accV th ba 1 W[ba] W[ba] false) (k + 1)) (11, t) (row (gwRow (d (5, 0)) th (d (12, t)) off len cap (d (13, t)) side (if W[ba] = 0 then 3 else 19) (if W[ba] = 0 then 192 else 191)))) := by
 have g5 := S.at e5
 have g10 := S.at e10
 have g11 := S.at e11
 have g12 := S.at e12
 have n5 := S.lt e5
 have n10 := S.lt e10
 have n11 := S.lt e11
 have n12 := S.lt e12
 have hLv : (Lf.map (Value.int .i64))[off]? = some (.int .i64 b) := by rw [List.getElem?_map, hL]; rfl
 have hbl : Nat.blt 0 len = true := Nat.ble_eq_true_of_le hl
 obtain ⟨t1, t2⟩ := ht
 obtain ⟨b1, b2⟩ := hb
 obtain ⟨b3, b4⟩ := hb0
 have b5 : b < 100 := by omega
 simp only [gwRow] at g11
 have Ms := M.upd (a := 20) (b := 0) (i := nn) (B := row [U8 0, .nilFunc]) (by omega)
 clear e5 e10 e12
 refine EvB_run (N := 13) Tryz.func59 rfl rfl fun z hP hO hro hN hQ => ?_
 obtain ⟨sd1, sd2⟩ := hsd
 by_cases cs : side = 0
 ·subst cs
  have c3 : (0 : Int).tmod 2 = 0 := rfl
  have hba1 : base + 4 * b + 1 = ba := by omega
  repeat' first | simp (maxSteps := 2000000) (disch := first | omega | assumption) only [go_sem, *, wordsQ, bkL] | (apply xs <;> intro _) <;> try omega | ((with_reducible refine isD 1 ?_); refine dw 30 1 w188_1 (by first | (simp only [go_sem, *]; done) | rfl) (by kernel_rfl) (by kernel_rfl) ?_) | refine fun (_ _ : List Nat) => ?_ | (first | refine inQ Tryz.func218 rfl ?_ ?_ ?_ ?_ | refine inQ Tryz.func188 rfl ?_ ?_ ?_ ?_ | refine inQ Tryz.func191 rfl ?_ ?_ ?_ ?_ | fail) <;> intros
  refine cal (loadB OPm (S.new (20, 0) _ (Nat.le_refl _) (Nat.lt_succ_self _)) Ms hk ⟨t1, t2⟩ hbw) (by simp only [*]) (by simp only [*]) (by simp only [go_sem, *]) (by simp only [go_sem, *]) ?_
  rintro r h2 n2' ⟨g, hg1, hg2, rfl, S2⟩
  have f11 := S2.at2 (a := 11) (b := t) (by decide) ((upd_tag (by decide)).trans e11)
  rw [upd_tag (by decide)] at f11
  have f20 := S2.at2 (a := 20) (b := 0) (by decide) upd_same
  rw [upd_same] at f20
  simp only [gwRow] at f11
  clear g5 g10 g11 g12
  by_cases cw : W[ba] = 0
  ·rw [if_pos cw, if_pos cw] at hQ
   simp only [cw] at S2
   repeat' first | simp (maxSteps := 2000000) (disch := first | omega | assumption) only [go_sem, *] | (apply xs <;> intro _) <;> try omega | ((with_reducible refine isD 5 ?_); refine dw 36 5 w218_5 (by first | (simp only [go_sem, *]; done) | rfl) (by kernel_rfl) (by kernel_rfl) ?_) | refine fun (_ _ : List Nat) => ?_
   exact ⟨g, by omega, hg2, St.scr2 S2 hsc e11⟩
  ·rw [if_neg cw, if_neg cw] at hQ
   repeat' first | simp (maxSteps := 2000000) (disch := first | omega | assumption) only [go_sem, *] | (apply xs <;> intro _) <;> try omega | ((with_reducible refine isD 5 ?_); refine dw 36 5 w218_5 (by first | (simp only [go_sem, *]; done) | rfl) (by kernel_rfl) (by kernel_rfl) ?_) | refine fun (_ _ : List Nat) => ?_
   exact ⟨g, by omega, hg2, St.scr2 S2 hsc e11⟩
 ·have cs1 : side = 1 := by omega
  subst cs1
  have c3 : (1 : Int).tmod 2 = 1 := rfl
  have hba1 : base + 4 * b + 2 = ba := by omega
  repeat' first | simp (maxSteps := 2000000) (disch := first | omega | assumption) only [go_sem, *, wordsQ, bkL] | (apply xs <;> intro _) <;> try omega | ((with_reducible refine isD 1 ?_); refine dw 30 1 w188_1 (by first | (simp only [go_sem, *]; done) | rfl) (by kernel_rfl) (by kernel_rfl) ?_) | refine fun (_ _ : List Nat) => ?_ | (first | refine inQ Tryz.func218 rfl ?_ ?_ ?_ ?_ | refine inQ Tryz.func188 rfl ?_ ?_ ?_ ?_ | refine inQ Tryz.func191 rfl ?_ ?_ ?_ ?_ | fail) <;> intros
  refine cal (loadB OPm (S.new (20, 0) _ (Nat.le_refl _) (Nat.lt_succ_self _)) Ms hk ⟨t1, t2⟩ hbw) (by simp only [*]) (by simp only [*]) (by simp only [go_sem, *]) (by simp only [go_sem, *]) ?_
  rintro r h2 n2' ⟨g, hg1, hg2, rfl, S2⟩
  have f11 := S2.at2 (a := 11) (b := t) (by decide) ((upd_tag (by decide)).trans e11)
  rw [upd_tag (by decide)] at f11
  have f20 := S2.at2 (a := 20) (b := 0) (by decide) upd_same
  rw [upd_same] at f20
  simp only [gwRow] at f11
  clear g5 g10 g11 g12
  by_cases cw : W[ba] = 0
  ·rw [if_pos cw, if_pos cw] at hQ
   simp only [cw] at S2
   repeat' first | simp (maxSteps := 2000000) (disch := first | omega | assumption) only [go_sem, *] | (apply xs <;> intro _) <;> try omega | ((with_reducible refine isD 5 ?_); refine dw 36 5 w218_5 (by first | (simp only [go_sem, *]; done) | rfl) (by kernel_rfl) (by kernel_rfl) ?_) | refine fun (_ _ : List Nat) => ?_
   exact ⟨g, by omega, hg2, St.scr2 S2 hsc e11⟩
  ·rw [if_neg cw, if_neg cw] at hQ
   repeat' first | simp (maxSteps := 2000000) (disch := first | omega | assumption) only [go_sem, *] | (apply xs <;> intro _) <;> try omega | ((with_reducible refine isD 5 ?_); refine dw 36 5 w218_5 (by first | (simp only [go_sem, *]; done) | rfl) (by kernel_rfl) (by kernel_rfl) ?_) | refine fun (_ _ : List Nat) => ?_
   exact ⟨g, by omega, hg2, St.scr2 S2 hsc e11⟩
end Go.Proofs.YtbceiadaihphaaaGreat
