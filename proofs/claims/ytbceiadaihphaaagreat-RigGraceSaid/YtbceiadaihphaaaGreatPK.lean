/-
  A part of the proof: contracts of inner functions.
-/
import Derived.Test.YtbceiadaihphaaaGreatPJ
set_option linter.unusedVariables false
set_option linter.unusedSimpArgs false
namespace Go.Proofs.YtbceiadaihphaaaGreat
open Go.Am
theorem bit_in {w set : Int} (hw : 0 ≤ w ∧ w < 64) (hs : 0 ≤ set ∧ set < 18446744073709551616) : ((((BitVec.ofInt 64 ((BitVec.ofInt 64 0 ||| BitVec.ofInt 64 (IntKind.u64.wrap (1 * 2 ^ min w.toNat 64))).toNat : Int) &&& BitVec.ofInt 64 set).toNat : Nat) : Int) = 0) ↔ inSet w set = false := by
 obtain ⟨v, rfl⟩ : ∃ v : Nat, w = v := ⟨w.toNat, by omega⟩
 obtain ⟨s, rfl⟩ : ∃ s : Nat, set = s := ⟨set.toNat, by omega⟩
 have hv : v < 64 := by omega
 have hp : 2 ^ v < 2 ^ 64 := Nat.pow_lt_pow_right (by decide) hv
 have h64 : (2 : Nat) ^ 64 = 18446744073709551616 := by decide
 have hs64 : s < 2 ^ 64 := by omega
 have hp0 : 0 < 2 ^ v := Nat.two_pow_pos v
 have e0 : (1 : Int) * 2 ^ min (v : Int).toNat 64 = ((2 ^ v : Nat) : Int) := by
  rw [Int.toNat_natCast, Nat.min_eq_left (by omega)]; simp
 have e1 : IntKind.u64.wrap ((2 ^ v : Nat) : Int) = ((2 ^ v : Nat) : Int) := wrap_u64 (Int.natCast_nonneg _) (by rw [h64] at hp; exact Int.ofNat_lt.2 hp)
 rw [e0, e1]
 have e2 : ∀ x : Nat, BitVec.ofInt 64 (x : Int) = BitVec.ofNat 64 x := fun x => BitVec.ofInt_natCast 64 x
 have e3 : BitVec.ofInt 64 0 = 0#64 := by decide
 rw [e2, e3, BitVec.zero_or, e2, e2, BitVec.toNat_and, BitVec.toNat_ofNat, BitVec.toNat_ofNat, BitVec.toNat_ofNat, Nat.mod_eq_of_lt hp, Nat.mod_eq_of_lt hp, Nat.mod_eq_of_lt hs64]
 have hand : 2 ^ v &&& s = if s.testBit v = true then 2 ^ v else 0 := by
  apply Nat.eq_of_testBit_eq
  intro i
  rw [Nat.testBit_and, Nat.testBit_two_pow]
  by_cases c : v = i
  ·subst c; cases hb : s.testBit v <;> simp
  ·cases hb : s.testBit v <;> simp [c]
 rw [hand]
 have e4 : (decide (0 ≤ (v : Int) ∧ (v : Int) < 64)) = true := decide_eq_true ⟨by omega, by omega⟩
 unfold inSet
 rw [e4, Bool.true_and, Int.toNat_natCast, Int.toNat_natCast]
 cases s.testBit v with
 | true => simp only [if_true, decide_true, reduceCtorEq, iff_false]; omega
 | false => simp
theorem bit_raw {w set : Int} (hw : 0 ≤ w ∧ w < 64) (hs : 0 ≤ set ∧ set < 18446744073709551616) : (IntKind.u64.wrap ((BitVec.ofInt IntKind.u64.bits (IntKind.u64.wrap ((BitVec.ofInt IntKind.u64.bits 0 ||| BitVec.ofInt IntKind.u64.bits (IntKind.u64.wrap (1 * 2 ^ min w.toNat IntKind.u64.bits))).toNat : Int)) &&& BitVec.ofInt IntKind.u64.bits set).toNat : Int) = 0) ↔ inSet w set = false := by
 have q : ∀ x : BitVec 64, IntKind.u64.wrap (x.toNat : Int) = x.toNat := fun x => by
  have := x.isLt
  have h64 : (2 : Nat) ^ 64 = 18446744073709551616 := by decide
  rw [h64] at this
  exact wrap_u64 (Int.natCast_nonneg _) (Int.ofNat_lt.2 this)
 have r := bit_in hw hs
 show (IntKind.u64.wrap ((BitVec.ofInt 64 (IntKind.u64.wrap ((BitVec.ofInt 64 0 ||| BitVec.ofInt 64 (IntKind.u64.wrap (1 * 2 ^ min w.toNat 64))).toNat : Int)) &&& BitVec.ofInt 64 set).toNat : Int) = 0) ↔ _
 rw [q, q]
 exact r
end Go.Proofs.YtbceiadaihphaaaGreat
set_option linter.unusedVariables false
set_option linter.unusedSimpArgs false
namespace Go.Proofs.YtbceiadaihphaaaGreat
open Go.Am
set_option maxRecDepth 100000 in
set_option maxHeartbeats 8000000 in
theorem eAwaitB {h : PT ABlk} {n nn : Nat} {d : Rl → Nat} {C : Rl → Option ABlk} {base th set : Int} {P : List (Int × Bool)} {W : List Int} {L : List Value} {k t ba : Nat} {w : Int} {x : EW} (S : St h nn d C) (E : EngE d C base n P) (M : IsM d C W L k) (hk : k ≤ 100000) (ht : 0 ≤ th ∧ th < 64) (hn : n ≤ 64) (hs : x.slot < n) (hba : base + 2 * (x.slot : Int) = ba) (hb0 : 0 ≤ base) (hb : ba < W.length) (hw : W.length ≤ 100000) (hW : W[ba] = w) (hwr : 0 ≤ w ∧ w < 18446744073709551616) (hx : x.st = 2)
  (e10 : C (10, t) = row [.iface 282 (pt (d (11, t)))]) (e11 : C (11, t) = row (ewRow x (d (5, 0)) th set)) :
  EvB Tryz.prog OP 59 [pt (d (10, t))] h nn fun r h' n' => ∃ g, nn ≤ g ∧ g < n' ∧ r = tup [U8 17, .bool (decide ((x.step n set w).st = 3))] ∧ St h' n' (upd d rL g) (upd (memC C (d rW) g W (L ++ accV th ba 1 w w false) (k + 1)) (11, t) (row (ewRow (x.step n set w) (d (5, 0)) th set))) := by
 obtain ⟨sl, se, st⟩ := x
 simp only at hs hba hx
 subst hx
 obtain ⟨e1, e2, e3, e4, e5⟩ := E
 have g2 := S.at e2
 have g7 := S.at e4
 have g10 := S.at e10
 have g11 := S.at e11
 have n2 := S.lt e2
 have n7 := S.lt e4
 have n10 := S.lt e10
 have n11 := S.lt e11
 have d1 := S.df e2 e11 (by simp)
 obtain ⟨t1, t2⟩ := ht
 have s1 : (sl : Int) < n := by omega
 have eA : ∀ g, memC C (d rW) g W (L ++ accV th ba 1 w w false) (k + 1) (11, t) = C (11, t) := fun g => memC_ne (by decide)
 have eD : ∀ g, upd d rL g (11, t) = d (11, t) := fun g => upd_tag (by decide)
 clear e1
 simp only [ewRow] at g11
 refine EvB_run (N := 13) Tryz.func59 rfl rfl fun z hP hO hro hN hQ => ?_
 repeat' first | simp (maxSteps := 2000000) (disch := first | omega | assumption) only [go_sem, *, atQ] | (apply xs <;> intro _) <;> try omega | ((with_reducible refine isD 1 ?_); refine dw 40 1 w213_1 (by first | (simp only [go_sem, *]; done) | rfl) (by kernel_rfl) (by kernel_rfl) ?_) | refine fun (_ _ : List Nat) => ?_ | (first | refine inQ Tryz.func209 rfl ?_ ?_ ?_ ?_ | refine inQ Tryz.func213 rfl ?_ ?_ ?_ ?_ | fail) <;> intros
 refine cal (loadB OPm (S.junk2 (Nat.le_refl _) (Nat.lt_succ_self _)) M hk ⟨t1, t2⟩ hb) (by simp only [*]) (by simp only [*]) (by simp only [go_sem, *]) (by simp only [go_sem, *]) ?_
 rintro r h2 n2' ⟨g, hg1, hg2, rfl, S2⟩
 rw [hW] at S2 ⊢
 have f2 := S2.at2 (a := 5) (b := 0) (by decide) e2
 have f11 := S2.at2 (a := 11) (b := t) (by decide) e11
 simp only [ewRow] at f11
 clear g2 g7 g10 g11
 by_cases c1 : w = se
 ·subst c1
  have es : EW.step ⟨sl, w, 2⟩ n set w = ⟨sl, w, 2⟩ := by simp [EW.step]
  rw [es] at hQ
  repeat' first | simp (maxSteps := 2000000) (disch := first | omega | assumption) only [go_sem, *] | (apply xs <;> intro _) <;> try omega | ((with_reducible refine isD 5 ?_); refine dw 29 5 w209_5 (by first | (simp only [go_sem, *]; done) | rfl) (by kernel_rfl) (by kernel_rfl) ?_) | refine fun (_ _ : List Nat) => ?_
  exact ⟨g, by omega, hg2, S2.eq (upd_id ((eA g).trans e11)).symm rfl⟩
 ·by_cases c2 : (sl : Int) + 1 = n
  ·have es : EW.step ⟨sl, se, 2⟩ n set w = ⟨sl + 1, se, 3⟩ := by simp [EW.step, EW.next, c1, show sl + 1 = n by omega]
   have ec : ((sl + 1 : Nat) : Int) = n := by omega
   rw [es] at hQ
   simp only [ewRow, ec] at hQ
   repeat' first | simp (maxSteps := 2000000) (disch := first | omega | assumption) only [go_sem, *] | (apply xs <;> intro _) <;> try omega | ((with_reducible refine isD 5 ?_); refine dw 29 5 w209_5 (by first | (simp only [go_sem, *]; done) | rfl) (by kernel_rfl) (by kernel_rfl) ?_) | ((with_reducible refine isD 2 ?_); refine dw 28 2 w210_2 (by first | (simp only [go_sem, *]; done) | rfl) (by kernel_rfl) (by kernel_rfl) ?_) | refine fun (_ _ : List Nat) => ?_ | (first | refine inQ Tryz.func210 rfl ?_ ?_ ?_ ?_ | fail) <;> intros
   exact ⟨g, by omega, hg2, (((S2.set (11, t) _ ((eA g).trans e11) (eD g)).set (11, t) _ upd_same (eD g)).set (11, t) _ upd_same (eD g)).eq (by first | (rw [upd_upd, upd_upd]; done) | (rw [upd_upd, upd_upd]; rfl)) rfl⟩
  ·have es : EW.step ⟨sl, se, 2⟩ n set w = ⟨sl + 1, se, 0⟩ := by simp [EW.step, EW.next, c1, show ¬ sl + 1 = n by omega]
   have ec : ((sl + 1 : Nat) : Int) = (sl : Int) + 1 := by omega
   rw [es] at hQ
   simp only [ewRow, ec] at hQ
   repeat' first | simp (maxSteps := 2000000) (disch := first | omega | assumption) only [go_sem, *] | (apply xs <;> intro _) <;> try omega | ((with_reducible refine isD 5 ?_); refine dw 29 5 w209_5 (by first | (simp only [go_sem, *]; done) | rfl) (by kernel_rfl) (by kernel_rfl) ?_) | ((with_reducible refine isD 2 ?_); refine dw 28 2 w210_2 (by first | (simp only [go_sem, *]; done) | rfl) (by kernel_rfl) (by kernel_rfl) ?_) | refine fun (_ _ : List Nat) => ?_ | (first | refine inQ Tryz.func210 rfl ?_ ?_ ?_ ?_ | fail) <;> intros
   exact ⟨g, by omega, hg2, ((S2.set (11, t) _ ((eA g).trans e11) (eD g)).set (11, t) _ upd_same (eD g)).eq (by first | (rw [upd_upd]; done) | (rw [upd_upd]; rfl)) rfl⟩
set_option maxRecDepth 100000 in
set_option maxHeartbeats 8000000 in
theorem eMarkLB {h : PT ABlk} {n nn : Nat} {d : Rl → Nat} {C : Rl → Option ABlk} {base th set : Int} {P : List (Int × Bool)} {W : List Int} {L : List Value} {k t ba : Nat} {w : Int} {x : EW} (S : St h nn d C) (E : EngE d C base n P) (M : IsM d C W L k) (hk : k ≤ 100000) (ht : 0 ≤ th ∧ th < 64) (hn : n ≤ 64) (hs : x.slot < n) (hba : base + 2 * (x.slot : Int) + 1 = ba) (hb0 : 0 ≤ base) (hb : ba < W.length) (hw : W.length ≤ 100000) (hW : W[ba] = w) (hwr : 0 ≤ w ∧ w < 64) (hset : 0 ≤ set ∧ set < 18446744073709551616) (hx : x.st = 1)
  (e10 : C (10, t) = row [.iface 282 (pt (d (11, t)))]) (e11 : C (11, t) = row (ewRow x (d (5, 0)) th set)) :
  EvB Tryz.prog OP 59 [pt (d (10, t))] h nn fun r h' n' => ∃ g, nn ≤ g ∧ g < n' ∧ r = tup [U8 18, .bool (decide ((x.step n set w).st = 3))] ∧ St h' n' (upd d rL g) (upd (memC C (d rW) g W (L ++ accV th ba 1 w w false) (k + 1)) (11, t) (row (ewRow (x.step n set w) (d (5, 0)) th set))) := by
 obtain ⟨sl, se, st⟩ := x
 simp only at hs hba hx
 subst hx
 obtain ⟨e1, e2, e3, e4, e5⟩ := E
 have g2 := S.at e2
 have g7 := S.at e4
 have g10 := S.at e10
 have g11 := S.at e11
 have n2 := S.lt e2
 have n7 := S.lt e4
 have n10 := S.lt e10
 have n11 := S.lt e11
 have d1 := S.df e2 e11 (by simp)
 obtain ⟨t1, t2⟩ := ht
 have s1 : (sl : Int) < n := by omega
 have eA : ∀ g, memC C (d rW) g W (L ++ accV th ba 1 w w false) (k + 1) (11, t) = C (11, t) := fun g => memC_ne (by decide)
 have eD : ∀ g, upd d rL g (11, t) = d (11, t) := fun g => upd_tag (by decide)
 clear e1
 simp only [ewRow] at g11
 refine EvB_run (N := 13) Tryz.func59 rfl rfl fun z hP hO hro hN hQ => ?_
 repeat' first | simp (maxSteps := 2000000) (disch := first | omega | assumption) only [go_sem, *, atQ] | (apply xs <;> intro _) <;> try omega | ((with_reducible refine isD 1 ?_); refine dw 58 1 w212_1 (by first | (simp only [go_sem, *]; done) | rfl) (by kernel_rfl) (by kernel_rfl) ?_) | refine fun (_ _ : List Nat) => ?_ | (first | refine inQ Tryz.func209 rfl ?_ ?_ ?_ ?_ | refine inQ Tryz.func212 rfl ?_ ?_ ?_ ?_ | fail) <;> intros
 refine cal (loadB OPm (S.junk2 (Nat.le_refl _) (Nat.lt_succ_self _)) M hk ⟨t1, t2⟩ hb) (by simp only [*]) (by simp only [*]) (by simp only [go_sem, *]) (by simp only [go_sem, *]) ?_
 rintro r h2 n2' ⟨g, hg1, hg2, rfl, S2⟩
 rw [hW] at S2 ⊢
 have f2 := S2.at2 (a := 5) (b := 0) (by decide) e2
 have f11 := S2.at2 (a := 11) (b := t) (by decide) e11
 simp only [ewRow] at f11
 clear g2 g7 g10 g11
 have hbi := @bit_raw w set hwr hset
 obtain ⟨w1, w2⟩ := hwr
 by_cases c1 : inSet w set = true
 ·have es : EW.step ⟨sl, se, 1⟩ n set w = ⟨sl, se, 2⟩ := by simp [EW.step, c1]
  have hbi2 := mt hbi.1 (by rw [c1]; simp)
  simp (disch := omega) only [go_sem] at hbi2
  rw [es] at hQ
  simp only [ewRow] at hQ
  clear hbi
  repeat' first | simp (maxSteps := 2000000) (disch := first | omega | assumption) only [go_sem, *] | (apply xs <;> intro _) <;> try omega | refine fun (_ _ : List Nat) => ?_ | (first | refine inQ Tryz.func214 rfl ?_ ?_ ?_ ?_ | fail) <;> intros
  rw [EvK_loop]
  repeat' first | simp (maxSteps := 2000000) (disch := first | omega | assumption) only [go_sem, *] | (apply xs <;> intro _) <;> try omega | refine fun (_ _ : List Nat) => ?_
  rw [EvK_loop]
  repeat' first | simp (maxSteps := 2000000) (disch := first | omega | assumption) only [go_sem, *] | (apply xs <;> intro _) <;> try omega | ((with_reducible refine isD 5 ?_); refine dw 29 5 w209_5 (by first | (simp only [go_sem, *]; done) | rfl) (by kernel_rfl) (by kernel_rfl) ?_) | refine fun (_ _ : List Nat) => ?_
  exact ⟨g, by omega, by omega, ((S2.set (11, t) _ ((eA g).trans e11) (eD g)).junk (i := n2') (m := n2' + 1) (Nat.le_refl _) (Nat.lt_succ_self _))⟩
 ·have hbi2 := hbi.2 (by simpa using c1)
  simp (disch := omega) only [go_sem] at hbi2
  by_cases c2 : (sl : Int) + 1 = n
  ·have es : EW.step ⟨sl, se, 1⟩ n set w = ⟨sl + 1, se, 3⟩ := by simp [EW.step, EW.next, c1, show sl + 1 = n by omega]
   have ec : ((sl + 1 : Nat) : Int) = n := by omega
   rw [es] at hQ
   simp only [ewRow, ec] at hQ
   clear hbi
   repeat' first | simp (maxSteps := 2000000) (disch := first | omega | assumption) only [go_sem, *] | (apply xs <;> intro _) <;> try omega | refine fun (_ _ : List Nat) => ?_ | (first | refine inQ Tryz.func214 rfl ?_ ?_ ?_ ?_ | fail) <;> intros
   rw [EvK_loop]
   repeat' first | simp (maxSteps := 2000000) (disch := first | omega | assumption) only [go_sem, *] | (apply xs <;> intro _) <;> try omega | refine fun (_ _ : List Nat) => ?_
   rw [EvK_loop]
   repeat' first | simp (maxSteps := 2000000) (disch := first | omega | assumption) only [go_sem, *] | (apply xs <;> intro _) <;> try omega | ((with_reducible refine isD 5 ?_); refine dw 29 5 w209_5 (by first | (simp only [go_sem, *]; done) | rfl) (by kernel_rfl) (by kernel_rfl) ?_) | ((with_reducible refine isD 2 ?_); refine dw 28 2 w210_2 (by first | (simp only [go_sem, *]; done) | rfl) (by kernel_rfl) (by kernel_rfl) ?_) | refine fun (_ _ : List Nat) => ?_ | (first | refine inQ Tryz.func210 rfl ?_ ?_ ?_ ?_ | fail) <;> intros
   exact ⟨g, by omega, by omega, ((((((S2.set (11, t) _ ((eA g).trans e11) (eD g)).junk (i := n2') (m := n2' + 1) (Nat.le_refl _) (Nat.lt_succ_self _))).set (11, t) _ upd_same (eD g)).set (11, t) _ upd_same (eD g)).set (11, t) _ upd_same (eD g)).eq (by first | (rw [upd_upd, upd_upd, upd_upd]; done) | (rw [upd_upd, upd_upd, upd_upd]; rfl)) rfl⟩
  ·have es : EW.step ⟨sl, se, 1⟩ n set w = ⟨sl + 1, se, 0⟩ := by simp [EW.step, EW.next, c1, show ¬ sl + 1 = n by omega]
   have ec : ((sl + 1 : Nat) : Int) = (sl : Int) + 1 := by omega
   rw [es] at hQ
   simp only [ewRow, ec] at hQ
   clear hbi
   repeat' first | simp (maxSteps := 2000000) (disch := first | omega | assumption) only [go_sem, *] | (apply xs <;> intro _) <;> try omega | refine fun (_ _ : List Nat) => ?_ | (first | refine inQ Tryz.func214 rfl ?_ ?_ ?_ ?_ | fail) <;> intros
   rw [EvK_loop]
   repeat' first | simp (maxSteps := 2000000) (disch := first | omega | assumption) only [go_sem, *] | (apply xs <;> intro _) <;> try omega | refine fun (_ _ : List Nat) => ?_
   rw [EvK_loop]
   repeat' first | simp (maxSteps := 2000000) (disch := first | omega | assumption) only [go_sem, *] | (apply xs <;> intro _) <;> try omega | ((with_reducible refine isD 5 ?_); refine dw 29 5 w209_5 (by first | (simp only [go_sem, *]; done) | rfl) (by kernel_rfl) (by kernel_rfl) ?_) | ((with_reducible refine isD 2 ?_); refine dw 28 2 w210_2 (by first | (simp only [go_sem, *]; done) | rfl) (by kernel_rfl) (by kernel_rfl) ?_) | refine fun (_ _ : List Nat) => ?_ | (first | refine inQ Tryz.func210 rfl ?_ ?_ ?_ ?_ | fail) <;> intros
   exact ⟨g, by omega, by omega, (((((S2.set (11, t) _ ((eA g).trans e11) (eD g)).junk (i := n2') (m := n2' + 1) (Nat.le_refl _) (Nat.lt_succ_self _))).set (11, t) _ upd_same (eD g)).set (11, t) _ upd_same (eD g)).eq (by first | (rw [upd_upd, upd_upd]; done) | (rw [upd_upd, upd_upd]; rfl)) rfl⟩
end Go.Proofs.YtbceiadaihphaaaGreat
