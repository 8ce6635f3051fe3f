/-
  A part of the proof: contracts of inner functions.
-/
import Derived.Test.YtlnglgpipkmiaaaGreatPY4
import Derived.Test.YtlnglgpipkmiaaaGreatPW7
set_option linter.unusedVariables false
set_option linter.unusedSimpArgs false
namespace Go.Proofs.YtlnglgpipkmiaaaGreat
open Go.Am
set_option maxRecDepth 100000 in
set_option maxHeartbeats 2000000 in
theorem conc1 {set nb v : Int} {h : PT ABlk} {n : Nat} :
    EvB Tryz.prog OP 10 [U8 1, U6 set, I6 nb, I6 v] h n fun r h' n' => ∃ r0 : Bool, r = .bool r0 ∧ (r0 = false → False) ∧ h' = h ∧ n' = n := by
  refine EvB_run (N := 40) Tryz.func10 rfl rfl fun z hP hO hro hN hQ => ?_
  repeat' first | simp (maxSteps := 2000000) (disch := first | omega | assumption) only [go_sem, *] | (apply xs <;> intro _) <;> try omega
  exact ⟨true, rfl, by simp⟩
set_option maxRecDepth 100000 in
set_option maxHeartbeats 2000000 in
theorem conc2 {set v : Nat} {nb : Int} {h : PT ABlk} {n : Nat} (hv : v < 64) :
    EvB Tryz.prog OP 10 [U8 2, U6 set, I6 nb, I6 v] h n fun r h' n' => ∃ r0 : Bool, r = .bool r0 ∧ (r0 = false → set.testBit v = false) ∧ h' = h ∧ n' = n := by
  have hn0 : ¬ (v : Int) < 0 := by omega
  have hfd : (set : Int).fdiv (2 ^ min v 64) = ((set / 2 ^ v : Nat) : Int) := by
    rw [Nat.min_eq_left (by omega), Int.fdiv_eq_ediv_of_nonneg _ (by exact Int.le_of_lt (Int.pow_pos (by decide)))]
    rw [show ((2 : Int) ^ v) = ((2 ^ v : Nat) : Int) by simp]
    exact (Int.natCast_ediv _ _).symm
  have hrm : ((set / 2 ^ v : Nat) : Int).tmod 2 = ((set / 2 ^ v % 2 : Nat) : Int) := rfl
  have hbt : set.testBit v = decide (set / 2 ^ v % 2 = 1) := Nat.testBit_eq_decide_div_mod_eq
  generalize set / 2 ^ v % 2 = X at *
  refine EvB_run (N := 40) Tryz.func10 rfl rfl fun z hP hO hro hN hQ => ?_
  repeat' first | simp (maxSteps := 2000000) (disch := first | omega | assumption) only [go_sem, *] | (apply xs <;> intro _) <;> try omega
  exact ⟨_, rfl, fun q => by simp at q ⊢; omega⟩
set_option maxRecDepth 100000 in
set_option maxHeartbeats 2000000 in
theorem conc3 {set v nb : Nat} {h : PT ABlk} {n : Nat} (hs : set < 2 ^ 64) (hv : v < 64) (hnb : 0 < nb ∧ nb ≤ 16) :
    EvB Tryz.prog OP 10 [U8 3, U6 set, I6 nb, I6 v] h n fun r h' n' => ∃ r0 : Bool, r = .bool r0 ∧ (r0 = false → v % nb ∉ lefts nb (mbs 64 0 set)) ∧ h' = h ∧ n' = n := by
  obtain ⟨hn0, hn1⟩ := hnb
  have hvm : (v : Int).tmod nb = ((v % nb : Nat) : Int) := rfl
  have nb0 : ¬ (nb : Int) = 0 := by omega
  have end0 : (∀ x, x < 64 → ¬ (set.testBit x = true ∧ x % nb = v % nb)) → v % nb ∉ lefts nb (mbs 64 0 set) := fun h hm => by
    unfold lefts at hm
    have := (List.mem_filter.1 hm).2
    simp only [wants, List.any_eq_true, decide_eq_true_eq] at this
    obtain ⟨x, x1, x2⟩ := this
    have xb := ((mem_mbs 64 0 set x hs).1 x1).2
    rw [Nat.sub_zero] at xb
    exact h x (mbs_lt hs x1) ⟨xb, x2⟩
  refine EvB_run (N := 40) Tryz.func10 rfl rfl fun z hP hO hro hN hQ => ?_
  repeat' first | simp (maxSteps := 2000000) (disch := first | omega | assumption) only [go_sem, *] | (apply xs <;> intro _) <;> try omega
  refine ind_loop (fun tt m h' n' => ∃ i : Nat, i + tt = 64 ∧ (∀ x, x < i → ¬ (set.testBit x = true ∧ x % nb = v % nb)) ∧ m.n = 40 ∧ m.dfs = [] ∧ m.get 1 = U6 set ∧ m.get 2 = I6 nb ∧ m.get 3 = I6 v ∧ m.get 9 = I6 i ∧ h' = h ∧ n' = n) 64 ?_ ?_
  · refine ⟨0, by omega, fun x hx => by omega, ?_⟩
    simp (maxSteps := 2000000) (disch := first | omega | assumption) only [go_sem, *]
  · rintro tt m h' n' ih ⟨i, hit, hno, m1, m2, m3, m4, m5, m6, rfl, rfl⟩
    by_cases hi : i = 64
    · subst hi
      have e0 := end0 hno
      clear ih hno end0
      repeat' first | simp (maxSteps := 2000000) (disch := first | omega | assumption) only [go_sem, *] | (apply xs <;> intro _) <;> try omega
      exact ⟨false, rfl, fun _ => trivial⟩
    · have hlt : (i : Int) < 64 := by omega
      have hb1 : ((i + 1 : Nat) : Int) = (i : Int) + 1 := by omega
      have hi0 : ¬ (i : Int) < 0 := by omega
      have him : (i : Int).tmod nb = ((i % nb : Nat) : Int) := rfl
      have hfd : (set : Int).fdiv (2 ^ min i 64) = ((set / 2 ^ i : Nat) : Int) := by
        rw [Nat.min_eq_left (by omega), Int.fdiv_eq_ediv_of_nonneg _ (by exact Int.le_of_lt (Int.pow_pos (by decide)))]
        rw [show ((2 : Int) ^ i) = ((2 ^ i : Nat) : Int) by simp]
        exact (Int.natCast_ediv _ _).symm
      have hrm : ((set / 2 ^ i : Nat) : Int).tmod 2 = ((set / 2 ^ i % 2 : Nat) : Int) := rfl
      have hbt : set.testBit i = decide (set / 2 ^ i % 2 = 1) := Nat.testBit_eq_decide_div_mod_eq
      clear end0
      have step : ¬ (set.testBit i = true ∧ i % nb = v % nb) → ∀ x, x < i + 1 → ¬ (set.testBit x = true ∧ x % nb = v % nb) := fun h x hx => by
        by_cases c : x = i
        · subst c; exact h
        · exact hno x (by omega)
      clear hno
      generalize set / 2 ^ i % 2 = X at *
      generalize hY : i % nb = Y at *
      generalize v % nb = Z at *
      by_cases cx : (X : Int) = 1
      · by_cases cy : (Y : Int) = (Z : Int)
        · clear step hY ih
          repeat' first | simp (maxSteps := 2000000) (disch := first | omega | assumption) only [go_sem, *] | (apply xs <;> intro _) <;> try omega | ((with_reducible refine isD 9 ?_); refine dw 40 9 w10_9 (by first | (simp only [go_sem, *]; done) | rfl) (by kernel_rfl) (by kernel_rfl) ?_)
          exact ⟨true, rfl, by simp⟩
        · have st := step (fun q => cy (by omega))
          clear step hY
          repeat' first | simp (maxSteps := 2000000) (disch := first | omega | assumption) only [go_sem, *] | (apply xs <;> intro _) <;> try omega | ((with_reducible refine isD 9 ?_); refine dw 40 9 w10_9 (by first | (simp only [go_sem, *]; done) | rfl) (by kernel_rfl) (by kernel_rfl) ?_)
          refine ih (64 - (i + 1)) _ _ _ (by omega) ⟨i + 1, by omega, st, ?_⟩
          rw [hb1]
          simp (maxSteps := 2000000) (disch := first | omega | assumption) only [go_sem, *]
      · have st := step (fun q => cx (by rw [hbt] at q; have := q.1; simp at this; omega))
        clear step hY
        repeat' first | simp (maxSteps := 2000000) (disch := first | omega | assumption) only [go_sem, *] | (apply xs <;> intro _) <;> try omega | ((with_reducible refine isD 9 ?_); refine dw 40 9 w10_9 (by first | (simp only [go_sem, *]; done) | rfl) (by kernel_rfl) (by kernel_rfl) ?_)
        refine ih (64 - (i + 1)) _ _ _ (by omega) ⟨i + 1, by omega, st, ?_⟩
        rw [hb1]
        simp (maxSteps := 2000000) (disch := first | omega | assumption) only [go_sem, *]
end Go.Proofs.YtlnglgpipkmiaaaGreat
set_option linter.unusedVariables false
set_option linter.unusedSimpArgs false
namespace Go.Proofs.YtlnglgpipkmiaaaGreat
open Go.Am
variable {e : Eng} {rep : e.σ → Nat → (Rl → Nat) → (Rl → Option ABlk) → Prop}
theorem act_busy {c : CS e} {t w v st : Nat} (hb : e.busy c.s t = true) (hw : ¬ w % 4 > 1) : (c.act t w v st).s = e.go c.s t := by
  unfold CS.act Eng.go
  cases he : e.ent c.s t with
  | true => rfl
  | false =>
    cases h2 : e.wt c.s t with
    | true => rfl
    | false =>
      cases hi : e.inn c.s t with
      | true => simp only [Bool.false_eq_true, if_false, if_true, if_neg hw]
      | false => unfold Eng.busy at hb; rw [he, h2, hi] at hb; simp at hb
theorem act_I {I : e.σ → Prop} {mt : e.σ → Nat → Nat} {Q : Nat → e.σ → Prop} (L : e.Live I mt Q) (Bg : e.Beg I) (fit : e.Fits) {c : CS e} {t w v st : Nat} (i : I c.s) (ht : t < 6) (h0 : st ≠ 0) (h1 : st < 2 ^ 64) : I (c.act t w v st).s := by
  cases hb : e.busy c.s t with
  | true =>
    by_cases hw : w % 4 > 1
    · unfold CS.act
      cases he : e.ent c.s t with
      | true =>
        have := L.inv c.s t i ht hb
        unfold Eng.go at this; rw [he, if_pos rfl] at this; exact this
      | false =>
        cases h2 : e.wt c.s t with
        | true =>
          have := L.inv c.s t i ht hb
          unfold Eng.go at this; rw [he, h2, if_neg (by simp), if_pos rfl] at this; exact this
        | false =>
          have hi : e.inn c.s t = true := by
            unfold Eng.busy at hb; rw [he, h2] at hb; simpa using hb
          rw [hi]
          simp only [Bool.false_eq_true, if_false, if_true, if_pos hw]
          exact i
    · rw [act_busy hb hw]; exact L.inv c.s t i ht hb
  | false =>
    have h3 : e.ent c.s t = false ∧ e.wt c.s t = false ∧ e.inn c.s t = false := by
      unfold Eng.busy at hb
      cases h1 : e.ent c.s t <;> cases h2 : e.wt c.s t <;> cases h3 : e.inn c.s t <;> simp_all
    obtain ⟨a1, a2, a3⟩ := h3
    unfold CS.act
    rw [a1, a2, a3]
    simp only [Bool.false_eq_true, if_false]
    split
    · have j := Bg.enter c.s t v i ht hb
      have he : e.ent (e.enter c.s t v) t = true := by rw [(fit.enter c.s t v a3).1, if_pos rfl]
      have := L.inv _ t j ht (by unfold Eng.busy; rw [he]; rfl)
      unfold Eng.go at this; rw [he, if_pos rfl] at this; exact this
    · have j := Bg.wait c.s t st i ht hb h0 h1
      have he : e.ent (e.wait c.s t st) t = false := by rw [(fit.wait c.s t st).1, a1]
      have hw : e.wt (e.wait c.s t st) t = true := by rw [(fit.wait c.s t st).2.2, if_pos rfl]
      have := L.inv _ t j ht (by unfold Eng.busy; rw [he, hw]; rfl)
      unfold Eng.go at this; rw [he, hw, if_neg (by simp), if_pos rfl] at this; exact this
theorem act_w5 {c : CS e} {v st : Nat} (he : e.ent c.s 5 = false) (hw : e.wt c.s 5 = true) : (c.act 5 2 v st).s = e.wstep c.s 5 := by
  unfold CS.act; rw [he, hw]; rfl
theorem act_b5 {c : CS e} {v st : Nat} (hb : e.busy c.s 5 = false) : (c.act 5 2 v st).s = e.wstep (e.wait c.s 5 st) 5 := by
  have h3 : e.ent c.s 5 = false ∧ e.wt c.s 5 = false ∧ e.inn c.s 5 = false := by
    unfold Eng.busy at hb
    cases h1 : e.ent c.s 5 <;> cases h2 : e.wt c.s 5 <;> cases h3 : e.inn c.s 5 <;> simp_all
  obtain ⟨a1, a2, a3⟩ := h3
  unfold CS.act; rw [a1, a2, a3]; rfl
theorem act_q {c : CS e} {u v st : Nat} (hw : e.wt c.s u = false) : (c.act u 0 v st).s = e.qact c.s u v := by
  unfold CS.act Eng.qact
  rw [hw]
  cases he : e.ent c.s u with
  | true => rfl
  | false => cases hi : e.inn c.s u <;> rfl
theorem one_wt {s : e.σ} (o : One e s) {t : Nat} (hw : e.wt s t = true) : e.ent s t = false := by
  cases he : e.ent s t with
  | false => rfl
  | true => rw [((o t).1 he).2] at hw; simp at hw
section
variable {d : Rl → Nat} {c : CS e} {t : Nat}
theorem fld0v : fld d c t 0 = if e.ent c.s t = true then pt (d (8, t)) else .pointer none := rfl
theorem fld1v : fld d c t 1 = if e.wt c.s t = true then pt (d (10, t)) else .pointer none := rfl
end
theorem nb3 {s : e.σ} {t : Nat} (hb : e.busy s t = false) : e.ent s t = false ∧ e.wt s t = false ∧ e.inn s t = false := by
  unfold Eng.busy at hb
  cases h1 : e.ent s t <;> cases h2 : e.wt s t <;> cases h3 : e.inn s t <;> simp_all
theorem qact_wt (fit : e.Fits) {s : e.σ} (o : One e s) {u v : Nat} (hw : e.wt s u = false) (w : Nat) : e.wt (e.qact s u v) w = e.wt s w := by
  unfold Eng.qact
  cases he : e.ent s u with
  | true => rw [if_pos rfl]; exact (fit.estep s u he ((o u).1 he).1).2.2 w
  | false =>
    rw [if_neg (by simp)]
    cases hi : e.inn s u with
    | true => rw [if_pos rfl]; exact (fit.exit s u hi).2.2 w
    | false =>
      rw [if_neg (by simp)]
      obtain ⟨f1, f2, f3⟩ := fit.enter s u v hi
      rw [(fit.estep (e.enter s u v) u (by rw [f1, if_pos rfl]) (by rw [f2, hi])).2.2 w, f3]
theorem actL2 (F : Face e rep) (fit : e.Fits) {h : PT ABlk} {n : Nat} {d : Rl → Nat} {C : Rl → Option ABlk} {c : CS e} {k t w v st : Nat} {D : Nat} (S : St h n d C) (R : RepC rep c k d C) (hD : d (3, 0) = D) (hk : k ≤ 90000) (ht : t < 6) (hv : v < 64) (hs0 : st ≠ 0) (hs1 : st < 2 ^ 64) (G : Good c t w v st) {w' v' st' t' : Int} (ew : w' = w) (ev : v' = v) (es : st' = st) (et : t' = t) :
    EvB Tryz.prog OP 9 [pt D, I6 t', U8 w', I6 v', U6 st'] h n fun r h' n' => r = .bool true ∧ ∃ k' d' C', k' ≤ k + 1 ∧ St h' n' d' C' ∧ RepC rep (c.act t w v st) k' d' C' ∧ d' (3, 0) = D := by
  subst hD ew ev es et
  obtain ⟨kk, r, h', n', ev, rfl, k', hk', d', C', S', R', cl⟩ := actL (w := w) F fit S R hk ht hv hs0 hs1 G
  exact ⟨kk, _, h', n', ev, rfl, k', d', C', hk', S', R', cl.run⟩
set_option maxRecDepth 100000 in
set_option maxHeartbeats 4000000 in
theorem progressL (F : Face e rep) (fit : e.Fits) (Ic : CS e → Prop) (hI : ∀ c t w v st, Ic c → t < 6 → v < 64 → st ≠ 0 → st < 2 ^ 64 → Good c t w v st ∧ Ic (c.act t w v st)) {I : e.σ → Prop} {mt : e.σ → Nat → Nat} {Q : Nat → e.σ → Prop} (Lv : e.Live I mt Q) (hIc : ∀ c, Ic c → I c.s) (gd5 : ∀ c, Ic c → One e c.s) {B : Nat} {qok : Nat → Nat → Prop} {P2 : Nat → Nat → Bool → e.σ → Nat → Prop} (Qt : e.Quiet I B qok P2) (hB : B ≤ 100) {h : PT ABlk} {n : Nat} {d : Rl → Nat} {C : Rl → Option ABlk} {c : CS e} {s : Value} {A : List (List Int)} (S : St h n d C) (i0 : Ic c) (hA : IsActs d C s A) {x y set v : Nat} (hset : set < 2 ^ 64) (hv : v < 256) {j : Nat} (hj : x % 3 = j)
    (hb : ∀ h n d C, St h n d C → C (20, 0) = none → EvB Tryz.prog OP 7 [U8 (1 + j : Nat), I6 (1 + y % 6 : Nat)] h n fun r h' n' => ∃ d' C', r = pt (d' (3, 0)) ∧ St h' n' d' C' ∧ RepC rep c 0 d' C' ∧ ∀ b, d' (30, b) = d (30, b) ∧ C' (30, b) = C (30, b)) (hsc : C (20, 0) = none)
    (hc : ∀ h n, EvB Tryz.prog OP 10 [U8 (1 + j : Nat), U6 set, I6 (1 + y % 6 : Nat), I6 (v % 64 : Nat)] h n fun r h' n' => ∃ r0 : Bool, r = .bool r0 ∧ (r0 = false → qok set (v % 64)) ∧ h' = h ∧ n' = n)
    (hbd : ∀ h n, EvB Tryz.prog OP 11 [U8 (1 + j : Nat), I6 (1 + y % 6 : Nat)] h n fun r h' n' => r = I6 B ∧ h' = h ∧ n' = n) :
    EvB Tryz.prog OP 3 [U8 x, U8 y, s, .agg ⟨[U6 set, U8 v]⟩] h n fun r h' n' => r = .bool true := by
  obtain ⟨ok, hA'⟩ := hA
  obtain ⟨x0, cap, hs⟩ : ∃ x0 cap, s = .slice x0 A.length cap := by
    rcases hA' with ⟨rfl, rfl⟩ | ⟨cap, rfl, _⟩
    · exact ⟨_, _, rfl⟩
    · exact ⟨_, _, rfl⟩
  have hx : (x : Int).tmod 3 = (j : Int) := by rw [← hj]; rfl
  have hy : (y : Int).tmod 6 = ((y % 6 : Nat) : Int) := rfl
  have hvm : (v : Int).tmod 64 = ((v % 64 : Nat) : Int) := rfl
  have hj3 : j < 3 := by rw [← hj]; exact Nat.mod_lt _ (by decide)
  have hy6 : y % 6 < 6 := Nat.mod_lt _ (by decide)
  have hv6 : v % 64 < 64 := Nat.mod_lt _ (by decide)
  generalize y % 6 = y6 at *
  generalize v % 64 = v6 at *
  have e1 : (1 : Int) + (j : Int) = ((1 + j : Nat) : Int) := by omega
  have e2 : (1 : Int) + (y6 : Int) = ((1 + y6 : Nat) : Int) := by omega
  clear hj
  have hnl := S.wf
  refine EvB_run (N := 156) Tryz.func3 rfl rfl fun z hP hO hro hN hQ => ?_
  repeat' first | simp (maxSteps := 2000000) (disch := first | omega | assumption) only [go_sem, *] | (apply xs <;> intro _) <;> try omega | ((with_reducible refine isD 1 ?_); refine dw 156 1 w3_1 (by first | (simp only [go_sem, *]; done) | rfl) (by kernel_rfl) (by kernel_rfl) ?_) | refine fun (_ _ : List Nat) => ?_ | (first | refine inQ Tryz.func6 rfl ?_ ?_ ?_ ?_ | fail) <;> intros
  have hl : A.length ≤ 300 := by omega
  have hs0 : set ≠ 0 := by omega
  refine cal (hb _ _ d C (S.junk (Nat.le_refl _) (Nat.lt_succ_self _)) hsc) (by simp only [*]) (by simp only [*]) (by simp only [go_sem, *]) (by simp only [go_sem, *]) ?_
  rintro r h2 n2 ⟨d1, C1, rfl, S1, R1, k1⟩
  have hA1 : IsActs d1 C1 s A := by
    refine ⟨ok, ?_⟩
    rw [(k1 0).1, (k1 0).2]; exact hA'
  rw [hs] at hA1
  have pl := playL F fit Ic hI S1 R1 i0 hA1 (by omega)
  generalize hD : d1 (3, 0) = D at *
  clear hb hA' hnl S
  repeat' first | simp (maxSteps := 2000000) (disch := first | omega | assumption) only [go_sem, *] | (apply xs <;> intro _) <;> try omega | ((with_reducible refine isD 1 ?_); refine dw 156 1 w3_1 (by first | (simp only [go_sem, *]; done) | rfl) (by kernel_rfl) (by kernel_rfl) ?_) | refine fun (_ _ : List Nat) => ?_ | (first | refine inQ Tryz.func6 rfl ?_ ?_ ?_ ?_ | fail) <;> intros
  refine cal (pl) (by simp only [*]) (by simp only [*]) (by simp only [go_sem, *]) (by simp only [go_sem, *]) ?_
  rintro r h3 n3 ⟨rfl, c2, k2, i2, hk2, d2, C2, S2, R2, cl2⟩
  have hD2 : d2 (3, 0) = D := cl2.run.trans hD
  clear pl hA1 S1 R1 cl2 k1 hD hs
  repeat' first | simp (maxSteps := 2000000) (disch := first | omega | assumption) only [go_sem, *] | (apply xs <;> intro _) <;> try omega | ((with_reducible refine isD 1 ?_); refine dw 156 1 w3_1 (by first | (simp only [go_sem, *]; done) | rfl) (by kernel_rfl) (by kernel_rfl) ?_) | refine fun (_ _ : List Nat) => ?_ | (first | refine inQ Tryz.func6 rfl ?_ ?_ ?_ ?_ | fail) <;> intros
  refine ind_loop (fun tt m h' n' => ∃ (i : Nat) (ci : CS e) (ki : Nat) (di : Rl → Nat) (Ci : Rl → Option ABlk), i + tt = 400 ∧ m.n = 156 ∧ m.dfs = [] ∧ m.get 13 = pt D ∧ m.get 14 = I6 i ∧ m.get 9 = U6 set ∧ m.get 10 = U8 v ∧ m.get 11 = I6 (1 + y6 : Nat) ∧ m.get 12 = U8 (1 + j : Nat) ∧ Ic ci ∧ ci.s = e.rounds c2.s i ∧ ki ≤ 300 + 6 * i ∧ St h' n' di Ci ∧ RepC rep ci ki di Ci ∧ di (3, 0) = D) 400 ?_ ?_
  · refine ⟨0, c2, k2, d2, C2, by omega, ?_⟩
    simp (maxSteps := 2000000) (disch := first | omega | assumption) only [go_sem, *]
    exact ⟨rfl, by omega⟩
  · rintro tt m h4 n4 ih ⟨i, ci, ki, di, Ci, hit, m1, m2, m3, m4, m5, m6, m7, m8, ii, hsi, hki, Si, Ri, hDi⟩
    by_cases hi4 : i = 400
    · subst hi4
      clear ih
      obtain ⟨iI, hidle⟩ := idle400 Lv (hIc c2 i2)
      rw [← hsi] at iI hidle
      have g3 := Si.at Ri.run
      rw [hDi] at g3
      clear i2 S2 R2 hsi hit
      repeat' first | simp (maxSteps := 2000000) (disch := first | omega | assumption) only [go_sem, *] | (apply xs <;> intro _) <;> try omega | ((with_reducible refine isD 1 ?_); refine dw 156 1 w3_1 (by first | (simp only [go_sem, *]; done) | rfl) (by kernel_rfl) (by kernel_rfl) ?_) | refine fun (_ _ : List Nat) => ?_ | (first | refine inQ Tryz.func6 rfl ?_ ?_ ?_ ?_ | fail) <;> intros
      refine ind_loop (fun t2 m h' n' => ∃ (t : Nat), t + t2 = 6 ∧ m.n = 156 ∧ m.dfs = [] ∧ m.get 13 = pt D ∧ m.get 17 = I6 t ∧ m.get 9 = U6 set ∧ m.get 10 = U8 v ∧ m.get 11 = I6 (1 + y6 : Nat) ∧ m.get 12 = U8 (1 + j : Nat) ∧ h' = h4 ∧ n' = n4) 6 ?_ ?_
      · refine ⟨0, by omega, ?_⟩
        clear hI Lv hIc Qt hc hbd F fit
        simp (maxSteps := 2000000) (disch := first | omega | assumption) only [go_sem, *]
      · clear m1 m2 m3 m4 m5 m6 m7 m8
        rintro t2 m h5 n5 ih2 ⟨t, htt, m1, m2, m3, m4, m5, m6, m7, m8, rfl, rfl⟩
        by_cases ht6 : t = 6
        · subst ht6
          clear ih2
          have hq := hc h5 n5
          repeat' first | simp (maxSteps := 2000000) (disch := first | omega | assumption) only [go_sem, *] | (apply xs <;> intro _) <;> try omega | ((with_reducible refine isD 1 ?_); refine dw 156 1 w3_1 (by first | (simp only [go_sem, *]; done) | rfl) (by kernel_rfl) (by kernel_rfl) ?_) | refine fun (_ _ : List Nat) => ?_ | (first | refine inQ Tryz.func6 rfl ?_ ?_ ?_ ?_ | fail) <;> intros
          refine cal (hq) (by simp only [*]) (by simp only [*]) (by simp only [go_sem, *]) (by simp only [go_sem, *]) ?_
          rintro r h6 n6 ⟨r0, rfl, hqok, rfl, rfl⟩
          have hb5 := hidle 5 (by omega)
          obtain ⟨gd, ii'⟩ := hI ci 5 2 0 set ii (by omega) (by omega) hs0 hset
          have q := actL2 F fit Si Ri hDi (by omega) (by omega) (by omega) hs0 hset gd (w' := 2) (v' := 0) (st' := set) (t' := 5) rfl rfl rfl rfl
          have p0 := Qt.start ci.s set v6 (!r0) iI hidle hs0 hset hv6 (fun z => hqok (by simpa using z))
          rw [← act_b5 (v := 0) hb5] at p0
          clear hq hc g3 Si Ri gd hidle iI hb5 ii
          repeat' first | simp (maxSteps := 2000000) (disch := first | omega | assumption) only [go_sem, *] | (apply xs <;> intro _) <;> try omega | ((with_reducible refine isD 1 ?_); refine dw 156 1 w3_1 (by first | (simp only [go_sem, *]; done) | rfl) (by kernel_rfl) (by kernel_rfl) ?_) | refine fun (_ _ : List Nat) => ?_ | (first | refine inQ Tryz.func6 rfl ?_ ?_ ?_ ?_ | fail) <;> intros
          refine cal (q) (by simp only [*]) (by simp only [*]) (by simp only [go_sem, *]) (by simp only [go_sem, *]) ?_
          rintro r h6 n6 ⟨rfl, k7, d7, C7, hk7, S7, R7, hD7⟩
          clear q
          have hBp := Qt.pos
          repeat' first | simp (maxSteps := 2000000) (disch := first | omega | assumption) only [go_sem, *] | (apply xs <;> intro _) <;> try omega | ((with_reducible refine isD 1 ?_); refine dw 156 1 w3_1 (by first | (simp only [go_sem, *]; done) | rfl) (by kernel_rfl) (by kernel_rfl) ?_) | refine fun (_ _ : List Nat) => ?_ | (first | refine inQ Tryz.func6 rfl ?_ ?_ ?_ ?_ | fail) <;> intros
          refine ind_loop (fun t2 m h' n' => ∃ (ci : CS e) (ki : Nat) (di : Rl → Nat) (Ci : Rl → Option ABlk) (sp : Nat), t2 + sp = B ∧ m.n = 156 ∧ m.dfs = [] ∧ m.get 13 = pt D ∧ m.get 20 = I6 sp ∧ m.get 9 = U6 set ∧ m.get 11 = I6 (1 + y6 : Nat) ∧ m.get 12 = U8 (1 + j : Nat) ∧ m.get 18 = I6 v6 ∧ m.get 19 = .bool (!r0) ∧ Ic ci ∧ P2 set v6 (!r0) ci.s t2 ∧ ki ≤ 3000 + 2 * sp ∧ St h' n' di Ci ∧ RepC rep ci ki di Ci ∧ di (3, 0) = D) (B - 1) ?_ ?_
          · refine ⟨ci.act 5 2 0 set, k7, d7, C7, 1, by omega, ?_⟩
            clear hI Lv hIc Qt hbd F fit
            simp (maxSteps := 2000000) (disch := first | omega | assumption) only [go_sem, *]
            exact ⟨rfl, by omega⟩
          · clear m1 m2 m3 m4 m5 m6 m7 m8 hki hDi hk7 p0 ii' S7 R7 hD7 hqok
            rintro t2 m h5 n5 ih3 ⟨ci, ki, di, Ci, sp, hsp, m1, m2, m3, m4, m5, m6, m7, m8, m9, ii, p2, hki, Si, Ri, hDi⟩
            have g3 := Si.at Ri.run
            rw [hDi] at g3
            have f5 : cell di ci 38 = if e.wt ci.s 5 = true then pt (di (10, 5)) else .pointer none := cell_at (t := 5) (k := 1) (by omega)
            clear hIc Lv
            cases hw : e.wt ci.s 5 with
            | false =>
              rw [hw, if_neg (by simp)] at f5
              clear ih3 hI Qt hbd F fit Si Ri p2 ii
              repeat' first | simp (maxSteps := 2000000) (disch := first | omega | assumption) only [go_sem, *, trueS] | (apply xs <;> intro _) <;> try omega | ((with_reducible refine isD 1 ?_); refine dw 156 1 w3_1 (by first | (simp only [go_sem, *]; done) | rfl) (by kernel_rfl) (by kernel_rfl) ?_) | refine fun (_ _ : List Nat) => ?_ | (first | refine inQ Tryz.func6 rfl ?_ ?_ ?_ ?_ | fail) <;> intros
            | true =>
              rw [hw, if_pos rfl] at f5
              obtain ⟨hm0, pw⟩ := Qt.wait ci.s set v6 (!r0) t2 p2 hw
              have hspB : ¬ (B : Int) ≤ sp := by omega
              have hspm : (sp : Int).tmod 5 = ((sp % 5 : Nat) : Int) := rfl
              have h55 : sp % 5 < 5 := Nat.mod_lt _ (by decide)
              have hbn := hbd h5 n5
              have hb3 : ((sp + 1 : Nat) : Int) = (sp : Int) + 1 := by omega
              have he5 := one_wt (gd5 ci ii) hw
              cases r0 with
              | true =>
                obtain ⟨gd, ii'⟩ := hI ci 5 2 0 set ii (by omega) (by omega) hs0 hset
                have q := actL2 F fit Si Ri hDi (by omega) (by omega) (by omega) hs0 hset gd (w' := 2) (v' := 0) (st' := set) (t' := 5) rfl rfl rfl rfl
                simp only [Bool.not_true] at pw m9
                rw [← act_w5 (v := 0) (st := set) he5 hw] at pw
                clear hI Qt hbd F fit Si Ri p2 ii gd
                repeat' first | simp (maxSteps := 2000000) (disch := first | omega | assumption) only [go_sem, *] | (apply xs <;> intro _) <;> try omega | ((with_reducible refine isD 1 ?_); refine dw 156 1 w3_1 (by first | (simp only [go_sem, *]; done) | rfl) (by kernel_rfl) (by kernel_rfl) ?_) | refine fun (_ _ : List Nat) => ?_ | (first | refine inQ Tryz.func6 rfl ?_ ?_ ?_ ?_ | fail) <;> intros
                refine cal (hbn) (by simp only [*]) (by simp only [*]) (by simp only [go_sem, *]) (by simp only [go_sem, *]) ?_
                rintro r h6 n6 ⟨rfl, rfl, rfl⟩
                clear hbn
                repeat' first | simp (maxSteps := 2000000) (disch := first | omega | assumption) only [go_sem, *] | (apply xs <;> intro _) <;> try omega | ((with_reducible refine isD 1 ?_); refine dw 156 1 w3_1 (by first | (simp only [go_sem, *]; done) | rfl) (by kernel_rfl) (by kernel_rfl) ?_) | refine fun (_ _ : List Nat) => ?_ | (first | refine inQ Tryz.func6 rfl ?_ ?_ ?_ ?_ | fail) <;> intros
                refine cal (q) (by simp only [*]) (by simp only [*]) (by simp only [go_sem, *]) (by simp only [go_sem, *]) ?_
                rintro r h6 n6 ⟨rfl, k7, d7, C7, hk7, S7, R7, hD7⟩
                clear q
                repeat' first | simp (maxSteps := 2000000) (disch := first | omega | assumption) only [go_sem, *] | (apply xs <;> intro _) <;> try omega | ((with_reducible refine isD 1 ?_); refine dw 156 1 w3_1 (by first | (simp only [go_sem, *]; done) | rfl) (by kernel_rfl) (by kernel_rfl) ?_) | refine fun (_ _ : List Nat) => ?_ | (first | refine inQ Tryz.func6 rfl ?_ ?_ ?_ ?_ | fail) <;> intros
                refine ih3 (t2 - 1) _ _ _ (by omega) ⟨ci.act 5 2 0 set, k7, d7, C7, sp + 1, by omega, ?_⟩
                rw [hb3]
                clear ih3
                simp (maxSteps := 2000000) (disch := first | omega | assumption) only [go_sem, *]
                omega
              | false =>
                simp only [Bool.not_false] at p2 pw m9
                have hwu := Qt.others ci.s set v6 true t2 (sp % 5) p2 h55
                have pa := Qt.act ci.s set v6 t2 (sp % 5) p2 h55
                rw [← act_q (c := ci) (st := 1) hwu] at pa
                have hw2 : e.wt (ci.act (sp % 5) 0 v6 1).s 5 = true := by
                  rw [act_q hwu, qact_wt fit (gd5 ci ii) hwu]; exact hw
                obtain ⟨gda, iia⟩ := hI ci (sp % 5) 0 v6 1 ii (by omega) hv6 (by omega) (by decide)
                have qa := actL2 F fit Si Ri hDi (by omega) (by omega) hv6 (by omega) (by decide) gda (w' := 0) (v' := v6) (st' := 1) (t' := (sp % 5 : Nat)) rfl rfl rfl rfl
                obtain ⟨gd, ii'⟩ := hI (ci.act (sp % 5) 0 v6 1) 5 2 0 set iia (by omega) (by omega) hs0 hset
                have hea := one_wt (gd5 _ iia) hw2
                obtain ⟨-, pw2⟩ := Qt.wait _ set v6 true t2 pa hw2
                rw [← act_w5 (v := 0) (st := set) hea hw2] at pw2
                have q2 := fun {h6 : PT ABlk} {n6 k7 : Nat} {d7 : Rl → Nat} {C7 : Rl → Option ABlk} (S7 : St h6 n6 d7 C7) (R7 : RepC rep (ci.act (sp % 5) 0 v6 1) k7 d7 C7) (hD7 : d7 (3, 0) = D) (hk7 : k7 ≤ 90000) => actL2 F fit S7 R7 hD7 hk7 (t := 5) (by omega) (by omega) hs0 hset gd (w' := 2) (v' := 0) (st' := set) (t' := 5) rfl rfl rfl rfl
                clear hI Qt hbd F fit Si Ri p2 ii gd gda pa pw hea hw2 iia
                generalize ci.act (sp % 5) 0 v6 1 = ca at *
                generalize sp % 5 = u at *
                repeat' first | simp (maxSteps := 2000000) (disch := first | omega | assumption) only [go_sem, *] | (apply xs <;> intro _) <;> try omega | ((with_reducible refine isD 1 ?_); refine dw 156 1 w3_1 (by first | (simp only [go_sem, *]; done) | rfl) (by kernel_rfl) (by kernel_rfl) ?_) | refine fun (_ _ : List Nat) => ?_ | (first | refine inQ Tryz.func6 rfl ?_ ?_ ?_ ?_ | fail) <;> intros
                refine cal (hbn) (by simp only [*]) (by simp only [*]) (by simp only [go_sem, *]) (by simp only [go_sem, *]) ?_
                rintro r h6 n6 ⟨rfl, rfl, rfl⟩
                clear hbn
                repeat' first | simp (maxSteps := 2000000) (disch := first | omega | assumption) only [go_sem, *] | (apply xs <;> intro _) <;> try omega | ((with_reducible refine isD 1 ?_); refine dw 156 1 w3_1 (by first | (simp only [go_sem, *]; done) | rfl) (by kernel_rfl) (by kernel_rfl) ?_) | refine fun (_ _ : List Nat) => ?_ | (first | refine inQ Tryz.func6 rfl ?_ ?_ ?_ ?_ | fail) <;> intros
                refine cal (qa) (by simp only [*]) (by simp only [*]) (by simp only [go_sem, *]) (by simp only [go_sem, *]) ?_
                rintro r h6 n6 ⟨rfl, k7, d7, C7, hk7, S7, R7, hD7⟩
                have q3 := q2 S7 R7 hD7 (by omega)
                clear qa q2
                repeat' first | simp (maxSteps := 2000000) (disch := first | omega | assumption) only [go_sem, *] | (apply xs <;> intro _) <;> try omega | ((with_reducible refine isD 1 ?_); refine dw 156 1 w3_1 (by first | (simp only [go_sem, *]; done) | rfl) (by kernel_rfl) (by kernel_rfl) ?_) | refine fun (_ _ : List Nat) => ?_ | (first | refine inQ Tryz.func6 rfl ?_ ?_ ?_ ?_ | fail) <;> intros
                refine cal (q3) (by simp only [*]) (by simp only [*]) (by simp only [go_sem, *]) (by simp only [go_sem, *]) ?_
                rintro r h8 n8 ⟨rfl, k8, d8, C8, hk8, S8, R8, hD8⟩
                clear q3 S7 R7
                repeat' first | simp (maxSteps := 2000000) (disch := first | omega | assumption) only [go_sem, *] | (apply xs <;> intro _) <;> try omega | ((with_reducible refine isD 1 ?_); refine dw 156 1 w3_1 (by first | (simp only [go_sem, *]; done) | rfl) (by kernel_rfl) (by kernel_rfl) ?_) | refine fun (_ _ : List Nat) => ?_ | (first | refine inQ Tryz.func6 rfl ?_ ?_ ?_ ?_ | fail) <;> intros
                refine ih3 (t2 - 1) _ _ _ (by omega) ⟨ca.act 5 2 0 set, k8, d8, C8, sp + 1, by omega, ?_⟩
                rw [hb3]
                clear ih3
                simp (maxSteps := 2000000) (disch := first | omega | assumption) only [go_sem, *]
                omega
        · have ht : t < 6 := by omega
          have hti : (t : Int) < 6 := by omega
          have hb2 : ((t + 1 : Nat) : Int) = (t : Int) + 1 := by omega
          have hb := hidle t ht
          obtain ⟨a1, a2, a3⟩ := nb3 hb
          have f0 : cell di ci (2 + t * 7) = .pointer none := (cell_at (k := 0) (by omega)).trans (if_neg (by rw [a1]; simp))
          have f1 : cell di ci (2 + t * 7 + 1) = .pointer none := (cell_at (k := 1) (by omega)).trans (if_neg (by rw [a2]; simp))
          have f2 : cell di ci (2 + t * 7 + 2) = .bool false := (cell_at (k := 2) (by omega)).trans (by show Value.bool (e.inn ci.s t) = _; rw [a3])
          clear hI Lv hIc Qt hc hbd F fit hidle iI hb a1 a2 a3 Si Ri ii
          repeat' first | simp (maxSteps := 2000000) (disch := first | omega | assumption) only [go_sem, *] | (apply xs <;> intro _) <;> try omega | ((with_reducible refine isD 1 ?_); refine dw 156 1 w3_1 (by first | (simp only [go_sem, *]; done) | rfl) (by kernel_rfl) (by kernel_rfl) ?_) | refine fun (_ _ : List Nat) => ?_ | (first | refine inQ Tryz.func6 rfl ?_ ?_ ?_ ?_ | fail) <;> intros
          refine ih2 (6 - (t + 1)) _ _ _ (by omega) ⟨t + 1, by omega, ?_⟩
          rw [hb2]
          clear ih2
          simp (maxSteps := 2000000) (disch := first | omega | assumption) only [go_sem, *]
    · have hlt : (i : Int) < 400 := by omega
      have hb1 : ((i + 1 : Nat) : Int) = (i : Int) + 1 := by omega
      repeat' first | simp (maxSteps := 2000000) (disch := first | omega | assumption) only [go_sem, *] | (apply xs <;> intro _) <;> try omega | ((with_reducible refine isD 1 ?_); refine dw 156 1 w3_1 (by first | (simp only [go_sem, *]; done) | rfl) (by kernel_rfl) (by kernel_rfl) ?_) | refine fun (_ _ : List Nat) => ?_ | (first | refine inQ Tryz.func6 rfl ?_ ?_ ?_ ?_ | fail) <;> intros
      refine ind_loop (fun t2 m h' n' => ∃ (t : Nat) (ci : CS e) (ki : Nat) (di : Rl → Nat) (Ci : Rl → Option ABlk), t + t2 = 6 ∧ m.n = 156 ∧ m.dfs = [] ∧ m.get 13 = pt D ∧ m.get 14 = I6 i ∧ m.get 15 = I6 t ∧ m.get 9 = U6 set ∧ m.get 10 = U8 v ∧ m.get 11 = I6 (1 + y6 : Nat) ∧ m.get 12 = U8 (1 + j : Nat) ∧ Ic ci ∧ ci.s = e.turns (e.rounds c2.s i) t ∧ ki ≤ 300 + 6 * i + t ∧ St h' n' di Ci ∧ RepC rep ci ki di Ci ∧ di (3, 0) = D) 6 ?_ ?_
      · refine ⟨0, ci, ki, di, Ci, by omega, ?_⟩
        clear ih
        simp (maxSteps := 2000000) (disch := first | omega | assumption) only [go_sem, *]
        exact rfl
      · clear m1 m2 m3 m4 m5 m6 m7 m8 ii hsi hki Si Ri hDi
        rintro t2 m h5 n5 ih2 ⟨t, ci, ki, di, Ci, htt, m1, m2, m3, m4, m4', m5, m6, m7, m8, ii, hsi, hki, Si, Ri, hDi⟩
        by_cases ht6 : t = 6
        · subst ht6
          clear ih2
          have hsi' : ci.s = e.rounds c2.s (i + 1) := hsi
          clear hsi
          repeat' first | simp (maxSteps := 2000000) (disch := first | omega | assumption) only [go_sem, *] | (apply xs <;> intro _) <;> try omega | ((with_reducible refine isD 1 ?_); refine dw 156 1 w3_1 (by first | (simp only [go_sem, *]; done) | rfl) (by kernel_rfl) (by kernel_rfl) ?_) | refine fun (_ _ : List Nat) => ?_ | (first | refine inQ Tryz.func6 rfl ?_ ?_ ?_ ?_ | fail) <;> intros
          refine ih (400 - (i + 1)) _ _ _ (by omega) ⟨i + 1, ci, ki, di, Ci, by omega, ?_⟩
          rw [hb1]
          clear ih
          simp (maxSteps := 2000000) (disch := first | omega | assumption) only [go_sem, *]
          omega
        · have ht : t < 6 := by omega
          have hti : (t : Int) < 6 := by omega
          have hb2 : ((t + 1 : Nat) : Int) = (t : Int) + 1 := by omega
          obtain ⟨gd, ii'⟩ := hI ci t 0 0 1 ii ht (by omega) (by omega) (by decide)
          have q := actL2 F fit Si Ri hDi (by omega) ht (by omega) (by omega) (by decide) gd (w' := 0) (v' := 0) (st' := 1) (t' := t) rfl rfl rfl rfl
          have g3 := Si.at Ri.run
          rw [hDi] at g3
          have f0 : cell di ci (2 + t * 7) = if e.ent ci.s t = true then pt (di (8, t)) else .pointer none := cell_at (k := 0) (by omega)
          have f1 : cell di ci (2 + t * 7 + 1) = if e.wt ci.s t = true then pt (di (10, t)) else .pointer none := cell_at (k := 1) (by omega)
          have f2 : cell di ci (2 + t * 7 + 2) = .bool (e.inn ci.s t) := cell_at (k := 2) (by omega)
          have hturn : e.busy ci.s t = true → (ci.act t 0 0 1).s = e.turns (e.rounds c2.s i) (t + 1) := fun hb => by
            rw [act_busy hb (by decide)]
            show _ = e.turn (e.turns (e.rounds c2.s i) t) t
            rw [← hsi]
            unfold Eng.turn; rw [if_pos hb]
          have hstay : e.busy ci.s t = false → ci.s = e.turns (e.rounds c2.s i) (t + 1) := fun hb => by
            show _ = e.turn (e.turns (e.rounds c2.s i) t) t
            rw [← hsi]
            unfold Eng.turn; rw [hb]; rfl
          unfold Eng.busy at hturn hstay
          clear ih hI Lv hIc Qt hc hbd i2 S2 R2 F fit gd
          cases he : e.ent ci.s t with
          | true =>
            rw [he] at hturn
            have hs2 := hturn rfl
            rw [he, if_pos rfl] at f0
            clear f1 f2 hturn hstay Si Ri hsi ii
            repeat' first | simp (maxSteps := 2000000) (disch := first | omega | assumption) only [go_sem, *] | (apply xs <;> intro _) <;> try omega | ((with_reducible refine isD 1 ?_); refine dw 156 1 w3_1 (by first | (simp only [go_sem, *]; done) | rfl) (by kernel_rfl) (by kernel_rfl) ?_) | refine fun (_ _ : List Nat) => ?_ | (first | refine inQ Tryz.func6 rfl ?_ ?_ ?_ ?_ | fail) <;> intros
            refine cal (q) (by simp only [*]) (by simp only [*]) (by simp only [go_sem, *]) (by simp only [go_sem, *]) ?_
            rintro r h6 n6 ⟨rfl, k7, d7, C7, hk7, S7, R7, hD7⟩
            clear q
            repeat' first | simp (maxSteps := 2000000) (disch := first | omega | assumption) only [go_sem, *] | (apply xs <;> intro _) <;> try omega | ((with_reducible refine isD 1 ?_); refine dw 156 1 w3_1 (by first | (simp only [go_sem, *]; done) | rfl) (by kernel_rfl) (by kernel_rfl) ?_) | refine fun (_ _ : List Nat) => ?_ | (first | refine inQ Tryz.func6 rfl ?_ ?_ ?_ ?_ | fail) <;> intros
            refine ih2 (6 - (t + 1)) _ _ _ (by omega) ⟨t + 1, ci.act t 0 0 1, k7, d7, C7, by omega, ?_⟩
            rw [hb2]
            clear ih2
            simp (maxSteps := 2000000) (disch := first | omega | assumption) only [go_sem, *]
            omega
          | false =>
            cases hw : e.wt ci.s t with
            | true =>
              rw [he, hw] at hturn
              have hs2 := hturn rfl
              rw [he, if_neg (by simp)] at f0
              rw [hw, if_pos rfl] at f1
              clear f2 hturn hstay Si Ri hsi ii
              repeat' first | simp (maxSteps := 2000000) (disch := first | omega | assumption) only [go_sem, *] | (apply xs <;> intro _) <;> try omega | ((with_reducible refine isD 1 ?_); refine dw 156 1 w3_1 (by first | (simp only [go_sem, *]; done) | rfl) (by kernel_rfl) (by kernel_rfl) ?_) | refine fun (_ _ : List Nat) => ?_ | (first | refine inQ Tryz.func6 rfl ?_ ?_ ?_ ?_ | fail) <;> intros
              refine cal (q) (by simp only [*]) (by simp only [*]) (by simp only [go_sem, *]) (by simp only [go_sem, *]) ?_
              rintro r h6 n6 ⟨rfl, k7, d7, C7, hk7, S7, R7, hD7⟩
              clear q
              repeat' first | simp (maxSteps := 2000000) (disch := first | omega | assumption) only [go_sem, *] | (apply xs <;> intro _) <;> try omega | ((with_reducible refine isD 1 ?_); refine dw 156 1 w3_1 (by first | (simp only [go_sem, *]; done) | rfl) (by kernel_rfl) (by kernel_rfl) ?_) | refine fun (_ _ : List Nat) => ?_ | (first | refine inQ Tryz.func6 rfl ?_ ?_ ?_ ?_ | fail) <;> intros
              refine ih2 (6 - (t + 1)) _ _ _ (by omega) ⟨t + 1, ci.act t 0 0 1, k7, d7, C7, by omega, ?_⟩
              rw [hb2]
              clear ih2
              simp (maxSteps := 2000000) (disch := first | omega | assumption) only [go_sem, *]
              omega
            | false =>
              rw [he, if_neg (by simp)] at f0
              rw [hw, if_neg (by simp)] at f1
              cases hin : e.inn ci.s t with
              | true =>
                rw [he, hw, hin] at hturn
                have hs2 := hturn rfl
                rw [hin] at f2
                clear hturn hstay Si Ri hsi ii
                repeat' first | simp (maxSteps := 2000000) (disch := first | omega | assumption) only [go_sem, *] | (apply xs <;> intro _) <;> try omega | ((with_reducible refine isD 1 ?_); refine dw 156 1 w3_1 (by first | (simp only [go_sem, *]; done) | rfl) (by kernel_rfl) (by kernel_rfl) ?_) | refine fun (_ _ : List Nat) => ?_ | (first | refine inQ Tryz.func6 rfl ?_ ?_ ?_ ?_ | fail) <;> intros
                refine cal (q) (by simp only [*]) (by simp only [*]) (by simp only [go_sem, *]) (by simp only [go_sem, *]) ?_
                rintro r h6 n6 ⟨rfl, k7, d7, C7, hk7, S7, R7, hD7⟩
                clear q
                repeat' first | simp (maxSteps := 2000000) (disch := first | omega | assumption) only [go_sem, *] | (apply xs <;> intro _) <;> try omega | ((with_reducible refine isD 1 ?_); refine dw 156 1 w3_1 (by first | (simp only [go_sem, *]; done) | rfl) (by kernel_rfl) (by kernel_rfl) ?_) | refine fun (_ _ : List Nat) => ?_ | (first | refine inQ Tryz.func6 rfl ?_ ?_ ?_ ?_ | fail) <;> intros
                refine ih2 (6 - (t + 1)) _ _ _ (by omega) ⟨t + 1, ci.act t 0 0 1, k7, d7, C7, by omega, ?_⟩
                rw [hb2]
                clear ih2
                simp (maxSteps := 2000000) (disch := first | omega | assumption) only [go_sem, *]
                omega
              | false =>
                rw [he, hw, hin] at hstay
                have hs2 := hstay rfl
                rw [hin] at f2
                clear hturn hstay hsi q
                repeat' first | simp (maxSteps := 2000000) (disch := first | omega | assumption) only [go_sem, *] | (apply xs <;> intro _) <;> try omega | ((with_reducible refine isD 1 ?_); refine dw 156 1 w3_1 (by first | (simp only [go_sem, *]; done) | rfl) (by kernel_rfl) (by kernel_rfl) ?_) | refine fun (_ _ : List Nat) => ?_ | (first | refine inQ Tryz.func6 rfl ?_ ?_ ?_ ?_ | fail) <;> intros
                refine ih2 (6 - (t + 1)) _ _ _ (by omega) ⟨t + 1, ci, ki, di, Ci, by omega, ?_⟩
                rw [hb2]
                clear ih2
                simp (maxSteps := 2000000) (disch := first | omega | assumption) only [go_sem, *]
                omega
end Go.Proofs.YtlnglgpipkmiaaaGreat
set_option linter.unusedVariables false
set_option linter.unusedSimpArgs false
namespace Go.Proofs.YtlnglgpipkmiaaaGreat
open Go.Am
theorem bound1 {nb : Int} {h : PT ABlk} {n : Nat} : EvB Tryz.prog OP 11 [U8 1, I6 nb] h n fun r h' n' => r = I6 6 ∧ h' = h ∧ n' = n := by
  refine EvB_run (N := 12) Tryz.func11 rfl rfl fun z hP hO hro hN hQ => ?_
  repeat' first | simp (maxSteps := 2000000) (disch := first | omega | assumption) only [go_sem, *] | (apply xs <;> intro _) <;> try omega
theorem bound2 {nb : Int} {h : PT ABlk} {n : Nat} : EvB Tryz.prog OP 11 [U8 2, I6 nb] h n fun r h' n' => r = I6 18 ∧ h' = h ∧ n' = n := by
  refine EvB_run (N := 12) Tryz.func11 rfl rfl fun z hP hO hro hN hQ => ?_
  repeat' first | simp (maxSteps := 2000000) (disch := first | omega | assumption) only [go_sem, *] | (apply xs <;> intro _) <;> try omega
theorem bound3 {nb : Nat} {h : PT ABlk} {n : Nat} (hn : nb ≤ 16) : EvB Tryz.prog OP 11 [U8 3, I6 nb] h n fun r h' n' => r = I6 (6 * nb : Nat) ∧ h' = h ∧ n' = n := by
  have e : (6 : Int) * nb = ((6 * nb : Nat) : Int) := by omega
  have e1 : (6 * nb : Nat) ≤ 96 := by omega
  refine EvB_run (N := 12) Tryz.func11 rfl rfl fun z hP hO hro hN hQ => ?_
  repeat' first | simp (maxSteps := 2000000) (disch := first | omega | assumption) only [go_sem, *] | (apply xs <;> intro _) <;> try omega
structure Ic {e : Eng} (hasv : e.σ → Nat → Nat → Prop) (guard : e.σ → Nat → Nat → Prop) (I : e.σ → Prop) (c : CS e) : Prop where
  j : c.J hasv guard
  i : I c.s
theorem ic_act {e : Eng} {hasv : e.σ → Nat → Nat → Prop} {guard : e.σ → Nat → Nat → Prop} {I : e.σ → Prop} {mt : e.σ → Nat → Nat} {Q : Nat → e.σ → Prop} (G : e.Grace hasv guard) (L : e.Live I mt Q) (Bg : e.Beg I) (c : CS e) (t w v st : Nat) (h : Ic hasv guard I c) (ht : t < 6) (hv : v < 64) (h0 : st ≠ 0) (h1 : st < 2 ^ 64) : Good c t w v st ∧ Ic hasv guard I (c.act t w v st) :=
  have g := good_J G c t w v st h.j ht hv h0 h1
  ⟨g.1, g.2, act_I L Bg G.fits h.i ht h0 h1⟩
theorem progress (x y set v : Nat) (hset : set < 2 ^ 64) (hv : v < 256) (s : Value) (A : List (List Int)) (q : Nat) (h : PT ABlk) (N : Nat) (hW : WfH h N) (hs : IsRows ksA h q s A) :
    EvB Tryz.prog OP 3 [U8 x, U8 y, s, .agg ⟨[U6 set, U8 v]⟩] h N fun v h' n' => v = .bool true := by
  obtain ⟨d, C, S, hA, hsc⟩ := start hW hs
  have hj : x % 3 = 0 ∨ x % 3 = 1 ∨ x % 3 = 2 := by omega
  have hn : 0 < 1 + y % 6 ∧ 1 + y % 6 ≤ 6 := by omega
  have hv6 : v % 64 < 64 := Nat.mod_lt _ (by decide)
  rcases hj with hj | hj | hj
  · exact progressL faceF engF_fits (Ic (fun _ _ _ => True) guardF IF) (ic_act graceF liveF begF) liveF (fun c h => h.i) (fun c h => h.j.one) quietF (by omega) (c := CS.new FS.new) S ⟨new_J fun t => ⟨rfl, rfl, rfl⟩, one_of fun t => ⟨fun q => by simp [CS.new, FS.new] at q, fun _ => rfl⟩, fun t y q => by simp [CS.new, FS.new] at q⟩ hA hset hv hj (fun _ _ _ _ S _ => beginF S) hsc (fun _ _ => conc1) (fun _ _ => bound1)
  · exact progressL faceE engE_fits (Ic hasE guardE IE) (ic_act graceE liveE begE) liveE (fun c h => h.i) (fun c h => h.j.one) quietE (by omega) (c := CS.new ES.new) S ⟨new_J fun t => ⟨rfl, rfl, rfl⟩, one_ofE fun t => ⟨fun q => absurd rfl q, fun _ => rfl⟩, fun t y st q => by simp [CS.new, ES.new] at q⟩ hA hset hv hj (fun _ _ _ _ S _ => beginE S) hsc (fun _ _ => conc2 hv6) (fun _ _ => bound2)
  · exact progressL (faceG (1 + y % 6)) (engG_fits _) (Ic (hasG (1 + y % 6)) guardG (IG (1 + y % 6))) (ic_act (graceG hn.1) (liveG hn.2) (begG hn.1)) (liveG hn.2) (fun c h => h.i) (fun c h => h.j.one) (quietG hn.1) (by omega) (c := CS.new GS.new) S ⟨new_J fun t => ⟨rfl, rfl, rfl⟩, one_ofG fun t q => rfl, fun t y q => by simp [CS.new, GS.new] at q, fun b t q => by simp [CS.new, GS.new] at q⟩ hA hset hv hj (fun _ _ _ _ S hsc => beginG S (by omega) hsc) hsc (fun _ _ => conc3 hset hv6 (by omega)) (fun _ _ => bound3 (by omega))
end Go.Proofs.YtlnglgpipkmiaaaGreat
