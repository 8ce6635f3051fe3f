/-
  A part of the proof: contracts of inner functions.
-/
import Derived.Test.YtlnglgpipkmiaaaGreatPR2
import Derived.Test.YtlnglgpipkmiaaaGreatPS2
set_option linter.unusedVariables false
set_option linter.unusedSimpArgs false
namespace Go.Proofs.YtlnglgpipkmiaaaGreat
open Go.Am
theorem _root_.Go.Am.St.give {h : PT ABlk} {n i : Nat} {d : Rl → Nat} {C : Rl → Option ABlk} {B : ABlk} (S : St h n d C) (r : Rl) (e : h.get i = some B) (hi : ∀ s D, C s = some D → d s ≠ i) : St h n (upd d r i) (upd C r (some B)) := by
  refine ⟨fun s D q => ?_, fun s t q1 q2 q => ?_, S.wf⟩
  · unfold upd at q ⊢
    split at q
    · rename_i c; rw [if_pos c]; rw [← Option.some.inj q]; exact e
    · rename_i c; rw [if_neg c]; exact S.get s D q
  · unfold upd at q q1 q2
    by_cases c1 : s = r
    · by_cases c2 : t = r
      · rw [c1, c2]
      · rw [if_pos c1, if_neg c2] at q
        rw [if_neg c2] at q2
        obtain ⟨D, hD⟩ := Option.ne_none_iff_exists'.1 q2
        exact absurd q.symm (hi t D hD)
    · by_cases c2 : t = r
      · rw [if_neg c1, if_pos c2] at q
        rw [if_neg c1] at q1
        obtain ⟨D, hD⟩ := Option.ne_none_iff_exists'.1 q1
        exact absurd q (hi s D hD)
      · rw [if_neg c1, if_neg c2] at q
        rw [if_neg c1] at q1
        rw [if_neg c2] at q2
        exact S.inj s t q1 q2 q
theorem IsM.upd {d : Rl → Nat} {C : Rl → Option ABlk} {W : List Int} {L : List Value} {k a b i : Nat} {B : Option ABlk} (M : IsM d C W L k) (ha : 2 < a) : IsM (upd d (a, b) i) (upd C (a, b) B) W L k := by
  obtain ⟨m1, m2, m3, m4⟩ := M
  refine ⟨?_, ?_, ?_, m4⟩
  · rw [upd_tag (by omega), upd_tag (by omega), upd_tag (by omega)]; exact m1
  · rw [upd_tag (by omega)]; exact m2
  · rw [upd_tag (by omega)]; exact m3
def wants (nb : Nat) (ms : List Nat) (b : Nat) : Bool := ms.any fun v => decide (v % nb = b)
def lefts (nb : Nat) (ms : List Nat) : List Nat := (List.range nb).filter (wants nb ms)
theorem lefts_at (nb : Nat) (ms : List Nat) (b : Nat) : (List.range (b + 1)).filter (wants nb ms) = (List.range b).filter (wants nb ms) ++ if wants nb ms b = true then [b] else [] := by
  rw [List.range_succ, List.filter_append]
  congr 1
  by_cases c : wants nb ms b = true
  · simp [c]
  · simp [c]
def gw0 (e : Nat) (th : Int) (sl : Value) : List Value := [pt e, I6 th, sl, .pointer none, U6 0, U8 0, .nilFunc]
theorem mem_mbs : ∀ (f v s b : Nat), s < 2 ^ f → (b ∈ mbs f v s ↔ v ≤ b ∧ s.testBit (b - v) = true)
  | 0, v, s, b, h => by
    have : s = 0 := by simpa using h
    subst this
    simp [mbs]
  | f + 1, v, s, b, h => by
    rw [mbs]
    by_cases h0 : s = 0
    · subst h0; simp
    · rw [if_neg h0]
      have hlt : s / 2 < 2 ^ f := by rw [Nat.pow_succ] at h; omega
      have ih := mem_mbs f (v + 1) (s / 2) b hlt
      have key : v + 1 ≤ b → (s / 2).testBit (b - (v + 1)) = s.testBit (b - v) := fun hb => by
        rw [show b - v = (b - (v + 1)) + 1 by omega, Nat.testBit_succ]
      by_cases h1 : s % 2 = 1
      · rw [if_pos h1, List.mem_cons, ih]
        constructor
        · rintro (rfl | ⟨a, c⟩)
          · exact ⟨Nat.le_refl _, by rw [Nat.sub_self, Nat.testBit_zero]; simpa using h1⟩
          · exact ⟨by omega, by rw [← key a]; exact c⟩
        · rintro ⟨a, c⟩
          by_cases hb : b = v
          · exact .inl hb
          · exact .inr ⟨by omega, by rw [key (by omega)]; exact c⟩
      · rw [if_neg h1, ih]
        constructor
        · rintro ⟨a, c⟩
          exact ⟨by omega, by rw [← key a]; exact c⟩
        · rintro ⟨a, c⟩
          have hb : b ≠ v := fun e => by
            subst e
            rw [Nat.sub_self, Nat.testBit_zero] at c
            simp at c
            omega
          exact ⟨by omega, by rw [key (by omega)]; exact c⟩
theorem mbs_lt {s b : Nat} (hs : s < 2 ^ 64) (hb : b ∈ mbs 64 0 s) : b < 64 := by
  have := ((mem_mbs 64 0 s b hs).1 hb).2
  rw [Nat.sub_zero] at this
  by_cases c : b < 64
  · exact c
  · rw [Nat.testBit_lt_two_pow (Nat.lt_of_lt_of_le hs (Nat.pow_le_pow_right (by omega) (by omega)))] at this
    simp at this
set_option maxRecDepth 100000 in
set_option maxHeartbeats 8000000 in
theorem gEWaitB {h : PT ABlk} {nb nn s : Nat} {d : Rl → Nat} {C : Rl → Option ABlk} {base th : Int} {v1 : Value} {t k ba b0 : Nat} {W : List Int} {L : List Value} (S : St h nn d C) (M : IsM d C W L k) (hb0 : 0 ≤ base ∧ base < 100000) (hbw : base + 4 * nb ≤ W.length) (hw : W.length ≤ 100000) (e5 : C (5, 0) = row [pt (d rM), I6 base, I6 nb, v1]) (ht : 0 ≤ th ∧ th < 64) (hnb : 0 < nb ∧ nb ≤ 16) (hs : s < 2 ^ 64) (hs0 : s ≠ 0) (hbb : (lefts nb (mbs 64 0 s))[0]? = some b0) (hba : base + 4 * (b0 : Int) + 3 = ba) (hbn : b0 < nb) :
    EvB Tryz.prog OP 153 [pt (d (5, 0)), I6 th, U6 s] h nn fun r h' n' => ∃ p q g, nn ≤ p ∧ p < q ∧ q < g ∧ g < n' ∧ r = tup [pt p, I6 0] ∧ St h' n' (upd (upd (upd d (11, t) p) (12, t) q) (13, t) g) (upd (upd (upd (upd C (11, t) (row (gw0 (d (5, 0)) th (.slice (some ⟨q, 0, none⟩) (lefts nb (mbs 64 0 s)).length (capInf + 1))))) (12, t) (row ((lefts nb (mbs 64 0 s)).map fun b : Nat => Value.int .i64 (b : Int)))) (13, t) (row [I6 0, I6 0, pt (d rM), I6 th, I6 ba, .func (.func 170) ⟨[pt g]⟩ ⟨[]⟩, I6 0])) (11, t) (row [pt (d (5, 0)), I6 th, .slice (some ⟨q, 0, none⟩) (lefts nb (mbs 64 0 s)).length (capInf + 1), pt g, U6 0, U8 2, .func (.func 166) ⟨[]⟩ ⟨[]⟩])) := by
  have g5 := S.at e5
  have n5 := S.lt e5
  obtain ⟨t1, t2⟩ := ht
  have s1 : ¬ (s : Int) = 0 := by omega
  have W0 := S.wf
  generalize hde : d (5, 0) = de at *
  generalize hdm : d rM = dm at *
  have oM := @membersB OP rfl rfl s hs
  have hml := mbs_length 64 0 s
  have hmv : ∀ v ∈ mbs 64 0 s, v < 64 := fun v hv => mbs_lt hs hv
  generalize mbs 64 0 s = ms at *
  have nb0 : ¬ (nb : Int) = 0 := by omega
  refine EvB_run (N := 71) Tryz.func153 rfl rfl fun z hP hO hro hN hQ => ?_
  repeat' first | simp (maxSteps := 2000000) (disch := first | omega | assumption) only [go_sem, *] | (apply xs <;> intro _) <;> try omega | refine fun (_ _ : List Nat) => ?_ | (first | refine inQ Tryz.func158 rfl ?_ ?_ ?_ ?_ | refine inQ Tryz.func155 rfl ?_ ?_ ?_ ?_ | refine inQ Tryz.func161 rfl ?_ ?_ ?_ ?_ | fail) <;> intros
  refine ind_loop (fun t m h' n' => ∃ (b : Nat) (sl : Value), b + t = nb ∧ m.n = 71 ∧ m.dfs = [] ∧ m.get 0 = pt de ∧ m.get 2 = U6 s ∧ m.get 9 = pt nn ∧ m.get 30 = I6 nb ∧ m.get 31 = I6 b ∧ Kept h h' ∧ WfH h' n' ∧ nn + 1 ≤ n' ∧ h'.get nn = row (gw0 de th sl) ∧ GrowInts .i64 h' (nn + 1) sl (((List.range b).filter (wants nb ms)).map fun v : Nat => (v : Int))) nb ?_ ?_
  · refine ⟨0, .slice none 0 0, by omega, ?_⟩
    have k1 : Kept h (h.set nn (row (gw0 de th (.slice none 0 0)))) := Kept.set' W0 (Nat.le_refl _) (Kept.refl _)
    have k2 : WfH (h.set nn (row (gw0 de th (.slice none 0 0)))) (nn + 1) := W0.set (by omega) (by omega)
    simp only [gw0] at k1 k2
    simp only [gw0, List.range_zero, List.filter_nil, List.map_nil]
    simp (maxSteps := 2000000) (disch := first | omega | assumption) only [go_sem, *]
    exact ⟨Nat.le_refl _, .inl ⟨rfl, rfl⟩⟩
  · rintro tt m h1 n1 ih ⟨b, sl, hbt, m1, m2, m3, m4, m5, m6, m7, q1, q2, q3, q4, q5⟩
    simp only [gw0] at q4
    have q6 := q1 _ _ g5
    clear g5
    by_cases hb : b = nb
    · have hb' : (b : Int) = nb := by omega
      clear ih
      subst hb
      obtain ⟨g, w1, w2, w3⟩ : ∃ g, sl = .slice (some ⟨g, 0, none⟩) (lefts b ms).length (capInf + 1) ∧ nn + 1 ≤ g ∧ h1.get g = row ((lefts b ms).map fun b : Nat => Value.int .i64 (b : Int)) := by
        rcases q5 with ⟨w1, w2⟩ | ⟨g, w1, w2, w3⟩
        · have : lefts b ms = [] := List.map_eq_nil_iff.1 w2
          rw [this] at hbb; simp at hbb
        · exact ⟨g, by rw [w1, List.length_map]; rfl, w2, by rw [w3, List.map_map]; rfl⟩
      have St1 := ((S.kept q1 q2).give (11, t) q4 fun r D e => by have := S.lt e; omega).give (12, t) w3 fun r D e => by
        by_cases c : r = (11, t)
        · subst c; rw [upd_same]; omega
        · rw [upd_ne c] at e ⊢
          have := S.lt e; omega
      have M1 := (M.upd (a := 11) (b := t) (i := nn) (B := row [pt de, I6 th, sl, .pointer none, U6 0, U8 0, .nilFunc]) (by omega)).upd (a := 12) (b := t) (i := g) (B := row ((lefts b ms).map fun b : Nat => Value.int .i64 (b : Int))) (by omega)
      subst w1
      have hlen : 0 < (lefts b ms).length := by
        cases hc : lefts b ms with
        | nil => rw [hc] at hbb; simp at hbb
        | cons _ _ => simp
      have hb16 : (0 : Int) ≤ (b0 : Int) ∧ (b0 : Int) < 16 := by omega
      have bg := gBeginB (nb := b) (off := 0) (len := (lefts b ms).length) (cap := capInf + 1) (ba := ba) (base := base) (th := th) (b := b0) (v1 := v1) (lk := .pointer none) (sd := U6 0) (p := U8 0) (q := .nilFunc) (t := t) (Lf := (lefts b ms).map fun b : Nat => (b : Int)) St1 M1 (by simp (disch := decide) only [rM, upd_same, upd_tag, e5]; rw [← hdm]) (by simp (disch := decide) only [upd_same, upd_tag, hde]) (by simp (disch := decide) only [upd_same, upd_tag, List.map_map]; rfl) hlen (by rw [List.getElem?_map, hbb]; rfl) hb16 hb0 ⟨t1, t2⟩ hba (by omega) hw
      rw [show Go.Am.upd (Go.Am.upd d (11, t) nn) (12, t) g (11, t) = nn from by rw [upd_tag (by decide), upd_same]] at bg
      repeat' first | simp (maxSteps := 2000000) (disch := first | omega | assumption) only [go_sem, *] | (apply xs <;> intro _) <;> try omega | refine fun (_ _ : List Nat) => ?_ | (first | refine inQ Tryz.func158 rfl ?_ ?_ ?_ ?_ | refine inQ Tryz.func155 rfl ?_ ?_ ?_ ?_ | refine inQ Tryz.func161 rfl ?_ ?_ ?_ ?_ | fail) <;> intros
      refine cal (bg) (by simp only [*]) (by simp only [*]) (by simp only [go_sem, *]) (by simp only [go_sem, *]) ?_
      rintro r h2 n2 ⟨g3, x1, x2, rfl, S3⟩
      have f11 := S3.at (r := (11, t)) upd_same
      rw [show Go.Am.upd (Go.Am.upd (Go.Am.upd d (11, t) nn) (12, t) g) (13, t) g3 (11, t) = nn from by rw [upd_tag (by decide), upd_tag (by decide), upd_same]] at f11
      have hg1 := q2.lt w3
      clear q1 q2 q4 q5 q6 w3 St1 M1 bg e5
      repeat' first | simp (maxSteps := 2000000) (disch := first | omega | assumption) only [go_sem, *] | (apply xs <;> intro _) <;> try omega | refine fun (_ _ : List Nat) => ?_ | (first | refine inQ Tryz.func158 rfl ?_ ?_ ?_ ?_ | refine inQ Tryz.func155 rfl ?_ ?_ ?_ ?_ | refine inQ Tryz.func161 rfl ?_ ?_ ?_ ?_ | fail) <;> intros
      have hdm' : d (0, 0) = dm := hdm
      refine ⟨nn, g, g3, by omega, by omega, by omega, x2, rfl, (S3.set (11, t) _ upd_same (by rw [upd_tag (by decide), upd_tag (by decide), upd_same])).eq ?_ rfl⟩
      rw [upd_upd]
      simp (disch := decide) only [gw0, rM, upd_same, upd_tag, hde, hdm']
    · have hb' : (b : Int) < nb := by omega
      repeat' first | simp (maxSteps := 2000000) (disch := first | omega | assumption) only [go_sem, *] | (apply xs <;> intro _) <;> try omega | refine fun (_ _ : List Nat) => ?_ | (first | refine inQ Tryz.func158 rfl ?_ ?_ ?_ ?_ | refine inQ Tryz.func155 rfl ?_ ?_ ?_ ?_ | refine inQ Tryz.func161 rfl ?_ ?_ ?_ ?_ | fail) <;> intros
      refine cal (oM _ _ q2) (by simp only [*]) (by simp only [*]) (by simp only [go_sem, *]) (by simp only [go_sem, *]) ?_
      rintro r h2 n2 ⟨r1, r2, r3, r4⟩
      have q7 := r2 _ _ q4
      have q8 := r2 _ _ q6
      have k2 : Kept h h2 := q1.trans r2
      have g2 : GrowInts .i64 h2 (nn + 1) sl (((List.range b).filter (wants nb ms)).map fun v : Nat => (v : Int)) := by
        rcases q5 with q | ⟨g, w1, w2, w3⟩
        · exact .inl q
        · exact .inr ⟨g, w1, w2, r2 _ _ w3⟩
      have n3 : nn + 1 ≤ n2 := by omega
      clear q1 q2 q3 q4 q5 q6 r2
      obtain ⟨rl, hrl⟩ : ∃ rl cp, r = .slice rl ms.length cp := by
        rcases r1 with ⟨w1, w2⟩ | ⟨g, w1, w2, w3⟩
        · have : ms = [] := by simpa using w2
          subst this
          exact ⟨_, _, w1⟩
        · rw [List.length_map] at w1
          exact ⟨_, _, w1⟩
      obtain ⟨cp, rfl⟩ := hrl
      repeat' first | simp (maxSteps := 2000000) (disch := first | omega | assumption) only [go_sem, *] | (apply xs <;> intro _) <;> try omega | refine fun (_ _ : List Nat) => ?_ | (first | refine inQ Tryz.func158 rfl ?_ ?_ ?_ ?_ | refine inQ Tryz.func155 rfl ?_ ?_ ?_ ?_ | refine inQ Tryz.func161 rfl ?_ ?_ ?_ ?_ | fail) <;> intros
      generalize hX : ((List.range b).filter (wants nb ms)).map (fun v : Nat => (v : Int)) = X at *
      have hXl : X.length ≤ b := by rw [← hX, List.length_map]; exact Nat.le_trans (List.length_filter_le _ _) (by rw [List.length_range]; exact Nat.le_refl _)
      have hin : wants nb ms b = true → ((List.range (b + 1)).filter (wants nb ms)).map (fun v : Nat => (v : Int)) = X ++ [(b : Int)] := fun c => by rw [lefts_at, if_pos c, List.map_append, hX]; rfl
      have hout : wants nb ms b = false → ((List.range (b + 1)).filter (wants nb ms)).map (fun v : Nat => (v : Int)) = X := fun c => by rw [lefts_at, c, List.map_append, hX]; simp
      clear hX
      have hb1 : ((b + 1 : Nat) : Int) = (b : Int) + 1 := by omega
      refine ind_loop (fun t2 m' h' n' => ∃ i : Nat, i + t2 = ms.length ∧ (∀ v ∈ ms.take i, v % nb ≠ b) ∧ m'.n = 71 ∧ m'.dfs = [] ∧ m'.get 0 = pt de ∧ m'.get 2 = U6 s ∧ m'.get 9 = pt nn ∧ m'.get 30 = I6 nb ∧ m'.get 31 = I6 b ∧ m'.get 10 = I6 b ∧ m'.get 35 = .slice rl ms.length cp ∧ m'.get 36 = I6 ms.length ∧ m'.get 37 = I6 i ∧ h' = h2 ∧ n' = n2) ms.length ?_ ?_
      · refine ⟨0, by omega, by simp, ?_⟩
        simp (maxSteps := 2000000) (disch := first | omega | assumption) only [go_sem, *]
      · rintro t2 m' h' n' ih2 ⟨i, hit, hno, p1, p2, p3, p4, p5, p6, p7, p8, p9, p10, p11, rfl, rfl⟩
        clear m1 m2 m3 m4 m5 m6 m7
        by_cases hi : i = ms.length
        · have hi' : (i : Int) = ms.length := by omega
          have hw : wants nb ms b = false := by
            rw [hi, List.take_length] at hno
            simp only [wants, List.any_eq_false, decide_eq_true_eq]
            exact hno
          clear ih2 hno
          repeat' first | simp (maxSteps := 2000000) (disch := first | omega | assumption) only [go_sem, *] | (apply xs <;> intro _) <;> try omega | refine fun (_ _ : List Nat) => ?_ | (first | refine inQ Tryz.func158 rfl ?_ ?_ ?_ ?_ | refine inQ Tryz.func155 rfl ?_ ?_ ?_ ?_ | refine inQ Tryz.func161 rfl ?_ ?_ ?_ ?_ | fail) <;> intros
          refine ih (nb - (b + 1)) _ _ _ (by omega) ⟨b + 1, sl, by omega, ?_⟩
          rw [hout hw, hb1]
          simp only [gw0]
          simp (maxSteps := 2000000) (disch := first | omega | assumption) only [go_sem, *]
        · have hi' : (i : Int) < ms.length := by omega
          obtain ⟨v, hv⟩ : ∃ v, ms[i]? = some v := ⟨ms[i]'(by omega), List.getElem?_eq_getElem _⟩
          have hvm : v ∈ ms := List.mem_of_getElem? hv
          have hv64 := hmv v hvm
          obtain ⟨g, rfl, gr⟩ : ∃ g, rl = some ⟨g, 0, none⟩ ∧ h'.get g = row ((ms.map fun v : Nat => (v : Int)).map (.int .i64)) := by
            rcases r1 with ⟨w1, w2⟩ | ⟨g, w1, w2, w3⟩
            · have : ms = [] := by simpa using w2
              subst this; simp at hv
            · injection w1 with w1; exact ⟨g, w1, w3⟩
          have hgv : ((ms.map fun v : Nat => (v : Int)).map (Value.int .i64))[i]? = some (.int .i64 v) := by rw [List.getElem?_map, List.getElem?_map, hv]; rfl
          have hvr : (v : Int).tmod nb = ((v % nb : Nat) : Int) := rfl
          by_cases hvb : v % nb = b
          · have hvb' : ((v % nb : Nat) : Int) = b := by omega
            have hw : wants nb ms b = true := by
              simp only [wants, List.any_eq_true, decide_eq_true_eq]
              exact ⟨v, hvm, hvb⟩
            clear ih2 hno r1 hout
            have hWn := r3
            rcases g2 with ⟨rfl, rfl⟩ | ⟨g', rfl, w2, w3⟩
            · repeat' first | simp (maxSteps := 2000000) (disch := first | omega | assumption) only [go_sem, *] | (apply xs <;> intro _) <;> try omega | refine fun (_ _ : List Nat) => ?_ | (first | refine inQ Tryz.func158 rfl ?_ ?_ ?_ ?_ | refine inQ Tryz.func155 rfl ?_ ?_ ?_ ?_ | refine inQ Tryz.func161 rfl ?_ ?_ ?_ ?_ | fail) <;> intros
              refine ih (nb - (b + 1)) _ _ _ (by omega) ⟨b + 1, .slice (some ⟨n' + 1, 0, none⟩) 1 (capInf + 1), by omega, by simp (maxSteps := 2000000) (disch := first | omega | assumption) only [go_sem, *], by simp (maxSteps := 2000000) (disch := first | omega | assumption) only [go_sem, *], by simp (maxSteps := 2000000) (disch := first | omega | assumption) only [go_sem, *], by simp (maxSteps := 2000000) (disch := first | omega | assumption) only [go_sem, *], by simp (maxSteps := 2000000) (disch := first | omega | assumption) only [go_sem, *], by simp (maxSteps := 2000000) (disch := first | omega | assumption) only [go_sem, *], by simp (maxSteps := 2000000) (disch := first | omega | assumption) only [go_sem, *], ?_, ?_, by omega, by rw [heap_same]; rfl, ?_⟩
              · repeat refine Kept.set' W0 (by omega) ?_
                exact k2
              · repeat refine WfH.set' (by omega) ?_
                exact r3.mono (by omega)
              · rw [hin hw]
                exact .inr ⟨n' + 1, rfl, by omega, by simp (disch := omega) only [heap_ne, heap_same]; rfl⟩
            · have hgn := r3.lt w3
              have htk : List.take X.length (X.map (Value.int .i64)) = X.map (.int .i64) := take_map_self
              have hmX : (X.map (Value.int .i64)).length = X.length := List.length_map _
              have hble : Nat.ble (X.length + 1) 1048576 = true := Nat.ble_eq_true_of_le (by omega)
              have hgN : g' ≠ nn := by omega
              have hsn : X.map (Value.int .i64) ++ [.int .i64 (b : Int)] = (X ++ [(b : Int)]).map (.int .i64) := by simp
              repeat' first | simp (maxSteps := 2000000) (disch := first | omega | assumption) only [go_sem, *] | (apply xs <;> intro _) <;> try omega | refine fun (_ _ : List Nat) => ?_ | (first | refine inQ Tryz.func158 rfl ?_ ?_ ?_ ?_ | refine inQ Tryz.func155 rfl ?_ ?_ ?_ ?_ | refine inQ Tryz.func161 rfl ?_ ?_ ?_ ?_ | fail) <;> intros
              refine ih (nb - (b + 1)) _ _ _ (by omega) ⟨b + 1, .slice (some ⟨n' + 1, 0, none⟩) (X.length + 1) (capInf + 1), by omega, by simp (maxSteps := 2000000) (disch := first | omega | assumption) only [go_sem, *], by simp (maxSteps := 2000000) (disch := first | omega | assumption) only [go_sem, *], by simp (maxSteps := 2000000) (disch := first | omega | assumption) only [go_sem, *], by simp (maxSteps := 2000000) (disch := first | omega | assumption) only [go_sem, *], by simp (maxSteps := 2000000) (disch := first | omega | assumption) only [go_sem, *], by simp (maxSteps := 2000000) (disch := first | omega | assumption) only [go_sem, *], by simp (maxSteps := 2000000) (disch := first | omega | assumption) only [go_sem, *], ?_, ?_, by omega, by rw [heap_same]; rfl, ?_⟩
              · repeat refine Kept.set' W0 (by omega) ?_
                exact k2
              · repeat refine WfH.set' (by omega) ?_
                exact r3.mono (by omega)
              · rw [hin hw]
                exact .inr ⟨n' + 1, by simp, by omega, by simp (disch := omega) only [heap_ne, heap_same]⟩
          · have hvb' : ¬ ((v % nb : Nat) : Int) = b := by omega
            have hi1 : ((i + 1 : Nat) : Int) = (i : Int) + 1 := by omega
            have hno2 : ∀ x ∈ ms.take (i + 1), x % nb ≠ b := by
              intro x hx
              rw [List.take_add_one, hv] at hx
              rcases List.mem_append.1 hx with q | q
              · exact hno x q
              · simp at q; rw [q]; exact hvb
            clear ih hno r1 hin hout g2
            repeat' first | simp (maxSteps := 2000000) (disch := first | omega | assumption) only [go_sem, *] | (apply xs <;> intro _) <;> try omega | refine fun (_ _ : List Nat) => ?_ | (first | refine inQ Tryz.func158 rfl ?_ ?_ ?_ ?_ | refine inQ Tryz.func155 rfl ?_ ?_ ?_ ?_ | refine inQ Tryz.func161 rfl ?_ ?_ ?_ ?_ | fail) <;> intros
            refine ih2 (ms.length - (i + 1)) _ _ _ (by omega) ⟨i + 1, by omega, hno2, ?_⟩
            rw [hi1]
            simp (maxSteps := 2000000) (disch := first | omega | assumption) only [go_sem, *]
end Go.Proofs.YtlnglgpipkmiaaaGreat
