/-
  A part of the proof: contracts of inner functions.
-/
import Derived.Test.YtbceiadaihphaaaGreatRG6
set_option linter.unusedVariables false
set_option linter.unusedSimpArgs false
namespace Go.Proofs.YtbceiadaihphaaaGreat
open Go.Am
variable {e : Eng} {rep : e.σ → Nat → (Rl → Nat) → (Rl → Option ABlk) → Prop} {hasv guard fresh : e.σ → Nat → Nat → Prop} {pcE pcW : e.σ → Nat → Int} {kd nb nw xp : Nat} {s0 : e.σ}
theorem startR {h : PT ABlk} {N q q2 : Nat} {ps s : Value} {As : List (List (List Int))} {A : List (List Int)} (hW : WfH h N) (hP : IsRows2 ksR h q ps As) (hs : IsRows ksI h q2 s A) (hq : 0 < As.length → q + As.length < q2) : ∃ d C, St h N d C ∧ (0 < As.length → Pa d C ps As) ∧ IsPicks d C s A ∧ ∀ a b, a ≠ 62 → a ≠ 64 → a ≠ 65 → C (a, b) = none := by
 let d : Rl → Nat := fun r => if r = (62, 0) then q2 else if r = (64, 0) then q else q + 1 + r.2
 let C : Rl → Option ABlk := fun r => if r = (62, 0) then h.get q2 else if r = (64, 0) ∧ 0 < As.length then h.get q else if r.1 = 65 ∧ r.2 < As.length then h.get (q + 1 + r.2) else none
 have cases : ∀ r, C r ≠ none → (r = (62, 0) ∧ d r = q2) ∨ (r = (64, 0) ∧ d r = q ∧ 0 < As.length) ∨ (r.1 = 65 ∧ r.2 < As.length ∧ d r = q + 1 + r.2) := by
  intro r hr
  by_cases c1 : r = (62, 0)
  ·left; exact ⟨c1, if_pos c1⟩
  by_cases c2 : r = (64, 0) ∧ 0 < As.length
  ·right; left; exact ⟨c2.1, by show (if _ then _ else _) = _; rw [if_neg c1, if_pos c2.1], c2.2⟩
  by_cases c3 : r.1 = 65 ∧ r.2 < As.length
  ·right; right; refine ⟨c3.1, c3.2, ?_⟩
   show (if _ then _ else _) = _
   rw [if_neg c1, if_neg (fun c => by rw [c] at c3; simp at c3)]
  ·exact absurd (by show (if _ then _ else _) = _; rw [if_neg c1, if_neg c2, if_neg c3]) hr
 have hd62 : d (62, 0) = q2 := if_pos rfl
 have hd64 : d (64, 0) = q := rfl
 have hd65 : ∀ i, d (65, i) = q + 1 + i := fun i => rfl
 have hC62 : C (62, 0) = h.get q2 := if_pos rfl
 refine ⟨d, C, ⟨fun r B hB => ?_, fun r t h1 h2 h3 => ?_, hW⟩, fun h0 => ?_, ?_, fun a b c1 c2 c3 => ?_⟩
 ·have hr : C r ≠ none := by rw [hB]; simp
  rcases cases r hr with ⟨rfl, e⟩ | ⟨rfl, e, h0⟩ | ⟨e1, e2, e⟩
  ·rw [e, ← hC62]; exact hB
  ·rw [e]
   have : C (64, 0) = h.get q := by show (if _ then _ else _) = _; rw [if_neg (by decide), if_pos ⟨rfl, h0⟩]
   rw [← this]; exact hB
  ·rw [e]
   obtain ⟨ra, rb⟩ := r
   simp only at e1 e2
   subst e1
   have : C (65, rb) = h.get (q + 1 + rb) := by show (if _ then _ else _) = _; rw [if_neg (by simp), if_neg (by simp), if_pos ⟨rfl, e2⟩]
   rw [← this]; exact hB
 ·obtain ⟨ra, rb⟩ := r
  obtain ⟨ta, tb⟩ := t
  rcases cases _ h1 with ⟨e1, e2⟩ | ⟨e1, e2, e3⟩ | ⟨e1, e2, e3⟩ <;> rcases cases _ h2 with ⟨f1, f2⟩ | ⟨f1, f2, f3⟩ | ⟨f1, f2, f3⟩
  ·rw [e1, f1]
  ·have := hq f3; omega
  ·have := hq (by omega); simp only at f2; omega
  ·have := hq e3; omega
  ·rw [e1, f1]
  ·simp only at f2 f3; omega
  ·have := hq (by omega); simp only at e2; omega
  ·simp only at e2 e3; omega
  ·simp only at e1 f1 e3 f3
   have : rb = tb := by omega
   rw [e1, f1, this]
 ·rcases hP with ⟨-, rfl⟩ | ⟨cap, vs, e1, e2, e3, e4, e5, e6⟩
  ·simp at h0
  ·refine ⟨cap, vs, by rw [hd64]; exact e1, ?_, e5, fun i A hA => ?_⟩
   ·show (if _ then _ else _) = _
    rw [if_neg (by decide), if_pos ⟨rfl, h0⟩]; exact e4
   ·obtain ⟨a1, a2, a3, a4⟩ := e6 i A hA
    have hi := (List.getElem?_eq_some_iff.1 hA).1
    refine ⟨a1, ?_, ?_⟩
    ·show (if _ then _ else _) = _
     rw [if_neg (by simp), if_neg (by simp), if_pos ⟨rfl, hi⟩]; exact a3
    ·rcases a4 with a4 | ⟨cp, a4, -⟩
     ·exact .inl a4
     ·exact .inr ⟨cp, by rw [hd65]; exact a4⟩
 ·obtain ⟨okA, e | ⟨cap, e1, e2, e3, e4⟩⟩ := hs
  ·exact ⟨okA, .inl e⟩
  ·exact ⟨okA, .inr ⟨cap, by rw [hd62]; exact e1, by rw [hC62]; exact e4⟩⟩
 ·show (if _ then _ else _) = _
  rw [if_neg (by simp [c1]), if_neg (by simp [c2]), if_neg (by simp [c3])]
theorem Pa.of {d d' : Rl → Nat} {C C' : Rl → Option ABlk} {ps : Value} {As : List (List (List Int))} (p : Pa d C ps As) (hx : ∀ a b, a = 64 ∨ a = 65 → d' (a, b) = d (a, b) ∧ C' (a, b) = C (a, b)) : Pa d' C' ps As := by
 obtain ⟨cap, vs, e1, e2, e3, e4⟩ := p.out
 refine ⟨cap, vs, by rw [(hx 64 0 (.inl rfl)).1]; exact e1, by rw [(hx 64 0 (.inl rfl)).2]; exact e2, e3, fun i A hA => ?_⟩
 obtain ⟨a1, a2, a3⟩ := e4 i A hA
 refine ⟨a1, by rw [(hx 65 i (.inr rfl)).2]; exact a2, ?_⟩
 rw [(hx 65 i (.inr rfl)).1]; exact a3
theorem shr_bit {x v : Nat} (hv : v < 64) : ((x : Int).fdiv (2 ^ min v 64)).tmod 2 = if x.testBit v = true then 1 else 0 := by
 have e1 : (x : Int).fdiv (2 ^ min v 64) = ((x / 2 ^ v : Nat) : Int) := by
  rw [show min v 64 = v by omega]
  have e2 : (2 : Int) ^ v = ((2 ^ v : Nat) : Int) := by norm_cast
  rw [e2]
  exact Int.fdiv_eq_ediv_of_nonneg _ (Int.natCast_nonneg _)
 rw [e1, Nat.testBit_eq_decide_div_mod_eq]
 show (((x / 2 ^ v) % 2 : Nat) : Int) = _
 have := Nat.mod_lt (x / 2 ^ v) (show 0 < 2 by omega)
 by_cases c : x / 2 ^ v % 2 = 1
 ·rw [c]; rfl
 ·have c0 : x / 2 ^ v % 2 = 0 := by omega
  rw [c0]; rfl
set_option maxRecDepth 100000 in
set_option maxHeartbeats 8000000 in
theorem graceL {As : List (List (List Int))} (K : Kit e As.length rep hasv guard fresh pcE pcW kd nb nw s0 xp) {x q : Nat} {b : Int} (hkd : x % 3 + 1 = kd) (hnb : if kd = 3 then (1 + (b.tmod 4 + 4).tmod 4 : Int) = nb else nb = 0) {ps s : Value} {A : List (List Int)} {d : Rl → Nat} {C : Rl → Option ABlk} {h : PT ABlk} {n : Nat} (S : St h n d C) (hPs : IsRows2 ksR h q ps As) (P : Pa d C ps As) (hA : IsPicks d C s A) (hA0 : 0 < As.length) (c20 : C (20, 0) = none) (c8 : C (98, 0) = none) (c9 : C (99, 0) = none) :
  EvB Tryz.prog OP 3 [.agg ⟨[U8 x, I6 b]⟩, ps, s] h n fun v h' n' => v = .bool true := by
 obtain ⟨x0, cap, hs'⟩ : ∃ x0 cap, s = .slice x0 A.length cap := by
  rcases hA.2 with ⟨rfl, rfl⟩ | ⟨cap, rfl, _⟩
  ·exact ⟨_, _, rfl⟩
  ·exact ⟨_, _, rfl⟩
 obtain ⟨xp0, cp, hps⟩ : ∃ x0 cap, ps = .slice x0 As.length cap := by
  obtain ⟨cap, vs, rfl, -⟩ := P.out
  exact ⟨_, _, rfl⟩
 subst hs' hps
 have hPk : IsRows2 ksR (h.set n (some (.cells (PT.ofList .leaf 0 [U8 x, I6 b]) false))) q (.slice xp0 As.length cp) As := hPs.keep (Kept.set' S.wf (Nat.le_refl _) (Kept.refl _))
 have hA1 : ¬ (As.length : Int) < 1 := by omega
 have en := shortB (x := x0) (pk := A.length) (cap := cap) hPk rfl (n := n + 1)
 refine EvB_run (N := 150) Tryz.func3 rfl rfl fun z hP hO hro hN hQ => ?_
 repeat' first | simp (maxSteps := 2000000) (disch := first | omega | assumption) only [go_sem, *] | (apply xs <;> intro _) <;> try omega
 refine cal (en) (by simp only [*]) (by simp only [*]) (by simp only [go_sem, *]) (by simp only [go_sem, *]) ?_
 rintro v h1 n1 ⟨sb, rfl, rfl, rfl, hsh⟩
 clear en
 cases sb with
 | false => repeat' first | simp (maxSteps := 2000000) (disch := first | omega | assumption) only [go_sem, *] | (apply xs <;> intro _) <;> try omega
 | true =>
  obtain ⟨l8, l500, l30⟩ := hsh rfl
  clear hsh
  repeat' first | simp (maxSteps := 2000000) (disch := first | omega | assumption) only [go_sem, *] | (apply xs <;> intro _) <;> try omega
  have S1 := S.junk (B := some (.cells (PT.ofList .leaf 0 [U8 x, I6 b]) false)) (Nat.le_refl _) (Nat.lt_succ_self _)
  have hok := opsOf_ok P l30
  have Q0 : RInv (opsOf As) xp hasv fresh As.length (RS.begs (opsOf As) xp (RS.zero s0) As.length) ∧ EI As.length guard (opsOf As) (RS.begs (opsOf As) xp (RS.zero s0) As.length) := ⟨(begs_inv K.G K.Fe K.B.idle _).1, EI.begs K.G K.Fe K.B.idle _⟩
  have mk := madeB K (fun r => RInv (opsOf As) xp hasv fresh As.length r ∧ EI As.length guard (opsOf As) r) (fun r t ht q => ⟨q.1, q.1.pick K.G K.Fe ht (xp_ok K), q.2.pick K.G K.Fe (fun u hu o ho => ((hok u hu).2 o ho).2) q.1 ht (xp_ok K)⟩) Q0 hkd hnb S1 P hA ⟨hA0, l8⟩ l30 l500 c20 c8 c9
  refine cal (mk) (by simp only [*]) (by simp only [*]) (by simp only [go_sem, *]) (by simp only [go_sem, *]) ?_
  rintro v h2 n2 ⟨r, k, d2, C2, rfl, g, ⟨-, ei⟩, hoth⟩
  have ends := ei.done
  clear mk Q0 S1 ei hPk
  repeat' first | simp (maxSteps := 2000000) (disch := first | omega | assumption) only [go_sem, *] | (apply xs <;> intro _) <;> try omega
  have hev := g.ev
  have en := eventsB g.S g.R (by omega)
  refine cal (en) (by simp only [*]) (by simp only [*]) (by simp only [go_sem, *]) (by simp only [go_sem, *]) ?_
  rintro v h3 n3 ⟨d3, C3, rfl, S3, h66, -⟩
  generalize r.ev = l at *
  clear en g hoth
  clear P hPs hA K
  by_cases hl0 : l = []
  ·rw [if_pos hl0]
   clear ends h66
   repeat' first | simp (maxSteps := 2000000) (disch := first | omega | assumption) only [go_sem, *] | (apply xs <;> intro _) <;> try omega
   rw [EvK_loop]
   repeat' first | simp (maxSteps := 2000000) (disch := first | omega | assumption) only [go_sem, *, trueS] | (apply xs <;> intro _) <;> try omega
  ·rw [if_neg hl0]
   have g66 := S3.at (h66 hl0)
   have hEl := evL_length l
   clear S3 h66 hl0
   generalize d3 (66, 0) = eb at *
   repeat' first | simp (maxSteps := 2000000) (disch := first | omega | assumption) only [go_sem, *] | (apply xs <;> intro _) <;> try omega
   refine ind_loop (fun t m h' n' => ∃ i : Nat, i ≤ l.length ∧ t = l.length - i ∧ m.n = 150 ∧ m.dfs = [] ∧ m.get 8 = .slice (some ⟨eb, 0, none⟩) l.length (capInf + 4) ∧ m.get 9 = I6 i ∧ h3 = h' ∧ n3 = n') l.length ?_ ?_
   ·refine ⟨0, by omega, by omega, ?_⟩
    simp (maxSteps := 2000000) (disch := first | omega | assumption) only [go_sem, *]
   ·rintro t m h' n' ih ⟨i, hi, rfl, m1, m2, m3, m4, rfl, rfl⟩
    rcases Nat.lt_or_ge i l.length with hlt | hge
    ·have e7 : (i : Int) < l.length := by omega
     have hci : ((i + 1 : Nat) : Int) = (i : Int) + 1 := by omega
     obtain ⟨zi, hzi⟩ : ∃ z, l[i]? = some z := ⟨l[i], List.getElem?_eq_getElem hlt⟩
     obtain ⟨-, ri1, ri2, ri3⟩ := evL_get hzi
     have en := ends i zi hzi
     by_cases h4 : zi.2.2.1 = 4
     ·obtain ⟨fr, y, lwi, hval, hall⟩ := en h4
      have hlast := lw_last lwi
      obtain ⟨f1, f2, f3, f4, -⟩ := lwi
      obtain ⟨-, ry1, ry2, ry3⟩ := evL_get f2
      rw [h4] at ri2
      rw [hval] at ry3
      have z4 : ((4 : Nat) : Int) = 4 := rfl
      rw [z4] at ri2
      clear en f2 f3 f4 hval z4 ry1 ry2 h4
      repeat' first | simp (maxSteps := 2000000) (disch := first | omega | assumption) only [go_sem, *] | (apply xs <;> intro _) <;> try omega
      generalize zi.2.1 = ti at *
      generalize zi.2.2.2 = si at *
      refine ind_loop (fun t m h' n' => ∃ k : Nat, k ≤ i ∧ t = i - k ∧ m.n = 150 ∧ m.dfs = [] ∧ m.get 8 = .slice (some ⟨eb, 0, none⟩) l.length (capInf + 4) ∧ m.get 9 = I6 i ∧ m.get 10 = I6 (lw l ti k) ∧ m.get 11 = I6 k ∧ h3 = h' ∧ n3 = n') i ?_ ?_
      ·refine ⟨0, by omega, by omega, ?_⟩
       have e0 : lw l ti 0 = -1 := rfl
       rw [e0]
       clear ih hall
       simp (maxSteps := 2000000) (disch := first | omega | assumption) only [go_sem, *]
      ·clear m1 m2 m3 m4
       rintro t m h' n' ih2 ⟨k, hk, rfl, m1, m2, m3, m4, m5, m6, rfl, rfl⟩
       rcases Nat.lt_or_ge k i with hlt2 | hge2
       ·have e8 : (k : Int) < i := by omega
        have e9 : (k : Int) < l.length := by omega
        have hci : ((k + 1 : Nat) : Int) = (k : Int) + 1 := by omega
        obtain ⟨zk, hzk⟩ : ∃ z, l[k]? = some z := ⟨l[k], List.getElem?_eq_getElem (by omega)⟩
        obtain ⟨-, rk1, rk2, -⟩ := evL_get hzk
        have st := lw_step (t := ti) hzk
        generalize zk.2.1 = tk at *
        generalize zk.2.2.1 = kk at *
        generalize lw l ti k = wk at *
        clear hall hzk hlast f1
        by_cases c1 : tk = ti
        ·subst c1
         by_cases c2 : kk = 3
         ·subst c2
          have z3 : ((3 : Nat) : Int) = 3 := rfl
          rw [z3] at rk2
          rw [if_pos ⟨rfl, rfl⟩] at st
          clear z3
          repeat' first | simp (maxSteps := 2000000) (disch := first | omega | assumption) only [go_sem, *] | (apply xs <;> intro _) <;> try omega | ((with_reducible refine isD 15 ?_); refine dw 150 15 w3_15 (by first | (simp only [go_sem, *]; done) | rfl) (by kernel_rfl) (by kernel_rfl) ?_)
          refine ih2 (i - (k + 1)) _ _ _ (by omega) ⟨k + 1, by omega, rfl, ?_⟩
          rw [hci, st]
          clear ih ih2
          simp (maxSteps := 2000000) (disch := first | omega | assumption) only [go_sem, *]
         ·rw [if_neg (fun q => c2 q.2)] at st
          have c2' : ¬ (kk : Int) = 3 := by omega
          repeat' first | simp (maxSteps := 2000000) (disch := first | omega | assumption) only [go_sem, *] | (apply xs <;> intro _) <;> try omega | ((with_reducible refine isD 15 ?_); refine dw 150 15 w3_15 (by first | (simp only [go_sem, *]; done) | rfl) (by kernel_rfl) (by kernel_rfl) ?_)
          refine ih2 (i - (k + 1)) _ _ _ (by omega) ⟨k + 1, by omega, rfl, ?_⟩
          rw [hci, st]
          clear ih ih2
          simp (maxSteps := 2000000) (disch := first | omega | assumption) only [go_sem, *]
        ·rw [if_neg (fun q => c1 q.1)] at st
         have c1' : ¬ (tk : Int) = ti := by omega
         repeat' first | simp (maxSteps := 2000000) (disch := first | omega | assumption) only [go_sem, *] | (apply xs <;> intro _) <;> try omega | ((with_reducible refine isD 15 ?_); refine dw 150 15 w3_15 (by first | (simp only [go_sem, *]; done) | rfl) (by kernel_rfl) (by kernel_rfl) ?_)
         refine ih2 (i - (k + 1)) _ _ _ (by omega) ⟨k + 1, by omega, rfl, ?_⟩
         rw [hci, st]
         clear ih ih2
         simp (maxSteps := 2000000) (disch := first | omega | assumption) only [go_sem, *]
       ·obtain rfl : k = i := by omega
        have e8 : ¬ (k : Int) < k := by omega
        have e9 : ¬ (fr : Int) < 0 := by omega
        have e10 : (fr : Int) < l.length := by omega
        rw [hlast] at m5
        clear ih2 hlast hci
        repeat' first | simp (maxSteps := 2000000) (disch := first | omega | assumption) only [go_sem, *] | (apply xs <;> intro _) <;> try omega | ((with_reducible refine isD 17 ?_); refine dw 150 17 w3_17 (by first | (simp only [go_sem, *]; done) | rfl) (by kernel_rfl) (by kernel_rfl) ?_)
        refine ind_loop (fun t m h' n' => ∃ w : Nat, w ≤ fr ∧ t = fr - w ∧ m.n = 150 ∧ m.dfs = [] ∧ m.get 8 = .slice (some ⟨eb, 0, none⟩) l.length (capInf + 4) ∧ m.get 9 = I6 k ∧ m.get 10 = I6 fr ∧ m.get 12 = I6 w ∧ h3 = h' ∧ n3 = n') fr ?_ ?_
        ·refine ⟨0, by omega, by omega, ?_⟩
         clear ih hall
         simp (maxSteps := 2000000) (disch := first | omega | assumption) only [go_sem, *]
        ·clear m1 m2 m3 m4 m5 m6 ry3
         rintro t m h' n' ih3 ⟨w, hw, rfl, m1, m2, m3, m4, m5, m6, rfl, rfl⟩
         rcases Nat.lt_or_ge w fr with hlt3 | hge3
         ·have d8 : (w : Int) < fr := by omega
          have d9 : (w : Int) < l.length := by omega
          have hci : ((w + 1 : Nat) : Int) = (w : Int) + 1 := by omega
          obtain ⟨zw, hzw⟩ : ∃ z, l[w]? = some z := ⟨l[w], List.getElem?_eq_getElem (by omega)⟩
          obtain ⟨-, rw1, rw2, rw3⟩ := evL_get hzw
          have hlw := hall w zw hlt3 hzw
          generalize zw.2.1 = tw at *
          generalize zw.2.2.1 = kw at *
          generalize zw.2.2.2 = vw at *
          by_cases c1 : kw = 1
          ·subst c1
           have z1 : ((1 : Nat) : Int) = 1 := rfl
           rw [z1] at rw2
           by_cases c2 : vw < 64
           ·have c2' : ¬ (64 : Int) ≤ vw := by omega
            have hb0 : decide ((vw : Int) < 0) = false := by simp
            have hsb := shr_bit (x := si) c2
            clear z1 hall
            by_cases hbit : si.testBit vw = true
            ·rw [if_pos hbit] at hsb
             have hleft := lf_left (hlw rfl c2 hbit)
             clear hlw hbit
             repeat' first | simp (maxSteps := 2000000) (disch := first | omega | assumption) only [go_sem, *] | (apply xs <;> intro _) <;> try omega | ((with_reducible refine isD 22 ?_); refine dw 150 22 w3_22 (by first | (simp only [go_sem, *]; done) | rfl) (by kernel_rfl) (by kernel_rfl) ?_)
             refine ind_loop (fun t m h' n' => ∃ j : Nat, w < j ∧ j ≤ k ∧ t = k - j ∧ m.n = 150 ∧ m.dfs = [] ∧ m.get 8 = .slice (some ⟨eb, 0, none⟩) l.length (capInf + 4) ∧ m.get 9 = I6 k ∧ m.get 10 = I6 fr ∧ m.get 12 = I6 w ∧ m.get 13 = .bool (lf l tw w j) ∧ m.get 14 = I6 j ∧ h3 = h' ∧ n3 = n') (k - (w + 1)) ?_ ?_
             ·refine ⟨w + 1, by omega, by omega, by omega, ?_⟩
              rw [hci, lf_zero]
              clear ih ih3 hleft
              simp (maxSteps := 2000000) (disch := first | omega | assumption) only [go_sem, *]
             ·clear m1 m2 m3 m4 m5 m6 rw2 rw3 hsb hb0
              rintro t m h' n' ih4 ⟨j, hj1, hj2, rfl, m1, m2, m3, m4, m5, m6, m7, m8, rfl, rfl⟩
              rcases Nat.lt_or_ge j k with hlt4 | hge4
              ·have j8 : (j : Int) < k := by omega
               have j9 : (j : Int) < l.length := by omega
               have hcj : ((j + 1 : Nat) : Int) = (j : Int) + 1 := by omega
               obtain ⟨zj, hzj⟩ : ∃ z, l[j]? = some z := ⟨l[j], List.getElem?_eq_getElem (by omega)⟩
               obtain ⟨-, rj1, rj2, -⟩ := evL_get hzj
               have st := lf_step (t := tw) hj1 hzj
               generalize zj.2.1 = tj at *
               generalize zj.2.2.1 = kj at *
               generalize lf l tw w j = bj at *
               clear hzj hleft
               cases bj with
               | true =>
                rw [Bool.true_or] at st
                repeat' first | simp (maxSteps := 2000000) (disch := first | omega | assumption) only [go_sem, *] | (apply xs <;> intro _) <;> try omega | ((with_reducible refine isD 27 ?_); refine dw 150 27 w3_27 (by first | (simp only [go_sem, *]; done) | rfl) (by kernel_rfl) (by kernel_rfl) ?_)
                refine ih4 (k - (j + 1)) _ _ _ (by omega) ⟨j + 1, by omega, by omega, rfl, ?_⟩
                rw [hcj, st]
                clear ih ih3 ih4
                simp (maxSteps := 2000000) (disch := first | omega | assumption) only [go_sem, *]
               | false =>
                rw [Bool.false_or] at st
                by_cases c3 : kj = 2
                ·subst c3
                 have z2 : ((2 : Nat) : Int) = 2 := rfl
                 rw [z2] at rj2
                 clear z2
                 by_cases c4 : tj = tw
                 ·subst c4
                  rw [decide_eq_true ⟨rfl, rfl⟩] at st
                  repeat' first | simp (maxSteps := 2000000) (disch := first | omega | assumption) only [go_sem, *] | (apply xs <;> intro _) <;> try omega | ((with_reducible refine isD 27 ?_); refine dw 150 27 w3_27 (by first | (simp only [go_sem, *]; done) | rfl) (by kernel_rfl) (by kernel_rfl) ?_)
                  refine ih4 (k - (j + 1)) _ _ _ (by omega) ⟨j + 1, by omega, by omega, rfl, ?_⟩
                  rw [hcj, st]
                  clear ih ih3 ih4
                  simp (maxSteps := 2000000) (disch := first | omega | assumption) only [go_sem, *]
                 ·rw [decide_eq_false (fun q => c4 q.2)] at st
                  have c4' : ¬ (tj : Int) = tw := by omega
                  repeat' first | simp (maxSteps := 2000000) (disch := first | omega | assumption) only [go_sem, *] | (apply xs <;> intro _) <;> try omega | ((with_reducible refine isD 27 ?_); refine dw 150 27 w3_27 (by first | (simp only [go_sem, *]; done) | rfl) (by kernel_rfl) (by kernel_rfl) ?_)
                  refine ih4 (k - (j + 1)) _ _ _ (by omega) ⟨j + 1, by omega, by omega, rfl, ?_⟩
                  rw [hcj, st]
                  clear ih ih3 ih4
                  simp (maxSteps := 2000000) (disch := first | omega | assumption) only [go_sem, *]
                ·rw [decide_eq_false (fun q => c3 q.1)] at st
                 have c3' : ¬ (kj : Int) = 2 := by omega
                 repeat' first | simp (maxSteps := 2000000) (disch := first | omega | assumption) only [go_sem, *] | (apply xs <;> intro _) <;> try omega | ((with_reducible refine isD 27 ?_); refine dw 150 27 w3_27 (by first | (simp only [go_sem, *]; done) | rfl) (by kernel_rfl) (by kernel_rfl) ?_)
                 refine ih4 (k - (j + 1)) _ _ _ (by omega) ⟨j + 1, by omega, by omega, rfl, ?_⟩
                 rw [hcj, st]
                 clear ih ih3 ih4
                 simp (maxSteps := 2000000) (disch := first | omega | assumption) only [go_sem, *]
              ·obtain rfl : j = k := by omega
               have j8 : ¬ (j : Int) < j := by omega
               rw [hleft] at m7
               clear ih4
               repeat' first | simp (maxSteps := 2000000) (disch := first | omega | assumption) only [go_sem, *] | (apply xs <;> intro _) <;> try omega
               refine ih3 (fr - (w + 1)) _ _ _ (by omega) ⟨w + 1, by omega, rfl, ?_⟩
               rw [hci]
               clear ih ih3
               simp (maxSteps := 2000000) (disch := first | omega | assumption) only [go_sem, *]
            ·rw [if_neg hbit] at hsb
             clear hlw hbit
             repeat' first | simp (maxSteps := 2000000) (disch := first | omega | assumption) only [go_sem, *] | (apply xs <;> intro _) <;> try omega | ((with_reducible refine isD 22 ?_); refine dw 150 22 w3_22 (by first | (simp only [go_sem, *]; done) | rfl) (by kernel_rfl) (by kernel_rfl) ?_)
             refine ih3 (fr - (w + 1)) _ _ _ (by omega) ⟨w + 1, by omega, rfl, ?_⟩
             rw [hci]
             clear ih ih3
             simp (maxSteps := 2000000) (disch := first | omega | assumption) only [go_sem, *]
           ·have c2' : (64 : Int) ≤ vw := by omega
            clear hlw z1 hall
            repeat' first | simp (maxSteps := 2000000) (disch := first | omega | assumption) only [go_sem, *] | (apply xs <;> intro _) <;> try omega | ((with_reducible refine isD 22 ?_); refine dw 150 22 w3_22 (by first | (simp only [go_sem, *]; done) | rfl) (by kernel_rfl) (by kernel_rfl) ?_)
            refine ih3 (fr - (w + 1)) _ _ _ (by omega) ⟨w + 1, by omega, rfl, ?_⟩
            rw [hci]
            clear ih ih3
            simp (maxSteps := 2000000) (disch := first | omega | assumption) only [go_sem, *]
          ·have c1' : ¬ (kw : Int) = 1 := by omega
           clear hlw hall
           repeat' first | simp (maxSteps := 2000000) (disch := first | omega | assumption) only [go_sem, *] | (apply xs <;> intro _) <;> try omega | ((with_reducible refine isD 22 ?_); refine dw 150 22 w3_22 (by first | (simp only [go_sem, *]; done) | rfl) (by kernel_rfl) (by kernel_rfl) ?_)
           refine ih3 (fr - (w + 1)) _ _ _ (by omega) ⟨w + 1, by omega, rfl, ?_⟩
           rw [hci]
           clear ih ih3
           simp (maxSteps := 2000000) (disch := first | omega | assumption) only [go_sem, *]
         ·have d8 : ¬ (w : Int) < fr := by omega
          have hci : ((k + 1 : Nat) : Int) = (k : Int) + 1 := by omega
          clear ih3 hall
          repeat' first | simp (maxSteps := 2000000) (disch := first | omega | assumption) only [go_sem, *] | (apply xs <;> intro _) <;> try omega
          refine ih (l.length - (k + 1)) _ _ _ (by omega) ⟨k + 1, by omega, rfl, ?_⟩
          rw [hci]
          clear ih
          simp (maxSteps := 2000000) (disch := first | omega | assumption) only [go_sem, *]
     ·have h4' : ¬ (zi.2.2.1 : Int) = 4 := by omega
      clear en h4 hzi
      repeat' first | simp (maxSteps := 2000000) (disch := first | omega | assumption) only [go_sem, *] | (apply xs <;> intro _) <;> try omega
      refine ih (l.length - (i + 1)) _ _ _ (by omega) ⟨i + 1, by omega, rfl, ?_⟩
      rw [hci]
      clear ih
      simp (maxSteps := 2000000) (disch := first | omega | assumption) only [go_sem, *]
    ·have e7 : ¬ (i : Int) < l.length := by omega
     clear ih ends
     repeat' first | simp (maxSteps := 2000000) (disch := first | omega | assumption) only [go_sem, *, trueS] | (apply xs <;> intro _) <;> try omega
end Go.Proofs.YtbceiadaihphaaaGreat
set_option linter.unusedVariables false
set_option linter.unusedSimpArgs false
namespace Go.Proofs.YtbceiadaihphaaaGreat
open Go.Am
set_option maxRecDepth 100000 in
set_option maxHeartbeats 4000000 in
theorem graceZ {x q : Nat} {b : Int} {ps s : Value} {A : List (List Int)} {h : PT ABlk} {n : Nat} (hW : WfH h n) (hPs : IsRows2 ksR h q ps []) {x0 : Option Addr} {cap : Nat} (hs' : s = .slice x0 A.length cap) :
  EvB Tryz.prog OP 3 [.agg ⟨[U8 x, I6 b]⟩, ps, s] h n fun v h' n' => v = .bool true := by
 subst hs'
 obtain ⟨xp0, cp, hps⟩ : ∃ x0 cap, ps = .slice x0 0 cap := by
  rcases hPs with ⟨rfl, -⟩ | ⟨cap, vs, rfl, -⟩
  ·exact ⟨_, _, rfl⟩
  ·exact ⟨_, _, rfl⟩
 subst hps
 have hPk : IsRows2 ksR (h.set n (some (.cells (PT.ofList .leaf 0 [U8 x, I6 b]) false))) q (.slice xp0 0 cp) [] := hPs.keep (Kept.set' hW (Nat.le_refl _) (Kept.refl _))
 have en := shortB (x := x0) (pk := A.length) (cap := cap) hPk rfl (n := n + 1)
 refine EvB_run (N := 150) Tryz.func3 rfl rfl fun z hP hO hro hN hQ => ?_
 repeat' first | simp (maxSteps := 2000000) (disch := first | omega | assumption) only [go_sem, *] | (apply xs <;> intro _) <;> try omega
 refine cal (en) (by simp only [*]) (by simp only [*]) (by simp only [go_sem, *]) (by simp only [go_sem, *]) ?_
 rintro v h1 n1 ⟨sb, rfl, rfl, rfl, hsh⟩
 clear en hsh
 cases sb with
 | false => repeat' first | simp (maxSteps := 2000000) (disch := first | omega | assumption) only [go_sem, *] | (apply xs <;> intro _) <;> try omega
 | true => repeat' first | simp (maxSteps := 2000000) (disch := first | omega | assumption) only [go_sem, *] | (apply xs <;> intro _) <;> try omega
set_option maxRecDepth 100000 in
set_option maxHeartbeats 4000000 in
theorem graceM {x q : Nat} {b : Int} {ps s : Value} {As : List (List (List Int))} {A : List (List Int)} (h8 : 8 < As.length) {h : PT ABlk} {n : Nat} (hW : WfH h n) (hPs : IsRows2 ksR h q ps As) {x0 : Option Addr} {cap : Nat} (hs' : s = .slice x0 A.length cap) :
  EvB Tryz.prog OP 3 [.agg ⟨[U8 x, I6 b]⟩, ps, s] h n fun v h' n' => v = .bool true := by
 subst hs'
 obtain ⟨xp0, cp, hps⟩ : ∃ x0 cap, ps = .slice x0 As.length cap := by
  rcases hPs with ⟨rfl, rfl⟩ | ⟨cap, vs, rfl, -⟩
  ·simp at h8
  ·exact ⟨_, _, rfl⟩
 subst hps
 have hPk : IsRows2 ksR (h.set n (some (.cells (PT.ofList .leaf 0 [U8 x, I6 b]) false))) q (.slice xp0 As.length cp) As := hPs.keep (Kept.set' hW (Nat.le_refl _) (Kept.refl _))
 have en := shortB (x := x0) (pk := A.length) (cap := cap) hPk rfl (n := n + 1)
 refine EvB_run (N := 150) Tryz.func3 rfl rfl fun z hP hO hro hN hQ => ?_
 repeat' first | simp (maxSteps := 2000000) (disch := first | omega | assumption) only [go_sem, *] | (apply xs <;> intro _) <;> try omega
 refine cal (en) (by simp only [*]) (by simp only [*]) (by simp only [go_sem, *]) (by simp only [go_sem, *]) ?_
 rintro v h1 n1 ⟨sb, rfl, rfl, rfl, hsh⟩
 clear en
 cases sb with
 | false => repeat' first | simp (maxSteps := 2000000) (disch := first | omega | assumption) only [go_sem, *] | (apply xs <;> intro _) <;> try omega
 | true => have := (hsh rfl).1; omega
theorem rigGrace (x : Nat) (b : Int) (ps s : Value) (As : List (List (List Int))) (A : List (List Int)) (q q2 : Nat) (h : PT ABlk) (N : Nat) (hW : WfH h N) (hP : IsRows2 ksR h q ps As) (hs : IsRows ksI h q2 s A) (hq : 0 < As.length → q + As.length < q2) :
  EvB Tryz.prog OP 3 [.agg ⟨[U8 x, I6 b]⟩, ps, s] h N fun v h' n' => v = .bool true := by
 obtain ⟨d, C, S, hPa, hA, hn⟩ := startR hW hP hs hq
 by_cases h0 : As.length = 0
 ·obtain rfl := List.eq_nil_of_length_eq_zero h0
  obtain ⟨x0, cap, hs'⟩ : ∃ x0 cap, s = .slice x0 A.length cap := by
   rcases hA.2 with ⟨rfl, rfl⟩ | ⟨cap, rfl, _⟩
   ·exact ⟨_, _, rfl⟩
   ·exact ⟨_, _, rfl⟩
  exact graceZ hW hP hs'
 have h1 : 0 < As.length := by omega
 by_cases h65 : 64 < As.length
 ·-- too many programs
  obtain ⟨x0, cap, hs'⟩ : ∃ x0 cap, s = .slice x0 A.length cap := by
   rcases hA.2 with ⟨rfl, rfl⟩ | ⟨cap, rfl, _⟩
   ·exact ⟨_, _, rfl⟩
   ·exact ⟨_, _, rfl⟩
  exact graceM (by omega) hW hP hs'
 have hns : 0 < As.length ∧ As.length ≤ 64 := by omega
 have hj : x % 3 = 0 ∨ x % 3 = 1 ∨ x % 3 = 2 := by omega
 rcases hj with hj | hj | hj
 ·exact graceL (kitF hns) (by omega) (by rw [if_neg (by omega)]) S hP (hPa h1) hA h1 (hn 20 0 (by omega) (by omega) (by omega)) (hn 98 0 (by omega) (by omega) (by omega)) (hn 99 0 (by omega) (by omega) (by omega))
 ·exact graceL (kitE hns) (by omega) (by rw [if_neg (by omega)]) S hP (hPa h1) hA h1 (hn 20 0 (by omega) (by omega) (by omega)) (hn 98 0 (by omega) (by omega) (by omega)) (hn 99 0 (by omega) (by omega) (by omega))
 ·have b3 := Int.tmod_lt_of_pos (b.tmod 4 + 4) (show (0 : Int) < 4 by omega)
  have b2 := Int.lt_tmod_of_pos b (show (0 : Int) < 4 by omega)
  have b4 := Int.tmod_nonneg 4 (show 0 ≤ b.tmod 4 + 4 by omega)
  obtain ⟨nb, hnb⟩ : ∃ nb : Nat, (1 + (b.tmod 4 + 4).tmod 4 : Int) = nb := ⟨(1 + (b.tmod 4 + 4).tmod 4).toNat, by omega⟩
  exact graceL (kitG (nb := nb) hns (by omega)) (by omega) (by rw [if_pos rfl]; exact hnb) S hP (hPa h1) hA h1 (hn 20 0 (by omega) (by omega) (by omega)) (hn 98 0 (by omega) (by omega) (by omega)) (hn 99 0 (by omega) (by omega) (by omega))
end Go.Proofs.YtbceiadaihphaaaGreat
