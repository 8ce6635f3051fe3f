/-
  A part of the proof: contracts of inner functions.
-/
import Derived.Test.YtbceiadaihphaaaGreatRX8
set_option linter.unusedVariables false
set_option linter.unusedSimpArgs false
namespace Go.Proofs.YtbceiadaihphaaaGreat
open Go.Am
variable {e : Eng} {rep : e.σ → Nat → (Rl → Nat) → (Rl → Option ABlk) → Prop}
set_option maxRecDepth 100000 in
set_option maxHeartbeats 2000000 in
theorem rbegN {ns : Nat} (hns : 0 < ns ∧ ns ≤ 64) (F : Face e ns rep) (fit : e.Fits) {kd xp : Nat} (hkind : ∀ {s k d C}, rep s k d C → ∃ x z, C (4, 0) = row [x, U8 kd, z]) (hxp : xp = if kd = 3 then 16 else 13) {h : PT ABlk} {n k t : Nat} {d : Rl → Nat} {C : Rl → Option ABlk} {ops : Ops} {f : Nat → Value} {r : RS e} (ok : OpsOk ops ns) (S : St h n d C) (R : RepR rep ops ns f r k d C) (hf : Hole ops ns t d r f) (ht : t < ns) (he : e.ent r.s t = false) (hw : e.wt r.s t = false) (hi : r.idx t ≤ (ops t).length) (hk : k ≤ 90000) (ho : (ops t)[r.idx t]? = none) :
  EvB Tryz.prog OP 29 [pt (d (40, 0)), I6 t] h n fun v h' n' => v = tup [] ∧ ROut rep ops ns (RS.beg ops xp r t) k d C h' n' := by
 have g40 := S.at R.mach
 have g41 := S.at R.thr
 have g44 := S.at R.kinds
 have n40 := S.lt R.mach
 have n41 := S.lt R.thr
 have n44 := S.lt R.kinds
 have d1 := S.df R.mach R.thr (by simp)
 have d2 := S.df R.thr R.kinds (by simp)
 have t1 : (t : Int) < ns := by omega
 obtain ⟨hns1, hns2⟩ := hns
 have hf0 := hf
 obtain ⟨hf1, hf2⟩ := hf
 have f0 := hf2 0 (by omega) (by omega) (by omega) (by omega)
 have f1 := hf2 1 (by omega) (by omega) (by omega) (by omega)
 have f6 := hf2 6 (by omega) (by omega) (by omega) (by omega)
 simp only [tfld] at f0 f1 f6
 simp only [mrow] at g40
 rw [Nat.add_zero] at f0
 have hlen : r.idx t = (ops t).length := by
  have := List.getElem?_eq_none_iff.1 ho
  omega
 have hb : RS.beg ops xp r t = { r with pc := fs r.pc t 0 } := by unfold RS.beg; rw [ho]
 rw [hb]
 obtain ⟨p, cp, f0'⟩ : ∃ p cp, f (t * 8) = .slice p (ops t).length cp := by
  rw [f0]; by_cases c : ops t = []
  ·rw [if_pos c, c]; exact ⟨_, _, rfl⟩
  ·rw [if_neg c]; exact ⟨_, _, rfl⟩
 rw [hlen] at f1
 clear f0 ho hlen hi hf1 hf2 hb
 refine EvB_run (N := 73) Tryz.func29 rfl rfl fun z hP hO hro hN hQ => ?_
 repeat' first | simp (maxSteps := 2000000) (disch := first | omega | assumption) only [go_sem, *] | (apply xs <;> intro _) <;> try omega | ((with_reducible refine isD 2 ?_); refine dw 73 2 w29_2 (by first | (simp only [go_sem, *]; done) | rfl) (by kernel_rfl) (by kernel_rfl) ?_) | refine fun (_ _ : List Nat) => ?_
 obtain ⟨q1, q2⟩ := hf0
 have e0 := q2 0 (by omega) (by omega) (by omega) (by omega)
 have e1 := q2 1 (by omega) (by omega) (by omega) (by omega)
 have e5 := q2 5 (by omega) (by omega) (by omega) (by omega)
 have e6 := q2 6 (by omega) (by omega) (by omega) (by omega)
 have e7 := q2 7 (by omega) (by omega) (by omega) (by omega)
 simp only [tfld, Nat.add_zero] at e0 e1 e5 e6 e7
 refine ⟨rfl, ROut.of (t := t) R (((S.set (41, 0) _ R.thr rfl).set (41, 0) _ upd_same rfl).set (41, 0) _ upd_same rfl) (F.cliC (F.cliC (F.cliC R.rep (by omega)) (by omega)) (by omega)) (fun a b _ c => ⟨rfl, by simp (disch := first | decide | assumption | omega) only [rM, rW, rL, upd_same, upd_tag, upd_num, memC_ne]⟩) rfl rfl rfl upd_same ?_ rfl rfl⟩
 refine thr_of (f := f) (d := d) (r := r) ht (fun u j hu cu hj => tfld_oth (Fr.rfl (C := C)) cu rfl rfl rfl rfl (fs_ne cu) rfl rfl) q1 (fun i hi => by simp only [fs_ne (hi 2 (by omega)), fs_ne (hi 3 (by omega)), fs_ne (hi 4 (by omega)), fs_ne (hi 5 (by omega)), fs_ne (hi 7 (by omega))]) (case8 ?_ ?_ ?_ ?_ ?_ ?_ ?_ ?_) <;> (simp (disch := omega) only [fs_off, fs_same, tfld, Nat.add_zero, e0, e1, e5, e6, e7, he, hw, Bool.false_eq_true, if_false, if_true]) <;> rfl
end Go.Proofs.YtbceiadaihphaaaGreat
set_option linter.unusedVariables false
set_option linter.unusedSimpArgs false
namespace Go.Proofs.YtbceiadaihphaaaGreat
open Go.Am
variable {e : Eng} {rep : e.σ → Nat → (Rl → Nat) → (Rl → Option ABlk) → Prop}
set_option maxRecDepth 100000 in
set_option maxHeartbeats 2000000 in
theorem rbegE {ns : Nat} (hns : 0 < ns ∧ ns ≤ 64) (F : Face e ns rep) (fit : e.Fits) {kd xp : Nat} (hkind : ∀ {s k d C}, rep s k d C → ∃ x z, C (4, 0) = row [x, U8 kd, z]) (hxp : xp = if kd = 3 then 16 else 13) {h : PT ABlk} {n k t : Nat} {d : Rl → Nat} {C : Rl → Option ABlk} {ops : Ops} {f : Nat → Value} {r : RS e} (ok : OpsOk ops ns) (S : St h n d C) (R : RepR rep ops ns f r k d C) (hf : Hole ops ns t d r f) (ht : t < ns) (he : e.ent r.s t = false) (hw : e.wt r.s t = false) (hi : r.idx t ≤ (ops t).length) (hk : k ≤ 90000) {v : Nat} (ho : (ops t)[r.idx t]? = some (1, v)) :
  EvB Tryz.prog OP 29 [pt (d (40, 0)), I6 t] h n fun v h' n' => v = tup [] ∧ ROut rep ops ns (RS.beg ops xp r t) k d C h' n' := by
 have g40 := S.at R.mach
 have g41 := S.at R.thr
 have g44 := S.at R.kinds
 have n40 := S.lt R.mach
 have n41 := S.lt R.thr
 have n44 := S.lt R.kinds
 have d1 := S.df R.mach R.thr (by simp)
 have d2 := S.df R.thr R.kinds (by simp)
 have t1 : (t : Int) < ns := by omega
 obtain ⟨hns1, hns2⟩ := hns
 have hf0 := hf
 obtain ⟨hf1, hf2⟩ := hf
 have f0 := hf2 0 (by omega) (by omega) (by omega) (by omega)
 have f1 := hf2 1 (by omega) (by omega) (by omega) (by omega)
 have f6 := hf2 6 (by omega) (by omega) (by omega) (by omega)
 simp only [tfld] at f0 f1 f6
 simp only [mrow] at g40
 rw [Nat.add_zero] at f0
 have hne : ops t ≠ [] := fun q => by rw [q] at ho; simp at ho
 have hlen : r.idx t < (ops t).length := (List.getElem?_eq_some_iff.1 ho).1
 obtain ⟨l1, l2⟩ := opL_get _ _ _ ho
 have g42 := S.at (R.ops t ht hne)
 have n42 := S.lt (R.ops t ht hne)
 have d3 := S.df (R.ops t ht hne) R.thr (by simp)
 have hi1 : ¬ ((r.idx t : Nat) : Int) = ((ops t).length : Nat) := by omega
 have hi2 : ((r.idx t : Nat) : Int) < ((ops t).length : Nat) := by omega
 obtain ⟨o1, o2⟩ := (ok t ht).2 _ (List.mem_of_getElem? ho)
 have hT := opL_take _ _ _ ho
 have hB : Nat.ble (r.idx t * 2 + 2) (opL (ops t)).length = true := Nat.ble_eq_true_of_le (by rw [opL_length]; omega)
 simp only at o1 o2 l1 l2 hT
 rw [if_neg hne] at f0
 have kf : ifind ((1 : Nat) : Int) (kindsM (d (40, 0))) 0 = some (0, .func (.func 33) ⟨[pt (d (40, 0))]⟩ ⟨[]⟩) := rfl
 by_cases hv : v < 64
 ·have hv2 : ¬ (64 : Int) ≤ (v : Int) := by omega
  cases hn : e.inn r.s t with
  | true =>
   have hb : RS.beg ops xp r t = { r with pc := fs r.pc t 1 } := by unfold RS.beg; rw [ho]; simp [hn]
   rw [hb]
   rw [hn] at f6
   clear ho hlen hi hf1 hf2 hb
   refine EvB_run (N := 73) Tryz.func29 rfl rfl fun z hP hO hro hN hQ => ?_
   repeat' first | simp (maxSteps := 2000000) (disch := first | omega | assumption) only [go_sem, *] | (apply xs <;> intro _) <;> try omega | ((with_reducible refine isD 2 ?_); refine dw 73 2 w29_2 (by first | (simp only [go_sem, *]; done) | rfl) (by kernel_rfl) (by kernel_rfl) ?_) | ((with_reducible refine isD 3 ?_); refine dw 73 3 w29_3 (by first | (simp only [go_sem, *]; done) | rfl) (by kernel_rfl) (by kernel_rfl) ?_) | ((with_reducible refine isD 4 ?_); refine dw 73 4 w29_4 (by first | (simp only [go_sem, *]; done) | rfl) (by kernel_rfl) (by kernel_rfl) ?_) | refine fun (_ _ : List Nat) => ?_ | (first | refine inQ Tryz.func33 rfl ?_ ?_ ?_ ?_ | fail) <;> intros
   obtain ⟨q1, q2⟩ := hf0
   have e0 := q2 0 (by omega) (by omega) (by omega) (by omega)
   have e1 := q2 1 (by omega) (by omega) (by omega) (by omega)
   have e5 := q2 5 (by omega) (by omega) (by omega) (by omega)
   have e6 := q2 6 (by omega) (by omega) (by omega) (by omega)
   have e7 := q2 7 (by omega) (by omega) (by omega) (by omega)
   simp only [tfld, Nat.add_zero] at e0 e1 e5 e6 e7
   refine ⟨rfl, ROut.of (t := t) R (((((((S.set (41, 0) _ R.thr rfl).set (41, 0) _ upd_same rfl).set (41, 0) _ upd_same rfl).junk2 (Nat.le_refl _) (Nat.lt_succ_self _)).set (41, 0) _ upd_same rfl).set (41, 0) _ upd_same rfl).set (41, 0) _ upd_same rfl) (F.cliC (F.cliC (F.cliC (F.cliC (F.cliC (F.cliC R.rep (by omega)) (by omega)) (by omega)) (by omega)) (by omega)) (by omega)) (fun a b _ c => ⟨rfl, by simp (disch := first | decide | assumption | omega) only [rM, rW, rL, upd_same, upd_tag, upd_num, memC_ne]⟩) rfl rfl rfl upd_same ?_ rfl rfl⟩
   refine thr_of (f := f) (d := d) (r := r) ht (fun u j hu cu hj => tfld_oth (Fr.rfl (C := C)) cu rfl rfl rfl rfl (fs_ne cu) rfl rfl) q1 (fun i hi => by simp only [fs_ne (hi 2 (by omega)), fs_ne (hi 3 (by omega)), fs_ne (hi 4 (by omega)), fs_ne (hi 5 (by omega)), fs_ne (hi 7 (by omega))]) (case8 ?_ ?_ ?_ ?_ ?_ ?_ ?_ ?_) <;> (simp (disch := omega) only [fs_off, fs_same, tfld, Nat.add_zero, e0, e1, e5, e6, e7, he, hw, Bool.false_eq_true, if_false, if_true]) <;> rfl
  | false =>
   have hb : RS.beg ops xp r t = { r with s := e.enter r.s t v, val := fs r.val t v, pc := fs r.pc t 0 } := by unfold RS.beg; rw [ho]; simp [hn, hv]
   rw [hb]
   rw [hn] at f6
   clear ho hlen hi hf1 hf2 hb
   refine EvB_run (N := 73) Tryz.func29 rfl rfl fun z hP hO hro hN hQ => ?_
   repeat' first | simp (maxSteps := 2000000) (disch := first | omega | assumption) only [go_sem, *] | (apply xs <;> intro _) <;> try omega | ((with_reducible refine isD 2 ?_); refine dw 73 2 w29_2 (by first | (simp only [go_sem, *]; done) | rfl) (by kernel_rfl) (by kernel_rfl) ?_) | ((with_reducible refine isD 3 ?_); refine dw 73 3 w29_3 (by first | (simp only [go_sem, *]; done) | rfl) (by kernel_rfl) (by kernel_rfl) ?_) | ((with_reducible refine isD 4 ?_); refine dw 73 4 w29_4 (by first | (simp only [go_sem, *]; done) | rfl) (by kernel_rfl) (by kernel_rfl) ?_) | refine fun (_ _ : List Nat) => ?_ | (first | refine inQ Tryz.func33 rfl ?_ ?_ ?_ ?_ | fail) <;> intros
   refine cal (F.enterB ((((S.set (41, 0) _ R.thr rfl).set (41, 0) _ upd_same rfl).set (41, 0) _ upd_same rfl).junk2 (Nat.le_refl _) (Nat.lt_succ_self _)) (F.cliC (F.cliC (F.cliC R.rep (by omega)) (by omega)) (by omega)) hk ht hv he hn hw) (by simp only [*]) (by simp only [*]) (by simp only [go_sem, *]) (by simp only [go_sem, *]) ?_
   rintro rr h2 n2 ⟨d2, C2, rfl, S2, R2, Fr2⟩
   have g41b := S2.at ((Fr2.cli 41 0 (by omega)).2.trans upd_same)
   rw [(Fr2.cli 41 0 (by omega)).1] at g41b
   clear g40 g41 g42 g44 kf
   repeat' first | simp (maxSteps := 2000000) (disch := first | omega | assumption) only [go_sem, *] | (apply xs <;> intro _) <;> try omega | refine fun (_ _ : List Nat) => ?_
   obtain ⟨q1, q2⟩ := hf0
   have e0 := q2 0 (by omega) (by omega) (by omega) (by omega)
   have e1 := q2 1 (by omega) (by omega) (by omega) (by omega)
   have e5 := q2 5 (by omega) (by omega) (by omega) (by omega)
   have e6 := q2 6 (by omega) (by omega) (by omega) (by omega)
   have e7 := q2 7 (by omega) (by omega) (by omega) (by omega)
   simp only [tfld, Nat.add_zero] at e0 e1 e5 e6 e7
   obtain ⟨f1, f2, f3⟩ := fit.enter r.s t v hn
   have c42 := (Fr2.cli 42 t (by omega)).1
   refine ⟨rfl, ROut.of (t := t) R ((S2.set (41, 0) _ ((Fr2.cli 41 0 (by omega)).2.trans upd_same) (Fr2.cli 41 0 (by omega)).1).set (41, 0) _ upd_same (Fr2.cli 41 0 (by omega)).1) (F.cliC (F.cliC R2 (by omega)) (by omega)) (fun a b q c => ⟨(Fr2.cli a b q).1, by simp (disch := first | decide | assumption | omega) only [rM, rW, rL, upd_same, upd_tag, upd_num, memC_ne]; rw [(Fr2.cli a b q).2]; simp (disch := first | decide | assumption | omega) only [rM, rW, rL, upd_same, upd_tag, upd_num, memC_ne]⟩) (Fr2.cli 41 0 (by omega)).1 Fr2.prcu Fr2.mem upd_same ?_ rfl rfl⟩
   refine thr_of (f := f) (d := d) (r := r) ht (fun u j hu cu hj => tfld_oth Fr2 cu ((f1 u).trans (if_neg cu)) (f3 u) (f2 u) rfl (fs_ne cu) rfl (fs_ne cu)) q1 (fun i hi => by simp only [fs_ne (hi 2 (by omega)), fs_ne (hi 3 (by omega)), fs_ne (hi 4 (by omega)), fs_ne (hi 5 (by omega)), fs_ne (hi 7 (by omega))]) (case8 ?_ ?_ ?_ ?_ ?_ ?_ ?_ ?_) <;> (simp (disch := omega) only [fs_off, fs_same, tfld, Nat.add_zero, e0, e1, e5, e6, e7, he, hw, Bool.false_eq_true, if_false, if_true, f1, f2, f3, c42]) <;> rfl
 ·have hv2 : (64 : Int) ≤ (v : Int) := by omega
  have hb : RS.beg ops xp r t = { r with pc := fs r.pc t 1 } := by unfold RS.beg; rw [ho]; simp [hv]
  rw [hb]
  clear ho hlen hi hf1 hf2 hb
  refine EvB_run (N := 73) Tryz.func29 rfl rfl fun z hP hO hro hN hQ => ?_
  repeat' first | simp (maxSteps := 2000000) (disch := first | omega | assumption) only [go_sem, *] | (apply xs <;> intro _) <;> try omega | ((with_reducible refine isD 2 ?_); refine dw 73 2 w29_2 (by first | (simp only [go_sem, *]; done) | rfl) (by kernel_rfl) (by kernel_rfl) ?_) | ((with_reducible refine isD 3 ?_); refine dw 73 3 w29_3 (by first | (simp only [go_sem, *]; done) | rfl) (by kernel_rfl) (by kernel_rfl) ?_) | ((with_reducible refine isD 4 ?_); refine dw 73 4 w29_4 (by first | (simp only [go_sem, *]; done) | rfl) (by kernel_rfl) (by kernel_rfl) ?_) | refine fun (_ _ : List Nat) => ?_ | (first | refine inQ Tryz.func33 rfl ?_ ?_ ?_ ?_ | fail) <;> intros
  obtain ⟨q1, q2⟩ := hf0
  have e0 := q2 0 (by omega) (by omega) (by omega) (by omega)
  have e1 := q2 1 (by omega) (by omega) (by omega) (by omega)
  have e5 := q2 5 (by omega) (by omega) (by omega) (by omega)
  have e6 := q2 6 (by omega) (by omega) (by omega) (by omega)
  have e7 := q2 7 (by omega) (by omega) (by omega) (by omega)
  simp only [tfld, Nat.add_zero] at e0 e1 e5 e6 e7
  refine ⟨rfl, ROut.of (t := t) R (((((((S.set (41, 0) _ R.thr rfl).set (41, 0) _ upd_same rfl).set (41, 0) _ upd_same rfl).junk2 (Nat.le_refl _) (Nat.lt_succ_self _)).set (41, 0) _ upd_same rfl).set (41, 0) _ upd_same rfl).set (41, 0) _ upd_same rfl) (F.cliC (F.cliC (F.cliC (F.cliC (F.cliC (F.cliC R.rep (by omega)) (by omega)) (by omega)) (by omega)) (by omega)) (by omega)) (fun a b _ c => ⟨rfl, by simp (disch := first | decide | assumption | omega) only [rM, rW, rL, upd_same, upd_tag, upd_num, memC_ne]⟩) rfl rfl rfl upd_same ?_ rfl rfl⟩
  refine thr_of (f := f) (d := d) (r := r) ht (fun u j hu cu hj => tfld_oth (Fr.rfl (C := C)) cu rfl rfl rfl rfl (fs_ne cu) rfl rfl) q1 (fun i hi => by simp only [fs_ne (hi 2 (by omega)), fs_ne (hi 3 (by omega)), fs_ne (hi 4 (by omega)), fs_ne (hi 5 (by omega)), fs_ne (hi 7 (by omega))]) (case8 ?_ ?_ ?_ ?_ ?_ ?_ ?_ ?_) <;> (simp (disch := omega) only [fs_off, fs_same, tfld, Nat.add_zero, e0, e1, e5, e6, e7, he, hw, Bool.false_eq_true, if_false, if_true]) <;> rfl
end Go.Proofs.YtbceiadaihphaaaGreat
set_option linter.unusedVariables false
set_option linter.unusedSimpArgs false
namespace Go.Proofs.YtbceiadaihphaaaGreat
open Go.Am
variable {e : Eng} {rep : e.σ → Nat → (Rl → Nat) → (Rl → Option ABlk) → Prop}
set_option maxRecDepth 100000 in
set_option maxHeartbeats 2000000 in
theorem rbegR {ns : Nat} (hns : 0 < ns ∧ ns ≤ 64) (F : Face e ns rep) (fit : e.Fits) {kd xp : Nat} (hkind : ∀ {s k d C}, rep s k d C → ∃ x z, C (4, 0) = row [x, U8 kd, z]) (hxp : xp = if kd = 3 then 16 else 13) {h : PT ABlk} {n k t : Nat} {d : Rl → Nat} {C : Rl → Option ABlk} {ops : Ops} {f : Nat → Value} {r : RS e} (ok : OpsOk ops ns) (S : St h n d C) (R : RepR rep ops ns f r k d C) (hf : Hole ops ns t d r f) (ht : t < ns) (he : e.ent r.s t = false) (hw : e.wt r.s t = false) (hi : r.idx t ≤ (ops t).length) (hk : k ≤ 90000) {kk v : Nat} (ho : (ops t)[r.idx t]? = some (kk, v)) (k1 : kk ≠ 1) (k2 : kk ≠ 2) (k3 : kk ≠ 3) :
  EvB Tryz.prog OP 29 [pt (d (40, 0)), I6 t] h n fun v h' n' => v = tup [] ∧ ROut rep ops ns (RS.beg ops xp r t) k d C h' n' := by
 have g40 := S.at R.mach
 have g41 := S.at R.thr
 have g44 := S.at R.kinds
 have n40 := S.lt R.mach
 have n41 := S.lt R.thr
 have n44 := S.lt R.kinds
 have d1 := S.df R.mach R.thr (by simp)
 have d2 := S.df R.thr R.kinds (by simp)
 have t1 : (t : Int) < ns := by omega
 obtain ⟨hns1, hns2⟩ := hns
 have hf0 := hf
 obtain ⟨hf1, hf2⟩ := hf
 have f0 := hf2 0 (by omega) (by omega) (by omega) (by omega)
 have f1 := hf2 1 (by omega) (by omega) (by omega) (by omega)
 have f6 := hf2 6 (by omega) (by omega) (by omega) (by omega)
 simp only [tfld] at f0 f1 f6
 simp only [mrow] at g40
 rw [Nat.add_zero] at f0
 have hne : ops t ≠ [] := fun q => by rw [q] at ho; simp at ho
 have hlen : r.idx t < (ops t).length := (List.getElem?_eq_some_iff.1 ho).1
 obtain ⟨l1, l2⟩ := opL_get _ _ _ ho
 have g42 := S.at (R.ops t ht hne)
 have n42 := S.lt (R.ops t ht hne)
 have d3 := S.df (R.ops t ht hne) R.thr (by simp)
 have hi1 : ¬ ((r.idx t : Nat) : Int) = ((ops t).length : Nat) := by omega
 have hi2 : ((r.idx t : Nat) : Int) < ((ops t).length : Nat) := by omega
 obtain ⟨o1, o2⟩ := (ok t ht).2 _ (List.mem_of_getElem? ho)
 have hT := opL_take _ _ _ ho
 have hB : Nat.ble (r.idx t * 2 + 2) (opL (ops t)).length = true := Nat.ble_eq_true_of_le (by rw [opL_length]; omega)
 simp only at o1 o2 l1 l2 hT
 rw [if_neg hne] at f0
 have hb : RS.beg ops xp r t = { r with pc := fs r.pc t 1 } := by unfold RS.beg; rw [ho]; simp [k1, k2, k3]
 rw [hb]
 have kk1 : ¬ (kk : Int) = 1 := by omega
 have kk2 : ¬ (kk : Int) = 2 := by omega
 have kk3 : ¬ (kk : Int) = 3 := by omega
 have kf : ifind (kk : Int) (kindsM (d (40, 0))) 0 = none := by rw [kinds_find, if_neg kk1, if_neg kk2, if_neg kk3]
 clear ho hlen hi hf1 hf2 hb
 refine EvB_run (N := 73) Tryz.func29 rfl rfl fun z hP hO hro hN hQ => ?_
 repeat' first | simp (maxSteps := 2000000) (disch := first | omega | assumption) only [go_sem, *] | (apply xs <;> intro _) <;> try omega | ((with_reducible refine isD 2 ?_); refine dw 73 2 w29_2 (by first | (simp only [go_sem, *]; done) | rfl) (by kernel_rfl) (by kernel_rfl) ?_) | ((with_reducible refine isD 3 ?_); refine dw 73 3 w29_3 (by first | (simp only [go_sem, *]; done) | rfl) (by kernel_rfl) (by kernel_rfl) ?_) | ((with_reducible refine isD 4 ?_); refine dw 73 4 w29_4 (by first | (simp only [go_sem, *]; done) | rfl) (by kernel_rfl) (by kernel_rfl) ?_) | refine fun (_ _ : List Nat) => ?_
 obtain ⟨q1, q2⟩ := hf0
 have e0 := q2 0 (by omega) (by omega) (by omega) (by omega)
 have e1 := q2 1 (by omega) (by omega) (by omega) (by omega)
 have e5 := q2 5 (by omega) (by omega) (by omega) (by omega)
 have e6 := q2 6 (by omega) (by omega) (by omega) (by omega)
 have e7 := q2 7 (by omega) (by omega) (by omega) (by omega)
 simp only [tfld, Nat.add_zero] at e0 e1 e5 e6 e7
 refine ⟨rfl, ROut.of (t := t) R (((((((S.set (41, 0) _ R.thr rfl).set (41, 0) _ upd_same rfl).set (41, 0) _ upd_same rfl).junk2 (Nat.le_refl _) (Nat.lt_succ_self _)).set (41, 0) _ upd_same rfl).set (41, 0) _ upd_same rfl).set (41, 0) _ upd_same rfl) (F.cliC (F.cliC (F.cliC (F.cliC (F.cliC (F.cliC R.rep (by omega)) (by omega)) (by omega)) (by omega)) (by omega)) (by omega)) (fun a b _ c => ⟨rfl, by simp (disch := first | decide | assumption | omega) only [rM, rW, rL, upd_same, upd_tag, upd_num, memC_ne]⟩) rfl rfl rfl upd_same ?_ rfl rfl⟩
 refine thr_of (f := f) (d := d) (r := r) ht (fun u j hu cu hj => tfld_oth (Fr.rfl (C := C)) cu rfl rfl rfl rfl (fs_ne cu) rfl rfl) q1 (fun i hi => by simp only [fs_ne (hi 2 (by omega)), fs_ne (hi 3 (by omega)), fs_ne (hi 4 (by omega)), fs_ne (hi 5 (by omega)), fs_ne (hi 7 (by omega))]) (case8 ?_ ?_ ?_ ?_ ?_ ?_ ?_ ?_) <;> (simp (disch := omega) only [fs_off, fs_same, tfld, Nat.add_zero, e0, e1, e5, e6, e7, he, hw, Bool.false_eq_true, if_false, if_true]) <;> rfl
end Go.Proofs.YtbceiadaihphaaaGreat
