/-
  A part of the proof: contracts of inner functions.
-/
import Derived.Test.YtbceiadaihphaaaGreatRX9
set_option linter.unusedVariables false
set_option linter.unusedSimpArgs false
namespace Go.Proofs.YtbceiadaihphaaaGreat
open Go.Am
variable {e : Eng} {rep : e.σ → Nat → (Rl → Nat) → (Rl → Option ABlk) → Prop}
set_option maxRecDepth 100000 in
set_option maxHeartbeats 2000000 in
theorem rnoteB {ns nn : Nat} {l : List (Nat × Nat × Nat × Nat)} {h : PT ABlk} {n t kd v : Nat} {d : Rl → Nat} {C : Rl → Option ABlk} (S : St h n d C) (m40 : C (40, 0) = row (mrow d ns nn l)) (m43 : l ≠ [] → C (43, 0) = row (evL l)) (hl : l.length ≤ 100000) (hkd : kd < 256) (hv : v < 2 ^ 64) :
  EvB Tryz.prog OP 58 [pt (d (40, 0)), I6 t, U8 kd, U6 v] h n fun r h' n' => r = tup [] ∧ ∃ g, n ≤ g ∧ St h' n' (upd d (43, 0) g) (upd (upd C (43, 0) (row (evL (l ++ [(nn, t, kd, v)])))) (40, 0) (row (mrow (upd d (43, 0) g) ns nn (l ++ [(nn, t, kd, v)])))) := by
 have g40 := S.at m40
 have n40 := S.lt m40
 have hk2 : l.length + 1 ≤ 1048576 := by omega
 simp only [mrow] at g40
 by_cases c : l = []
 ·subst c
  have e0 : evS d [] = .slice none 0 0 := if_pos rfl
  rw [e0] at g40
  clear e0
  refine EvB_run (N := 25) Tryz.func58 rfl rfl fun z hP hO hro hN hQ => ?_
  repeat' first | simp (maxSteps := 2000000) (disch := first | omega | assumption) only [go_sem, *] | (apply xs <;> intro _) <;> try omega | ((with_reducible refine isD 0 ?_); refine dw 25 0 w58_0 (by first | (simp only [go_sem, *]; done) | rfl) (by kernel_rfl) (by kernel_rfl) ?_)
  have hm : mrow (upd d (43, 0) (n + 1)) ns nn ([] ++ [(nn, t, kd, v)]) = [pt (d rM), pt (d (4, 0)), .slice (some ⟨d (41, 0), 0, none⟩) ns (capInf + 8), .slice (some ⟨n + 1, 0, none⟩) 1 (capInf + 4), I6 nn, .map (some (d (44, 0)))] := by
   unfold mrow evS; rw [if_neg (by simp)]; (simp (disch := first | decide | assumption | omega) only [rM, rW, rL, upd_same, upd_tag, upd_num, memC_ne]) <;> rfl
  refine ⟨rfl, n + 1, by omega, ?_⟩
  rw [show [(nn, t, kd, v)] = [] ++ [(nn, t, kd, v)] from rfl, hm]
  exact ((S.junk (Nat.le_refl _) (Nat.lt_succ_self _)).new (43, 0) _ (Nat.le_refl _) (Nat.lt_succ_self _)).set (40, 0) _ ((upd_tag (by decide)).trans m40) (upd_tag (by decide))
 ·have e0 : evS d l = .slice (some ⟨d (43, 0), 0, none⟩) l.length (capInf + 4) := if_neg c
  rw [e0] at g40
  have g43 := S.at (m43 c)
  have n43 := S.lt (m43 c)
  have d1 := S.df m40 (m43 c) (by simp)
  have hlen := evL_length l
  have htk : List.take (l.length * 4) (evL l) = evL l := List.take_of_length_le (by omega)
  have hpos : 0 < l.length := List.length_pos_iff.2 c
  clear e0
  refine EvB_run (N := 25) Tryz.func58 rfl rfl fun z hP hO hro hN hQ => ?_
  repeat' first | simp (maxSteps := 2000000) (disch := first | omega | assumption) only [go_sem, *] | (apply xs <;> intro _) <;> try omega | ((with_reducible refine isD 0 ?_); refine dw 25 0 w58_0 (by first | (simp only [go_sem, *]; done) | rfl) (by kernel_rfl) (by kernel_rfl) ?_)
  have hm : mrow (upd d (43, 0) (n + 1)) ns nn (l ++ [(nn, t, kd, v)]) = [pt (d rM), pt (d (4, 0)), .slice (some ⟨d (41, 0), 0, none⟩) ns (capInf + 8), .slice (some ⟨n + 1, 0, none⟩) (l.length + 1) (capInf + 4), I6 nn, .map (some (d (44, 0)))] := by
   unfold mrow evS; rw [if_neg (by simp), List.length_append]; (simp (disch := first | decide | assumption | omega) only [rM, rW, rL, upd_same, upd_tag, upd_num, memC_ne]) <;> rfl
  refine ⟨rfl, n + 1, by omega, ?_⟩
  rw [hm, ← evL_snoc]
  exact ((((S.junk (Nat.le_refl _) (Nat.lt_succ_self _)).kill (43, 0) (m43 c) rfl).new (43, 0) _ (Nat.le_refl _) (Nat.lt_succ_self _)).eq (by rw [upd_upd]) rfl).set (40, 0) _ ((upd_tag (by decide)).trans m40) (upd_tag (by decide))
end Go.Proofs.YtbceiadaihphaaaGreat
set_option linter.unusedVariables false
set_option linter.unusedSimpArgs false
namespace Go.Proofs.YtbceiadaihphaaaGreat
open Go.Am
variable {e : Eng} {rep : e.σ → Nat → (Rl → Nat) → (Rl → Option ABlk) → Prop}
def RS.nx (pcE pcW : e.σ → Nat → Int) (r : RS e) (t : Nat) : Int := if e.ent r.s t = true then pcE r.s t else if e.wt r.s t = true then pcW r.s t else (r.pc t : Int)
set_option maxRecDepth 100000 in
set_option maxHeartbeats 2000000 in
theorem rnextB {ns : Nat} {pcE pcW : e.σ → Nat → Int} (N : FaceN e ns rep pcE pcW) {h : PT ABlk} {n k t : Nat} {d : Rl → Nat} {C : Rl → Option ABlk} {ops : Ops} {r : RS e} (S : St h n d C) (R : RepR rep ops ns (tcell ops d r) r k d C) (ht : t < ns) :
  EvB Tryz.prog OP 26 [.pointer (some ⟨d (41, 0), t * 8, none⟩)] h n fun v h' n' => v = U8 (RS.nx pcE pcW r t) ∧ St h' n' d C := by
 have g41 := S.at R.thr
 have n41 := S.lt R.thr
 have q1 : tcell ops d r (t * 8 + 2) = tfld ops d r t 2 := tcell_at (by omega)
 have q2 : tcell ops d r (t * 8 + 3) = tfld ops d r t 3 := tcell_at (by omega)
 have q3 : tcell ops d r (t * 8 + 4) = tfld ops d r t 4 := tcell_at (by omega)
 simp only [tfld] at q1 q2 q3
 unfold RS.nx
 by_cases h1 : e.ent r.s t = true
 ·rw [if_pos h1] at q1 ⊢
  have en := N.enextB S R.rep ht h1
  refine EvB_run (N := 29) Tryz.func26 rfl rfl fun z hP hO hro hN hQ => ?_
  repeat' first | simp (maxSteps := 2000000) (disch := first | omega | assumption) only [go_sem, *] | (apply xs <;> intro _) <;> try omega
  refine cal (en) (by simp only [*]) (by simp only [*]) (by simp only [go_sem, *]) (by simp only [go_sem, *]) ?_
  rintro rr h2 n2 ⟨rfl, c1, S2⟩
  clear g41
  repeat' first | simp (maxSteps := 2000000) (disch := first | omega | assumption) only [go_sem, *] | (apply xs <;> intro _) <;> try omega
 ·by_cases h2 : e.wt r.s t = true
  ·rw [if_neg h1] at q1 ⊢
   rw [if_pos h2] at q2 ⊢
   have en := N.wnextB S R.rep ht h2
   refine EvB_run (N := 29) Tryz.func26 rfl rfl fun z hP hO hro hN hQ => ?_
   repeat' first | simp (maxSteps := 2000000) (disch := first | omega | assumption) only [go_sem, *] | (apply xs <;> intro _) <;> try omega
   refine cal (en) (by simp only [*]) (by simp only [*]) (by simp only [go_sem, *]) (by simp only [go_sem, *]) ?_
   rintro rr h2 n2 ⟨rfl, c1, S2⟩
   clear g41
   repeat' first | simp (maxSteps := 2000000) (disch := first | omega | assumption) only [go_sem, *] | (apply xs <;> intro _) <;> try omega
  ·rw [if_neg h1] at q1 ⊢
   rw [if_neg h2] at q2 ⊢
   refine EvB_run (N := 29) Tryz.func26 rfl rfl fun z hP hO hro hN hQ => ?_
   repeat' first | simp (maxSteps := 2000000) (disch := first | omega | assumption) only [go_sem, *] | (apply xs <;> intro _) <;> try omega
end Go.Proofs.YtbceiadaihphaaaGreat
set_option linter.unusedVariables false
set_option linter.unusedSimpArgs false
namespace Go.Proofs.YtbceiadaihphaaaGreat
open Go.Am
variable {e : Eng} {rep : e.σ → Nat → (Rl → Nat) → (Rl → Option ABlk) → Prop}
theorem mrow_fr {d d' : Rl → Nat} {C C' : Rl → Option ABlk} {t ns n : Nat} {l : List (Nat × Nat × Nat × Nat)} (Fr2 : Fr d C d' C' t) : mrow d' ns n l = mrow d ns n l := by
 unfold mrow evS
 rw [Fr2.mem, Fr2.prcu, (Fr2.cli 41 0 (by omega)).1, (Fr2.cli 43 0 (by omega)).1, (Fr2.cli 44 0 (by omega)).1]
theorem RepR.of {ops : Ops} {ns k k' : Nat} {f g : Nat → Value} {r r' : RS e} {d d' : Rl → Nat} {C C' : Rl → Option ABlk} (R : RepR rep ops ns f r k d C) (hr : rep r'.s k' d' C') (hm : C' (40, 0) = row (mrow d' ns r'.n r'.ev)) (ht : C' (41, 0) = row (rowf (8 * ns) g)) (ho : ∀ u, C' (42, u) = C (42, u)) (hev : r'.ev ≠ [] → C' (43, 0) = row (evL r'.ev)) (hk : C' (44, 0) = C (44, 0)) (h40 : d' (40, 0) = d (40, 0)) : RepR rep ops ns g r' k' d' C' :=
 ⟨hr, hm, ht, fun u hu c => (ho u).trans (R.ops u hu c), hev, by rw [hk, h40]; exact R.kinds⟩
theorem tfld_43 {ops : Ops} {d : Rl → Nat} {g : Nat} {r : RS e} {u j : Nat} : tfld ops (upd d (43, 0) g) r u j = tfld ops d r u j := by
 match j with
 | 0 => simp only [tfld]; rw [upd_tag (by decide)]
 | 1 => rfl
 | 2 => simp only [tfld]; rw [upd_tag (by decide)]
 | 3 => simp only [tfld]; rw [upd_tag (by decide)]
 | 4 => rfl
 | 5 => rfl
 | 6 => rfl
 | j + 7 => rfl
structure StepOut (rep : e.σ → Nat → (Rl → Nat) → (Rl → Option ABlk) → Prop) (ops : Ops) (ns t k : Nat) (dn : Bool) (r1 : RS e) (d : Rl → Nat) (C : Rl → Option ABlk) (v : Value) (h' : PT ABlk) (n' : Nat) : Prop where
 out : ∃ pc k' d' C' f, v = tup [U8 pc, .bool dn] ∧ k' ≤ k + 1 ∧ St h' n' d' C' ∧ RepR rep ops ns f r1 k' d' C' ∧ Fx d C d' C' ∧ Hole ops ns t d' r1 f ∧ (dn = false → rowf (8 * ns) f = rowf (8 * ns) (tcell ops d' r1))
set_option maxRecDepth 100000 in
set_option maxHeartbeats 2000000 in
theorem rstepE {ns : Nat} (F : Face e ns rep) (fit : e.Fits) {h : PT ABlk} {n k t : Nat} {d : Rl → Nat} {C : Rl → Option ABlk} {ops : Ops} {r : RS e} (S : St h n d C) (R : RepR rep ops ns (tcell ops d r) r k d C) (ht : t < ns) (hns : ns ≤ 64) (hk : k ≤ 90000) (hl : r.ev.length ≤ 90000) (h1 : e.ent r.s t = true) (hn : e.inn r.s t = false) (hw : e.wt r.s t = false) (hv : r.val t < 64) :
  EvB Tryz.prog OP 28 [pt (d (40, 0)), I6 t] h n fun v h' n' => StepOut rep ops ns t k (!e.ent (e.estep r.s t) t) { r with s := e.estep r.s t, ev := if e.ent (e.estep r.s t) t = true then r.ev else r.ev ++ [(r.n, t, 1, r.val t)] } d C v h' n' := by
 have g40 := S.at R.mach
 have g41 := S.at R.thr
 have n40 := S.lt R.mach
 have n41 := S.lt R.thr
 have d1 := S.df R.mach R.thr (by simp)
 have t1 : (t : Int) < ns := by omega
 have q0 : tcell ops d r (t * 8 + 2) = tfld ops d r t 2 := tcell_at (by omega)
 have q7 : tcell ops d r (t * 8 + 7) = tfld ops d r t 7 := tcell_at (by omega)
 simp only [tfld] at q0 q7
 rw [if_pos h1] at q0
 simp only [mrow] at g40
 have en := F.estepB S R.rep hk ht h1 hn
 cases hd : e.ent (e.estep r.s t) t with
 | true =>
  rw [hd] at en
  refine EvB_run (N := 115) Tryz.func28 rfl rfl fun z hP hO hro hN hQ => ?_
  repeat' first | simp (maxSteps := 2000000) (disch := first | omega | assumption) only [go_sem, *] | (apply xs <;> intro _) <;> try omega
  refine cal (en) (by simp only [*]) (by simp only [*]) (by simp only [go_sem, *]) (by simp only [go_sem, *]) ?_
  rintro rr h2 n2 ⟨d2, C2, pc, rfl, S2, R2, Fr2, hp⟩
  clear en g40 g41
  repeat' first | simp (maxSteps := 2000000) (disch := first | omega | assumption) only [go_sem, *] | (apply xs <;> intro _) <;> try omega
  obtain ⟨f1, f2, f3⟩ := fit.estep r.s t h1 hn
  have c42 := (Fr2.cli 42 t (by omega)).1
  have f2t := f2 t
  rw [if_pos rfl, hd] at f2t
  have f3t := f3 t
  have hT : ∀ j, j < 8 → tfld ops d r t j = tfld ops d2 { r with s := e.estep r.s t } t j := by
   refine case8 ?_ ?_ ?_ ?_ ?_ ?_ ?_ ?_ <;> simp only [tfld, c42, hd, h1, hp, hn, hw, f2t, f3t, Bool.not_true, Bool.false_eq_true, if_false]
  have hO : ∀ u j, u < ns → u ≠ t → j < 8 → tfld ops d2 { r with s := e.estep r.s t } u j = tfld ops d r u j := fun u j hu cu hj => tfld_oth Fr2 cu (f1 u cu) (f3 u) ((f2 u).trans (if_neg cu)) rfl rfl rfl rfl
  refine ⟨pc, k + 1, d2, C2, tcell ops d r, rfl, Nat.le_refl _, S2, RepR.of R R2 ?_ ((Fr2.cli 41 0 (by omega)).2.trans R.thr) (fun u => (Fr2.cli 42 u (by omega)).2) ?_ (Fr2.cli 44 0 (by omega)).2 (Fr2.cli 40 0 (by omega)).1, ⟨(Fr2.cli 40 0 (by omega)).1, fun a b c => Fr2.cli a b (by omega)⟩, ⟨fun u j hu cu hj => ?_, fun j hj _ _ _ => ?_⟩, fun _ => ?_⟩
  ·rw [(Fr2.cli 40 0 (by omega)).2, R.mach, mrow_fr Fr2] <;> simp only [hd, if_true]
  ·intro c; rw [(Fr2.cli 43 0 (by omega)).2]; exact R.ev c
  ·rw [tcell_at hj]; exact (hO u j hu cu hj).symm
  ·rw [tcell_at hj]; exact hT j hj
  ·refine rowf_congr (all8 fun u j hu hj => ?_)
   rw [tcell_at hj, tcell_at hj]
   by_cases cu : u = t
   ·subst cu; exact hT j hj
   ·exact (hO u j hu cu hj).symm
 | false =>
  rw [hd] at en
  refine EvB_run (N := 115) Tryz.func28 rfl rfl fun z hP hO hro hN hQ => ?_
  repeat' first | simp (maxSteps := 2000000) (disch := first | omega | assumption) only [go_sem, *] | (apply xs <;> intro _) <;> try omega
  refine cal (en) (by simp only [*]) (by simp only [*]) (by simp only [go_sem, *]) (by simp only [go_sem, *]) ?_
  rintro rr h2 n2 ⟨d2, C2, pc, rfl, S2, R2, Fr2, hp⟩
  have g41b := S2.at ((Fr2.cli 41 0 (by omega)).2.trans R.thr)
  rw [(Fr2.cli 41 0 (by omega)).1] at g41b
  clear en g40 g41
  repeat' first | simp (maxSteps := 2000000) (disch := first | omega | assumption) only [go_sem, *] | (apply xs <;> intro _) <;> try omega
  obtain ⟨f1, f2, f3⟩ := fit.estep r.s t h1 hn
  have c42 := (Fr2.cli 42 t (by omega)).1
  have f2t := f2 t
  rw [if_pos rfl, hd] at f2t
  rw [← (Fr2.cli 40 0 (by omega)).1]
  refine cal (rnoteB (kd := 1) (ns := ns) (nn := r.n) (l := r.ev) (t := t) (v := r.val t) (S2.set (41, 0) (.cells (PT.ofList .leaf 0 (rowf (8 * ns) (fs (tcell ops d r) (t * 8 + 6) (.bool true)))) false) ((Fr2.cli 41 0 (by omega)).2.trans R.thr) (Fr2.cli 41 0 (by omega)).1) ((upd_tag (by decide)).trans ((Fr2.cli 40 0 (by omega)).2.trans (R.mach.trans (by rw [mrow_fr Fr2])))) (fun c => (upd_tag (by decide)).trans ((Fr2.cli 43 0 (by omega)).2.trans (R.ev c))) (by omega) (by omega) (by omega)) (by simp only [*]) (by simp only [*]) (by simp only [go_sem, *]) (by simp only [go_sem, *]) ?_
  rintro rr3 h3 n3 ⟨rfl, g, hg, S4⟩
  clear g41b
  repeat' first | simp (maxSteps := 2000000) (disch := first | omega | assumption) only [go_sem, *] | (apply xs <;> intro _) <;> try omega
  refine ⟨pc, k + 1, upd d2 (43, 0) g, _, fs (tcell ops d r) (t * 8 + 6) (.bool true), rfl, Nat.le_refl _, S4, RepR.of R (F.cliC (F.cliC (F.cliC (F.cliD R2 (by omega)) (by omega)) (by omega)) (by omega)) upd_same (by simp (disch := first | decide | assumption | omega) only [rM, rW, rL, upd_same, upd_tag, upd_num, memC_ne]) (fun u => by simp (disch := first | decide | assumption | omega) only [rM, rW, rL, upd_same, upd_tag, upd_num, memC_ne]; exact (Fr2.cli 42 u (by omega)).2) (fun _ => by (simp (disch := first | decide | assumption | omega) only [rM, rW, rL, upd_same, upd_tag, upd_num, memC_ne]) <;> rfl) (by simp (disch := first | decide | assumption | omega) only [rM, rW, rL, upd_same, upd_tag, upd_num, memC_ne]; exact (Fr2.cli 44 0 (by omega)).2) ((upd_tag (by decide)).trans (Fr2.cli 40 0 (by omega)).1), ⟨(upd_tag (by decide)).trans (Fr2.cli 40 0 (by omega)).1, fun a b c => ⟨by simp (disch := first | decide | assumption | omega) only [rM, rW, rL, upd_same, upd_tag, upd_num, memC_ne]; exact (Fr2.cli a b (by omega)).1, by simp (disch := first | decide | assumption | omega) only [rM, rW, rL, upd_same, upd_tag, upd_num, memC_ne]; exact (Fr2.cli a b (by omega)).2⟩⟩, ⟨fun u j hu cu hj => ?_, fun j hj j2 j3 j4 => ?_⟩, fun c => by cases c⟩
  ·rw [fs_ne (by omega), tcell_at hj, tfld_43]; refine Eq.symm ?_; exact tfld_oth Fr2 cu (f1 u cu) (f3 u) ((f2 u).trans (if_neg cu)) rfl rfl rfl rfl
  ·rw [tfld_43]
   by_cases j6 : j = 6
   ·subst j6; rw [fs_same]; simp only [tfld, f2t, Bool.not_false]
   ·rw [fs_ne (by omega), tcell_at hj]
    revert j2 j3 j4 j6
    refine case8 (P := fun j => j ≠ 2 → j ≠ 3 → j ≠ 4 → j ≠ 6 → tfld ops d r t j = tfld ops d2 _ t j) ?_ ?_ ?_ ?_ ?_ ?_ ?_ ?_ j hj <;> intro _ _ _ _ <;> first | contradiction | simp only [tfld, c42]
end Go.Proofs.YtbceiadaihphaaaGreat
set_option linter.unusedVariables false
set_option linter.unusedSimpArgs false
namespace Go.Proofs.YtbceiadaihphaaaGreat
open Go.Am
variable {e : Eng} {rep : e.σ → Nat → (Rl → Nat) → (Rl → Option ABlk) → Prop}
set_option maxRecDepth 100000 in
set_option maxHeartbeats 2000000 in
theorem rstepR {ns : Nat} (F : Face e ns rep) (fit : e.Fits) {h : PT ABlk} {n k t : Nat} {d : Rl → Nat} {C : Rl → Option ABlk} {ops : Ops} {r : RS e} (S : St h n d C) (R : RepR rep ops ns (tcell ops d r) r k d C) (ht : t < ns) (hns : ns ≤ 64) (hk : k ≤ 90000) (hl : r.ev.length ≤ 90000) (h1 : e.ent r.s t = false) (hw : e.wt r.s t = false) (hp : r.pc t = 1) :
  EvB Tryz.prog OP 28 [pt (d (40, 0)), I6 t] h n fun v h' n' => StepOut rep ops ns t k true r d C v h' n' := by
 have g40 := S.at R.mach
 have g41 := S.at R.thr
 have n40 := S.lt R.mach
 have n41 := S.lt R.thr
 have d1 := S.df R.mach R.thr (by simp)
 have t1 : (t : Int) < ns := by omega
 have q2 : tcell ops d r (t * 8 + 2) = tfld ops d r t 2 := tcell_at (by omega)
 have q3 : tcell ops d r (t * 8 + 3) = tfld ops d r t 3 := tcell_at (by omega)
 have q4 : tcell ops d r (t * 8 + 4) = tfld ops d r t 4 := tcell_at (by omega)
 have q7 : tcell ops d r (t * 8 + 7) = tfld ops d r t 7 := tcell_at (by omega)
 simp only [tfld] at q2 q3 q4 q7
 rw [if_neg (by rw [h1]; simp)] at q2
 rw [if_neg (by rw [hw]; simp)] at q3
 simp only [mrow] at g40
 rw [hp] at q4
 refine EvB_run (N := 115) Tryz.func28 rfl rfl fun z hP hO hro hN hQ => ?_
 repeat' first | simp (maxSteps := 2000000) (disch := first | omega | assumption) only [go_sem, *] | (apply xs <;> intro _) <;> try omega
 exact ⟨_, k, d, C, tcell ops d r, rfl, Nat.le_succ _, S, R, ⟨rfl, fun _ _ _ => ⟨rfl, rfl⟩⟩, ⟨fun u j hu cu hj => tcell_at hj, fun j hj _ _ _ => tcell_at hj⟩, fun c => by cases c⟩
set_option maxRecDepth 100000 in
set_option maxHeartbeats 2000000 in
theorem rstepX {ns : Nat} (F : Face e ns rep) (fit : e.Fits) {h : PT ABlk} {n k t : Nat} {d : Rl → Nat} {C : Rl → Option ABlk} {ops : Ops} {r : RS e} (S : St h n d C) (R : RepR rep ops ns (tcell ops d r) r k d C) (ht : t < ns) (hns : ns ≤ 64) (hk : k ≤ 90000) (hl : r.ev.length ≤ 90000) (h1 : e.ent r.s t = false) (hw : e.wt r.s t = false) (hn : e.inn r.s t = true) (hp : r.pc t ≠ 1) (hp2 : r.pc t < 256) (hv : r.val t < 64) :
  EvB Tryz.prog OP 28 [pt (d (40, 0)), I6 t] h n fun v h' n' => StepOut rep ops ns t k true { r with s := e.exit r.s t, ev := r.ev ++ [(r.n, t, 2, r.val t)] } d C v h' n' := by
 have g40 := S.at R.mach
 have g41 := S.at R.thr
 have n40 := S.lt R.mach
 have n41 := S.lt R.thr
 have d1 := S.df R.mach R.thr (by simp)
 have t1 : (t : Int) < ns := by omega
 have q2 : tcell ops d r (t * 8 + 2) = tfld ops d r t 2 := tcell_at (by omega)
 have q3 : tcell ops d r (t * 8 + 3) = tfld ops d r t 3 := tcell_at (by omega)
 have q4 : tcell ops d r (t * 8 + 4) = tfld ops d r t 4 := tcell_at (by omega)
 have q7 : tcell ops d r (t * 8 + 7) = tfld ops d r t 7 := tcell_at (by omega)
 simp only [tfld] at q2 q3 q4 q7
 rw [if_neg (by rw [h1]; simp)] at q2
 rw [if_neg (by rw [hw]; simp)] at q3
 simp only [mrow] at g40
 have hp1 : ¬ (r.pc t : Int) = 1 := by omega
 have n4c := (Nat.le_refl n)
 refine EvB_run (N := 115) Tryz.func28 rfl rfl fun z hP hO hro hN hQ => ?_
 repeat' first | simp (maxSteps := 2000000) (disch := first | omega | assumption) only [go_sem, *] | (apply xs <;> intro _) <;> try omega
 refine cal (F.exitB S R.rep hk ht hn h1) (by simp only [*]) (by simp only [*]) (by simp only [go_sem, *]) (by simp only [go_sem, *]) ?_
 rintro rr h2 n2 ⟨d2, C2, pc, rfl, hpc, S2, R2, Fr2⟩
 have g41b := S2.at ((Fr2.cli 41 0 (by omega)).2.trans R.thr)
 rw [(Fr2.cli 41 0 (by omega)).1] at g41b
 clear g40 g41
 repeat' first | simp (maxSteps := 2000000) (disch := first | omega | assumption) only [go_sem, *] | (apply xs <;> intro _) <;> try omega
 obtain ⟨f1, f2, f3⟩ := fit.exit r.s t hn
 have c42 := (Fr2.cli 42 t (by omega)).1
 have f2t := f2 t
 rw [if_pos rfl] at f2t
 rw [← (Fr2.cli 40 0 (by omega)).1]
 refine cal (rnoteB (kd := 2) (ns := ns) (nn := r.n) (l := r.ev) (t := t) (v := r.val t) (S2.set (41, 0) (.cells (PT.ofList .leaf 0 (rowf (8 * ns) (fs (tcell ops d r) (t * 8 + 6) (.bool false)))) false) ((Fr2.cli 41 0 (by omega)).2.trans R.thr) (Fr2.cli 41 0 (by omega)).1) ((upd_tag (by decide)).trans ((Fr2.cli 40 0 (by omega)).2.trans (R.mach.trans (by rw [mrow_fr Fr2])))) (fun c => (upd_tag (by decide)).trans ((Fr2.cli 43 0 (by omega)).2.trans (R.ev c))) (by omega) (by omega) (by omega)) (by simp only [*]) (by simp only [*]) (by simp only [go_sem, *]) (by simp only [go_sem, *]) ?_
 rintro rr3 h3 n3 ⟨rfl, g, hg, S4⟩
 clear g41b
 repeat' first | simp (maxSteps := 2000000) (disch := first | omega | assumption) only [go_sem, *] | (apply xs <;> intro _) <;> try omega
 refine ⟨pc, k + 1, upd d2 (43, 0) g, _, fs (tcell ops d r) (t * 8 + 6) (.bool false), rfl, Nat.le_refl _, S4, RepR.of R (F.cliC (F.cliC (F.cliC (F.cliD R2 (by omega)) (by omega)) (by omega)) (by omega)) upd_same (by simp (disch := first | decide | assumption | omega) only [rM, rW, rL, upd_same, upd_tag, upd_num, memC_ne]) (fun u => by simp (disch := first | decide | assumption | omega) only [rM, rW, rL, upd_same, upd_tag, upd_num, memC_ne]; exact (Fr2.cli 42 u (by omega)).2) (fun _ => by (simp (disch := first | decide | assumption | omega) only [rM, rW, rL, upd_same, upd_tag, upd_num, memC_ne]) <;> rfl) (by simp (disch := first | decide | assumption | omega) only [rM, rW, rL, upd_same, upd_tag, upd_num, memC_ne]; exact (Fr2.cli 44 0 (by omega)).2) ((upd_tag (by decide)).trans (Fr2.cli 40 0 (by omega)).1), ⟨(upd_tag (by decide)).trans (Fr2.cli 40 0 (by omega)).1, fun a b c => ⟨by simp (disch := first | decide | assumption | omega) only [rM, rW, rL, upd_same, upd_tag, upd_num, memC_ne]; exact (Fr2.cli a b (by omega)).1, by simp (disch := first | decide | assumption | omega) only [rM, rW, rL, upd_same, upd_tag, upd_num, memC_ne]; exact (Fr2.cli a b (by omega)).2⟩⟩, ⟨fun u j hu cu hj => ?_, fun j hj j2 j3 j4 => ?_⟩, fun c => by cases c⟩
 ·rw [fs_ne (by omega), tcell_at hj, tfld_43]; refine Eq.symm ?_; exact tfld_oth Fr2 cu (f1 u) (f3 u) ((f2 u).trans (if_neg cu)) rfl rfl rfl rfl
 ·rw [tfld_43]
  by_cases j6 : j = 6
  ·subst j6; rw [fs_same]; simp only [tfld, f2t, Bool.not_true]
  ·rw [fs_ne (by omega), tcell_at hj]
   revert j2 j3 j4 j6
   refine case8 (P := fun j => j ≠ 2 → j ≠ 3 → j ≠ 4 → j ≠ 6 → tfld ops d r t j = tfld ops d2 _ t j) ?_ ?_ ?_ ?_ ?_ ?_ ?_ ?_ j hj <;> intro _ _ _ _ <;> first | contradiction | simp only [tfld, c42]
end Go.Proofs.YtbceiadaihphaaaGreat
set_option linter.unusedVariables false
set_option linter.unusedSimpArgs false
namespace Go.Proofs.YtbceiadaihphaaaGreat
open Go.Am
variable {e : Eng} {rep : e.σ → Nat → (Rl → Nat) → (Rl → Option ABlk) → Prop}
theorem wEnd0 {ns : Nat} (fit : e.Fits) {h2 : PT ABlk} {n2 k t : Nat} {pc : Int} {d dA d2 : Rl → Nat} {C CA C2 : Rl → Option ABlk} {ops : Ops} {r : RS e} {evA : List (Nat × Nat × Nat × Nat)} (RA : RepR rep ops ns (fs (tcell ops d r) (t * 8 + 5) (.bool true)) { r with bg := fs r.bg t true, ev := evA } k dA CA) (hA : ∀ u j, tfld ops dA r u j = tfld ops d r u j) (hX : Fx d C dA CA) (ht : t < ns) (h1 : e.ent r.s t = false) (hw : e.wt r.s t = true) (Fr2 : Fr dA CA d2 C2 t) (hp : d2 (10, t) = dA (10, t)) (S2 : St h2 n2 d2 C2) (R2 : rep (e.wstep r.s t) (k + 1) d2 C2) (hd : e.wt (e.wstep r.s t) t = true) : StepOut rep ops ns t k false { r with s := e.wstep r.s t, bg := fs r.bg t true, ev := evA } d C (tup [U8 pc, .bool false]) h2 n2 := by
 obtain ⟨f1, f2, f3⟩ := fit.wstep r.s t
 have c42 := (Fr2.cli 42 t (by omega)).1
 have f1t := f1 t
 have f2t := f2 t
 have hT : ∀ j, j < 8 → fs (tcell ops d r) (t * 8 + 5) (.bool true) (t * 8 + j) = tfld ops d2 { r with s := e.wstep r.s t, bg := fs r.bg t true, ev := evA } t j := by
  intro j hj
  by_cases j5 : j = 5
  ·subst j5; rw [fs_same]; simp only [tfld, fs_same]
  ·rw [fs_ne (by omega), tcell_at hj, ← hA]
   revert j5
   refine case8 (P := fun j => j ≠ 5 → tfld ops dA r t j = tfld ops d2 _ t j) ?_ ?_ ?_ ?_ ?_ ?_ ?_ ?_ j hj <;> intro _ <;> first | contradiction | simp only [tfld, c42, hd, h1, hw, hp, f1t, f2t, if_true, Bool.false_eq_true, if_false]
 have hO : ∀ u j, u < ns → u ≠ t → j < 8 → fs (tcell ops d r) (t * 8 + 5) (.bool true) (u * 8 + j) = tfld ops d2 { r with s := e.wstep r.s t, bg := fs r.bg t true, ev := evA } u j := fun u j hu cu hj => by
  rw [fs_ne (by omega), tcell_at hj, ← hA]; refine Eq.symm ?_; exact tfld_oth Fr2 cu (f1 u) (f3 u cu) (f2 u) rfl rfl (fs_ne cu) rfl
 refine ⟨pc, k + 1, d2, C2, _, rfl, Nat.le_refl _, S2, RepR.of RA R2 ?_ ((Fr2.cli 41 0 (by omega)).2.trans RA.thr) (fun u => (Fr2.cli 42 u (by omega)).2) (fun c => (Fr2.cli 43 0 (by omega)).2.trans (RA.ev c)) (Fr2.cli 44 0 (by omega)).2 (Fr2.cli 40 0 (by omega)).1, ⟨(Fr2.cli 40 0 (by omega)).1.trans hX.m, fun a b c => ⟨(Fr2.cli a b (by omega)).1.trans (hX.x a b c).1, (Fr2.cli a b (by omega)).2.trans (hX.x a b c).2⟩⟩, ⟨hO, fun j hj _ _ _ => hT j hj⟩, fun _ => ?_⟩
 ·rw [(Fr2.cli 40 0 (by omega)).2, RA.mach, mrow_fr Fr2]
 ·refine rowf_congr (all8 fun u j hu hj => ?_)
  rw [tcell_at hj]
  by_cases cu : u = t
  ·subst cu; exact hT j hj
  ·exact hO u j hu cu hj
theorem wEnd1 {ns : Nat} (F : Face e ns rep) (fit : e.Fits) {h2 : PT ABlk} {n2 k t v g : Nat} {pc : Int} {d dA d2 : Rl → Nat} {C CA C2 : Rl → Option ABlk} {ops : Ops} {r : RS e} {evA : List (Nat × Nat × Nat × Nat)} (RA : RepR rep ops ns (fs (tcell ops d r) (t * 8 + 5) (.bool true)) { r with bg := fs r.bg t true, ev := evA } k dA CA) (hA : ∀ u j, tfld ops dA r u j = tfld ops d r u j) (hX : Fx d C dA CA) (ht : t < ns) (h1 : e.ent r.s t = false) (hw : e.wt r.s t = true) (Fr2 : Fr dA CA d2 C2 t) (R2 : rep (e.wstep r.s t) (k + 1) d2 C2) (S4 : St h2 n2 (upd d2 (43, 0) g) (upd (upd C2 (43, 0) (row (evL (evA ++ [(r.n, t, 4, v)])))) (40, 0) (row (mrow (upd d2 (43, 0) g) ns r.n (evA ++ [(r.n, t, 4, v)]))))) : StepOut rep ops ns t k true { r with s := e.wstep r.s t, bg := fs r.bg t true, ev := evA ++ [(r.n, t, 4, v)] } d C (tup [U8 pc, .bool true]) h2 n2 := by
 obtain ⟨f1, f2, f3⟩ := fit.wstep r.s t
 have c42 := (Fr2.cli 42 t (by omega)).1
 have f1t := f1 t
 have f2t := f2 t
 refine ⟨pc, k + 1, upd d2 (43, 0) g, _, fs (tcell ops d r) (t * 8 + 5) (.bool true), rfl, Nat.le_refl _, S4, RepR.of RA (F.cliC (F.cliC (F.cliD R2 (by omega)) (by omega)) (by omega)) upd_same (by simp (disch := first | decide | assumption | omega) only [rM, rW, rL, upd_same, upd_tag, upd_num, memC_ne]; exact (Fr2.cli 41 0 (by omega)).2.trans RA.thr) (fun u => by simp (disch := first | decide | assumption | omega) only [rM, rW, rL, upd_same, upd_tag, upd_num, memC_ne]; exact (Fr2.cli 42 u (by omega)).2) (fun _ => by (simp (disch := first | decide | assumption | omega) only [rM, rW, rL, upd_same, upd_tag, upd_num, memC_ne]) <;> rfl) (by simp (disch := first | decide | assumption | omega) only [rM, rW, rL, upd_same, upd_tag, upd_num, memC_ne]; exact (Fr2.cli 44 0 (by omega)).2) ((upd_tag (by decide)).trans (Fr2.cli 40 0 (by omega)).1), ⟨(upd_tag (by decide)).trans ((Fr2.cli 40 0 (by omega)).1.trans hX.m), fun a b c => ⟨by simp (disch := first | decide | assumption | omega) only [rM, rW, rL, upd_same, upd_tag, upd_num, memC_ne]; exact (Fr2.cli a b (by omega)).1.trans (hX.x a b c).1, by simp (disch := first | decide | assumption | omega) only [rM, rW, rL, upd_same, upd_tag, upd_num, memC_ne]; exact (Fr2.cli a b (by omega)).2.trans (hX.x a b c).2⟩⟩, ⟨fun u j hu cu hj => ?_, fun j hj j2 j3 j4 => ?_⟩, fun c => by cases c⟩
 ·rw [fs_ne (by omega), tcell_at hj, ← hA, tfld_43]; refine Eq.symm ?_; exact tfld_oth Fr2 cu (f1 u) (f3 u cu) (f2 u) rfl rfl (fs_ne cu) rfl
 ·rw [tfld_43]
  by_cases j5 : j = 5
  ·subst j5; rw [fs_same]; simp only [tfld, fs_same]
  ·rw [fs_ne (by omega), tcell_at hj, ← hA]
   revert j2 j3 j4 j5
   refine case8 (P := fun j => j ≠ 2 → j ≠ 3 → j ≠ 4 → j ≠ 5 → tfld ops dA r t j = tfld ops d2 _ t j) ?_ ?_ ?_ ?_ ?_ ?_ ?_ ?_ j hj <;> intro _ _ _ _ <;> first | contradiction | simp only [tfld, c42, f2t]
end Go.Proofs.YtbceiadaihphaaaGreat
set_option linter.unusedVariables false
set_option linter.unusedSimpArgs false
namespace Go.Proofs.YtbceiadaihphaaaGreat
open Go.Am
variable {e : Eng} {rep : e.σ → Nat → (Rl → Nat) → (Rl → Option ABlk) → Prop}
set_option maxRecDepth 100000 in
set_option maxHeartbeats 2000000 in
theorem rstepW {ns : Nat} (F : Face e ns rep) (fit : e.Fits) {h : PT ABlk} {n k t v : Nat} {d : Rl → Nat} {C : Rl → Option ABlk} {ops : Ops} {r : RS e} (S : St h n d C) (R : RepR rep ops ns (tcell ops d r) r k d C) (ht : t < ns) (hns : ns ≤ 64) (hk : k ≤ 90000) (hl : r.ev.length ≤ 90000) (h1 : e.ent r.s t = false) (hw : e.wt r.s t = true) (ho : (ops t)[r.idx t]? = some (3, v)) (hv : v < 2 ^ 64) :
  EvB Tryz.prog OP 28 [pt (d (40, 0)), I6 t] h n fun w h' n' => StepOut rep ops ns t k (!e.wt (e.wstep r.s t) t) { r with s := e.wstep r.s t, bg := fs r.bg t true, ev := (if r.bg t = true then r.ev else r.ev ++ [(r.n, t, 3, v)]) ++ (if e.wt (e.wstep r.s t) t = true then [] else [(r.n, t, 4, v)]) } d C w h' n' := by
 have g40 := S.at R.mach
 have g41 := S.at R.thr
 have n40 := S.lt R.mach
 have n41 := S.lt R.thr
 have d1 := S.df R.mach R.thr (by simp)
 have t1 : (t : Int) < ns := by omega
 have hne : ops t ≠ [] := fun q => by rw [q] at ho; simp at ho
 have hlen : r.idx t < (ops t).length := (List.getElem?_eq_some_iff.1 ho).1
 obtain ⟨l1, l2⟩ := opL_get _ _ _ ho
 have g42 := S.at (R.ops t ht hne)
 have n42 := S.lt (R.ops t ht hne)
 have d3 := S.df (R.ops t ht hne) R.thr (by simp)
 have hi2 : ((r.idx t : Nat) : Int) < ((ops t).length : Nat) := by omega
 have hB : Nat.ble (r.idx t * 2 + 2) (opL (ops t)).length = true := Nat.ble_eq_true_of_le (by rw [opL_length]; omega)
 have q0 : tcell ops d r (t * 8 + 0) = tfld ops d r t 0 := tcell_at (by omega)
 have q1 : tcell ops d r (t * 8 + 1) = tfld ops d r t 1 := tcell_at (by omega)
 have q2 : tcell ops d r (t * 8 + 2) = tfld ops d r t 2 := tcell_at (by omega)
 have q3 : tcell ops d r (t * 8 + 3) = tfld ops d r t 3 := tcell_at (by omega)
 have q5 : tcell ops d r (t * 8 + 5) = tfld ops d r t 5 := tcell_at (by omega)
 simp only [tfld, Nat.add_zero] at q0 q1 q2 q3 q5
 simp only at l1 l2
 rw [if_neg (by rw [h1]; simp)] at q2
 rw [if_pos hw] at q3
 rw [if_neg hne] at q0
 simp only [mrow] at g40
 cases hb : r.bg t with
 | true =>
  rw [hb] at q5
  have RA : RepR rep ops ns (fs (tcell ops d r) (t * 8 + 5) (.bool true)) { r with bg := fs r.bg t true, ev := r.ev } k d (upd C (41, 0) (some (.cells (PT.ofList .leaf 0 (rowf (8 * ns) (fs (tcell ops d r) (t * 8 + 5) (.bool true)))) false))) := RepR.of R (F.cliC R.rep (by omega)) (by simp (disch := first | decide | assumption | omega) only [rM, rW, rL, upd_same, upd_tag, upd_num, memC_ne]; exact R.mach) upd_same (fun u => by simp (disch := first | decide | assumption | omega) only [rM, rW, rL, upd_same, upd_tag, upd_num, memC_ne]) (fun c => by simp (disch := first | decide | assumption | omega) only [rM, rW, rL, upd_same, upd_tag, upd_num, memC_ne]; exact R.ev c) (by simp (disch := first | decide | assumption | omega) only [rM, rW, rL, upd_same, upd_tag, upd_num, memC_ne]) rfl
  have hA : ∀ u j, tfld ops d r u j = tfld ops d r u j := fun _ _ => rfl
  have hX : Fx d C d (upd C (41, 0) (some (.cells (PT.ofList .leaf 0 (rowf (8 * ns) (fs (tcell ops d r) (t * 8 + 5) (.bool true)))) false))) := ⟨rfl, fun a b c => ⟨rfl, by simp (disch := first | decide | assumption | omega) only [rM, rW, rL, upd_same, upd_tag, upd_num, memC_ne]⟩⟩
  refine EvB_run (N := 115) Tryz.func28 rfl rfl fun z hP hO hro hN hQ => ?_
  repeat' first | simp (maxSteps := 2000000) (disch := first | omega | assumption) only [go_sem, *] | (apply xs <;> intro _) <;> try omega | ((with_reducible refine isD 11 ?_); refine dw 115 11 w28_11 (by first | (simp only [go_sem, *]; done) | rfl) (by kernel_rfl) (by kernel_rfl) ?_)
  have en := F.wstepB (S.set (41, 0) (.cells (PT.ofList .leaf 0 (rowf (8 * ns) (fs (tcell ops d r) (t * 8 + 5) (.bool true)))) false) R.thr rfl) RA.rep hk ht hw
  refine cal (en) (by simp only [*]) (by simp only [*]) (by simp only [go_sem, *]) (by simp only [go_sem, *]) ?_
  rintro rr h2 n2 ⟨d2, C2, pc, rfl, S2, R2, Fr2, hp⟩
  clear en g40 g41
  cases hd : e.wt (e.wstep r.s t) t with
  | true =>
   repeat' first | simp (maxSteps := 2000000) (disch := first | omega | assumption) only [go_sem, *] | (apply xs <;> intro _) <;> try omega
   simpa using wEnd0 (pc := pc) fit RA hA hX ht h1 hw Fr2 hp S2 R2 hd
  | false =>
   repeat' first | simp (maxSteps := 2000000) (disch := first | omega | assumption) only [go_sem, *] | (apply xs <;> intro _) <;> try omega
   rw [← (Fr2.cli 40 0 (by omega)).1.trans hX.m]
   refine cal (rnoteB (kd := 4) (ns := ns) (nn := r.n) (l := r.ev) (t := t) (v := v) S2 ((Fr2.cli 40 0 (by omega)).2.trans (RA.mach.trans (by rw [mrow_fr Fr2]))) (fun c => (Fr2.cli 43 0 (by omega)).2.trans (RA.ev c)) (by first | omega | (simp only [List.length_append, List.length_cons, List.length_nil]; omega)) (by omega) hv) (by simp only [*]) (by simp only [*]) (by simp only [go_sem, *]) (by simp only [go_sem, *]) ?_
   rintro rr3 h3 n3 ⟨rfl, g4, hg4, S4⟩
   repeat' first | simp (maxSteps := 2000000) (disch := first | omega | assumption) only [go_sem, *] | (apply xs <;> intro _) <;> try omega
   simpa using wEnd1 (pc := pc) F fit RA hA hX ht h1 hw Fr2 R2 S4
 | false =>
  rw [hb] at q5
  refine EvB_run (N := 115) Tryz.func28 rfl rfl fun z hP hO hro hN hQ => ?_
  repeat' first | simp (maxSteps := 2000000) (disch := first | omega | assumption) only [go_sem, *] | (apply xs <;> intro _) <;> try omega | ((with_reducible refine isD 11 ?_); refine dw 115 11 w28_11 (by first | (simp only [go_sem, *]; done) | rfl) (by kernel_rfl) (by kernel_rfl) ?_)
  refine cal (rnoteB (kd := 3) (ns := ns) (nn := r.n) (l := r.ev) (t := t) (v := v) S R.mach (fun c => R.ev c) (by omega) (by omega) hv) (by simp only [*]) (by simp only [*]) (by simp only [go_sem, *]) (by simp only [go_sem, *]) ?_
  rintro rr0 h0 n0 ⟨rfl, g, hg, S3⟩
  have e41 : (upd (upd C (43, 0) (row (evL (r.ev ++ [(r.n, t, 3, v)])))) (40, 0) (row (mrow (upd d (43, 0) g) ns r.n (r.ev ++ [(r.n, t, 3, v)])))) (41, 0) = row (rowf (8 * ns) (tcell ops d r)) := by simp (disch := first | decide | assumption | omega) only [rM, rW, rL, upd_same, upd_tag, upd_num, memC_ne]; exact R.thr
  have h41 : upd d (43, 0) g (41, 0) = d (41, 0) := upd_tag (by decide)
  have h10 : upd d (43, 0) g (10, t) = d (10, t) := upd_tag (by decide)
  have g41a := S3.at e41
  rw [h41] at g41a
  have RA : RepR rep ops ns (fs (tcell ops d r) (t * 8 + 5) (.bool true)) { r with bg := fs r.bg t true, ev := (r.ev ++ [(r.n, t, 3, v)]) } k (upd d (43, 0) g) (upd (upd (upd C (43, 0) (row (evL (r.ev ++ [(r.n, t, 3, v)])))) (40, 0) (row (mrow (upd d (43, 0) g) ns r.n (r.ev ++ [(r.n, t, 3, v)])))) (41, 0) (some (.cells (PT.ofList .leaf 0 (rowf (8 * ns) (fs (tcell ops d r) (t * 8 + 5) (.bool true)))) false))) := RepR.of R (F.cliC (F.cliC (F.cliC (F.cliD R.rep (by omega)) (by omega)) (by omega)) (by omega)) (by (simp (disch := first | decide | assumption | omega) only [rM, rW, rL, upd_same, upd_tag, upd_num, memC_ne]) <;> rfl) upd_same (fun u => by simp (disch := first | decide | assumption | omega) only [rM, rW, rL, upd_same, upd_tag, upd_num, memC_ne]) (fun c => by (simp (disch := first | decide | assumption | omega) only [rM, rW, rL, upd_same, upd_tag, upd_num, memC_ne]) <;> rfl) (by simp (disch := first | decide | assumption | omega) only [rM, rW, rL, upd_same, upd_tag, upd_num, memC_ne]) (upd_tag (by decide))
  have hA : ∀ u j, tfld ops (upd d (43, 0) g) r u j = tfld ops d r u j := fun _ _ => tfld_43
  have hX : Fx d C (upd d (43, 0) g) (upd (upd (upd C (43, 0) (row (evL (r.ev ++ [(r.n, t, 3, v)])))) (40, 0) (row (mrow (upd d (43, 0) g) ns r.n (r.ev ++ [(r.n, t, 3, v)])))) (41, 0) (some (.cells (PT.ofList .leaf 0 (rowf (8 * ns) (fs (tcell ops d r) (t * 8 + 5) (.bool true)))) false))) := ⟨upd_tag (by decide), fun a b c => ⟨by simp (disch := first | decide | assumption | omega) only [rM, rW, rL, upd_same, upd_tag, upd_num, memC_ne], by simp (disch := first | decide | assumption | omega) only [rM, rW, rL, upd_same, upd_tag, upd_num, memC_ne]⟩⟩
  clear g40 g41 g42
  repeat' first | simp (maxSteps := 2000000) (disch := first | omega | assumption) only [go_sem, *] | (apply xs <;> intro _) <;> try omega
  have en := F.wstepB (S3.set (41, 0) (.cells (PT.ofList .leaf 0 (rowf (8 * ns) (fs (tcell ops d r) (t * 8 + 5) (.bool true)))) false) e41 h41) RA.rep hk ht hw
  rw [h10] at en
  refine cal (en) (by simp only [*]) (by simp only [*]) (by simp only [go_sem, *]) (by simp only [go_sem, *]) ?_
  rintro rr h2 n2 ⟨d2, C2, pc, rfl, S2, R2, Fr2, hp⟩
  clear en g41a
  cases hd : e.wt (e.wstep r.s t) t with
  | true =>
   repeat' first | simp (maxSteps := 2000000) (disch := first | omega | assumption) only [go_sem, *] | (apply xs <;> intro _) <;> try omega
   simpa using wEnd0 (pc := pc) fit RA hA hX ht h1 hw Fr2 (hp.trans h10.symm) S2 R2 hd
  | false =>
   repeat' first | simp (maxSteps := 2000000) (disch := first | omega | assumption) only [go_sem, *] | (apply xs <;> intro _) <;> try omega
   rw [← (Fr2.cli 40 0 (by omega)).1.trans hX.m]
   refine cal (rnoteB (kd := 4) (ns := ns) (nn := r.n) (l := (r.ev ++ [(r.n, t, 3, v)])) (t := t) (v := v) S2 ((Fr2.cli 40 0 (by omega)).2.trans (RA.mach.trans (by rw [mrow_fr Fr2]))) (fun c => (Fr2.cli 43 0 (by omega)).2.trans (RA.ev c)) (by first | omega | (simp only [List.length_append, List.length_cons, List.length_nil]; omega)) (by omega) hv) (by simp only [*]) (by simp only [*]) (by simp only [go_sem, *]) (by simp only [go_sem, *]) ?_
   rintro rr3 h3 n3 ⟨rfl, g4, hg4, S4⟩
   repeat' first | simp (maxSteps := 2000000) (disch := first | omega | assumption) only [go_sem, *] | (apply xs <;> intro _) <;> try omega
   simpa using wEnd1 (pc := pc) F fit RA hA hX ht h1 hw Fr2 R2 S4
end Go.Proofs.YtbceiadaihphaaaGreat
