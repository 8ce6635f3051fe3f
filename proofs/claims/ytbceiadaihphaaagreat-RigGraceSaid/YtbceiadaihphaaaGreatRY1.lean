/-
  A part of the proof: contracts of inner functions.
-/
import Derived.Test.YtbceiadaihphaaaGreatRX14
import Derived.Test.YtbceiadaihphaaaGreatRN
import Derived.Test.YtbceiadaihphaaaGreatRV5
set_option linter.unusedVariables false
set_option linter.unusedSimpArgs false
namespace Go.Proofs.YtbceiadaihphaaaGreat
open Go.Am
variable {e : Eng} {rep : e.σ → Nat → (Rl → Nat) → (Rl → Option ABlk) → Prop}
set_option maxRecDepth 100000 in
set_option maxHeartbeats 2000000 in
theorem pickB {ns : Nat} {x : Int} {h : PT ABlk} {n : Nat} {d : Rl → Nat} {C : Rl → Option ABlk} (S : St h n d C) (hns : 0 < ns ∧ ns ≤ 64) :
  EvB Tryz.prog OP 27 [I6 ns, I6 x] h n fun v h' n' => v = tup [I6 ((x.tmod ns + ns).tmod ns), I6 0] ∧ St h' n' d C := by
 have t1 : ¬ (ns : Int) < 1 := by omega
 have t2 : ¬ (64 : Int) < ns := by omega
 have t3 : ¬ (ns : Int) ≤ 0 := by omega
 have t4 : ¬ (ns : Int) = 0 := by omega
 have b1 := Int.tmod_lt_of_pos x (show (0 : Int) < ns by omega)
 have b2 := Int.lt_tmod_of_pos x (show (0 : Int) < ns by omega)
 refine EvB_run (N := 15) Tryz.func27 rfl rfl fun z hP hO hro hN hQ => ?_
 repeat' first | simp (maxSteps := 2000000) (disch := first | omega | assumption) only [go_sem, *] | (apply xs <;> intro _) <;> try omega | refine fun (_ _ : List Nat) => ?_ | (first | refine inQ Tryz.func55 rfl ?_ ?_ ?_ ?_ | refine inQ Tryz.func56 rfl ?_ ?_ ?_ ?_ | fail) <;> intros
end Go.Proofs.YtbceiadaihphaaaGreat
set_option linter.unusedVariables false
set_option linter.unusedSimpArgs false
namespace Go.Proofs.YtbceiadaihphaaaGreat
open Go.Am
variable {e : Eng} {rep : e.σ → Nat → (Rl → Nat) → (Rl → Option ABlk) → Prop}
def RS.mid (ops : Ops) (r : RS e) (t : Nat) : RS e :=
 if e.ent r.s t = true then { r with s := e.estep r.s t, ev := if e.ent (e.estep r.s t) t = true then r.ev else r.ev ++ [(r.n, t, 1, r.val t)] }
 else if e.wt r.s t = true then { r with s := e.wstep r.s t, bg := fs r.bg t true, ev := (if r.bg t = true then r.ev else r.ev ++ [(r.n, t, 3, r.setOf ops t)]) ++ (if e.wt (e.wstep r.s t) t = true then [] else [(r.n, t, 4, r.setOf ops t)]) }
 else if r.pc t = 1 then r
 else { r with s := e.exit r.s t, ev := r.ev ++ [(r.n, t, 2, r.val t)] }
def RS.dn (r : RS e) (t : Nat) : Bool := if e.ent r.s t = true then !e.ent (e.estep r.s t) t else if e.wt r.s t = true then !e.wt (e.wstep r.s t) t else true
theorem rstepB {ns : Nat} (F : Face e ns rep) (fit : e.Fits) {xp : Nat} (hxp : xp < 256 ∧ xp ≠ 1) {h : PT ABlk} {n k t : Nat} {d : Rl → Nat} {C : Rl → Option ABlk} {ops : Ops} {r : RS e} (ok : OpsOk ops ns) (S : St h n d C) (R : RepR rep ops ns (tcell ops d r) r k d C) (ht : t < ns) (hns : ns ≤ 64) (hk : k ≤ 90000) (hl : r.ev.length ≤ 90000) (one : One e r.s) (a : At ops xp r t) (act : r.active t) (hv : ∀ k, e.ent r.s k = true ∨ e.inn r.s k = true → r.val k < 64) :
  EvB Tryz.prog OP 28 [pt (d (40, 0)), I6 t] h n fun w h' n' => StepOut rep ops ns t k (r.dn t) (r.mid ops t) d C w h' n' := by
 unfold RS.mid RS.dn
 cases a with
 | over a0 a1 a2 a3 => rcases act with q | q | q <;> simp_all
 | ent v a0 a1 a2 a3 a4 a5 => rw [if_pos a2, if_pos a2]; exact rstepE F fit S R ht hns hk hl a2 ((one t).1 a2).1 a3 (hv t (.inl a2))
 | wait v a0 a1 a2 a3 a4 =>
  have hs : r.setOf ops t = v := by unfold RS.setOf; rw [a0]
  rw [if_neg (by rw [a2]; simp), if_pos a3, if_neg (by rw [a2]; simp), if_pos a3, hs]
  exact rstepW F fit S R ht hns hk hl a2 a3 a0 ((ok t ht).2 _ (List.mem_of_getElem? a0)).2
 | exit a0 a1 a2 a3 a4 =>
  rw [if_neg (by rw [a1]; simp), if_neg (by rw [a2]; simp), if_neg (by rw [a1]; simp), if_neg (by rw [a2]; simp), if_neg (by rw [a3]; exact hxp.2)]
  exact rstepX F fit S R ht hns hk hl a1 a2 a4 (by rw [a3]; exact hxp.2) (by rw [a3]; exact hxp.1) (hv t (.inr a4))
 | refuse o a0 a1 a2 a3 =>
  rw [if_neg (by rw [a1]; simp), if_neg (by rw [a2]; simp), if_pos a3, if_neg (by rw [a1]; simp), if_neg (by rw [a2]; simp)]
  exact rstepR F fit S R ht hns hk hl a1 a2 a3
end Go.Proofs.YtbceiadaihphaaaGreat
set_option linter.unusedVariables false
set_option linter.unusedSimpArgs false
namespace Go.Proofs.YtbceiadaihphaaaGreat
open Go.Am
variable {e : Eng} {rep : e.σ → Nat → (Rl → Nat) → (Rl → Option ABlk) → Prop}
theorem step_mid {ops : Ops} {xp : Nat} {r : RS e} {t : Nat} (act : r.active t) : RS.step ops xp r t = if r.dn t = true then RS.next ops xp (r.mid ops t) t else r.mid ops t := by
 unfold RS.step RS.mid RS.dn
 by_cases h1 : e.ent r.s t = true
 ·simp only [if_pos h1]
  cases h2 : e.ent (e.estep r.s t) t <;> simp
 ·simp only [if_neg h1]
  by_cases h3 : e.wt r.s t = true
  ·simp only [if_pos h3]
   cases h4 : e.wt (e.wstep r.s t) t <;> simp
  ·simp only [if_neg h3]
   by_cases h5 : r.pc t = 1
   ·simp [h5]
   ·simp [h5]
end Go.Proofs.YtbceiadaihphaaaGreat
set_option linter.unusedVariables false
set_option linter.unusedSimpArgs false
namespace Go.Proofs.YtbceiadaihphaaaGreat
open Go.Am
variable {e : Eng} {rep : e.σ → Nat → (Rl → Nat) → (Rl → Option ABlk) → Prop}
noncomputable def RS.pick (ops : Ops) (xp : Nat) (r : RS e) (t : Nat) : RS e := open Classical in RS.up (if r.active t then RS.step ops xp r t else r)
theorem tfld_scr {ops : Ops} {d : Rl → Nat} {a b g : Nat} {r : RS e} {u j : Nat} (ha : 43 ≤ a) : tfld ops (upd d (a, b) g) r u j = tfld ops d r u j := by
 match j with
 | 0 => simp only [tfld]; rw [upd_tag (by omega)]
 | 1 => rfl
 | 2 => simp only [tfld]; rw [upd_tag (by omega)]
 | 3 => simp only [tfld]; rw [upd_tag (by omega)]
 | 4 => rfl
 | 5 => rfl
 | 6 => rfl
 | j + 7 => rfl
theorem tcell_scr {ops : Ops} {d : Rl → Nat} {a b g : Nat} {r : RS e} (ha : 43 ≤ a) : tcell ops (upd d (a, b) g) r = tcell ops d r := by
 funext i; exact tfld_scr ha
theorem mrow_scr {d : Rl → Nat} {a b g ns n : Nat} {l : List (Nat × Nat × Nat × Nat)} (ha : 45 ≤ a) : mrow (upd d (a, b) g) ns n l = mrow d ns n l := by
 unfold mrow evS
 rw [upd_tag (by omega), upd_tag (by omega), upd_tag (by omega), upd_tag (by omega), upd_tag (by omega)]
theorem RepR.scr {ns : Nat} (F : Face e ns rep) {ops : Ops} {k a b i : Nat} {r : RS e} {d : Rl → Nat} {C : Rl → Option ABlk} {B : Option ABlk} {f : Nat → Value} (ha : 45 ≤ a) (R : RepR rep ops ns f r k d C) : RepR rep ops ns f r k (upd d (a, b) i) (upd C (a, b) B) := by
 refine RepR.of R (F.cliC (F.cliD R.rep (by omega)) (by omega)) ?_ ?_ (fun u => ?_) (fun c => ?_) ?_ ?_
 ·rw [upd_tag (by omega), mrow_scr ha]; exact R.mach
 ·rw [upd_tag (by omega)]; exact R.thr
 ·rw [upd_tag (by omega)]
 ·rw [upd_tag (by omega)]; exact R.ev c
 ·rw [upd_tag (by omega)]
 ·rw [upd_tag (by omega)]
theorem ROut.scr {ns : Nat} (F : Face e ns rep) {ops : Ops} {k n : Nat} {r : RS e} {d d3 : Rl → Nat} {C C3 : Rl → Option ABlk} {h : PT ABlk} (S : St h n d3 C3) (R : RepR rep ops ns (tcell ops d3 r) r k d3 C3) (hm : d3 (40, 0) = d (40, 0)) (c8 : C (98, 0) = none) (c9 : C (99, 0) = none) (hx : ∀ s : Rl, 60 ≤ s.1 → s ≠ (98, 0) → s ≠ (99, 0) → d3 s = d s ∧ C3 s = C s) : ROut rep ops ns r k d C h n := by
 have S1 := (S.drop (98, 0)).redir (d' := upd d3 (98, 0) (d (98, 0))) (98, 0) upd_same (fun s c => upd_ne c)
 have S2 := (S1.drop (99, 0)).redir (d' := upd (upd d3 (98, 0) (d (98, 0))) (99, 0) (d (99, 0))) (99, 0) upd_same (fun s c => upd_ne c)
 refine ⟨_, _, S2, ?_, ⟨by simp (disch := first | decide | assumption | omega) only [rM, rW, rL, upd_same, upd_tag, upd_num, memC_ne]; exact hm, fun a b ha => ?_⟩⟩
 ·rw [tcell_scr (by omega), tcell_scr (by omega)]
  exact (R.scr F (by omega)).scr F (by omega)
 ·by_cases c1 : ((a, b) : Rl) = (99, 0)
  ·rw [c1, upd_same, upd_same]; exact ⟨rfl, c9.symm⟩
  ·rw [upd_ne c1, upd_ne c1]
   by_cases c2 : ((a, b) : Rl) = (98, 0)
   ·rw [c2, upd_same, upd_same]; exact ⟨rfl, c8.symm⟩
   ·rw [upd_ne c2, upd_ne c2]; exact hx _ ha c2 c1
theorem EvB_post {P : Program} {O : Over} {f : FuncId} {args : List Value} {h : PT ABlk} {N : Nat} {R : Value → PT ABlk → Nat → Prop} {p : Prop} (H : EvB P O f args h N R) (q : ∀ v h' n', R v h' n' → p) : p := by
 obtain ⟨_, v, h', n', _, r⟩ := H
 exact q v h' n' r
theorem nx_act {ns : Nat} {pcE pcW : e.σ → Nat → Int} (N : FaceN e ns rep pcE pcW) {h : PT ABlk} {n k t : Nat} {d : Rl → Nat} {C : Rl → Option ABlk} {ops : Ops} {f : Nat → Value} {r : RS e} (S : St h n d C) (R : RepR rep ops ns f r k d C) (ht : t < ns) : RS.nx pcE pcW r t ≠ 0 ↔ r.active t := by
 unfold RS.nx RS.active
 by_cases h1 : e.ent r.s t = true
 ·rw [if_pos h1]
  exact ⟨fun _ => .inl h1, fun _ => EvB_post (N.enextB S R.rep ht h1) fun _ _ _ q => q.2.1⟩
 ·rw [if_neg h1]
  by_cases h2 : e.wt r.s t = true
  ·rw [if_pos h2]
   exact ⟨fun _ => .inr (.inl h2), fun _ => EvB_post (N.wnextB S R.rep ht h2) fun _ _ _ q => q.2.1⟩
  ·rw [if_neg h2]
   exact ⟨fun c => .inr (.inr (by omega)), fun c => by
    rcases c with c | c | c
    ·exact absurd c h1
    ·exact absurd c h2
    ·omega⟩
theorem mid_idle {ops : Ops} {xp : Nat} {r : RS e} {t : Nat} (fit : e.Fits) (one : One e r.s) (a : At ops xp r t) (act : r.active t) (hd : r.dn t = true) : e.ent (r.mid ops t).s t = false ∧ e.wt (r.mid ops t).s t = false ∧ (r.mid ops t).idx t = r.idx t ∧ r.idx t + 1 ≤ (ops t).length := by
 unfold RS.dn at hd
 unfold RS.mid
 cases a with
 | over a0 a1 a2 a3 => rcases act with q | q | q <;> simp_all
 | ent v a0 a1 a2 a3 a4 a5 =>
  rw [if_pos a2] at hd ⊢
  obtain ⟨f1, f2, f3⟩ := fit.estep r.s t a2 ((one t).1 a2).1
  exact ⟨by simpa using hd, (f3 t).trans a3, rfl, lt_of_op a0⟩
 | wait v a0 a1 a2 a3 a4 =>
  rw [if_neg (by rw [a2]; simp), if_pos a3] at hd ⊢
  obtain ⟨f1, f2, f3⟩ := fit.wstep r.s t
  exact ⟨(f1 t).trans a2, by simpa using hd, rfl, lt_of_op a0⟩
 | exit a0 a1 a2 a3 a4 =>
  rw [if_neg (by rw [a1]; simp), if_neg (by rw [a2]; simp)]
  split
  ·exact ⟨a1, a2, rfl, lt_of_op a0⟩
  ·obtain ⟨f1, f2, f3⟩ := fit.exit r.s t a4
   exact ⟨(f1 t).trans a1, (f3 t).trans a2, rfl, lt_of_op a0⟩
 | refuse o a0 a1 a2 a3 =>
  rw [if_neg (by rw [a1]; simp), if_neg (by rw [a2]; simp), if_pos a3]
  exact ⟨a1, a2, rfl, lt_of_op a0⟩
theorem mid_n {ops : Ops} {r : RS e} {t : Nat} : (r.mid ops t).n = r.n := by
 unfold RS.mid; split
 ·rfl
 ·split
  ·rfl
  ·split <;> rfl
end Go.Proofs.YtbceiadaihphaaaGreat
set_option linter.unusedVariables false
set_option linter.unusedSimpArgs false
namespace Go.Proofs.YtbceiadaihphaaaGreat
open Go.Am
variable {e : Eng} {rep : e.σ → Nat → (Rl → Nat) → (Rl → Option ABlk) → Prop}
theorem _root_.Go.Am.St.cast {h h' : PT ABlk} {n : Nat} {d : Rl → Nat} {C : Rl → Option ABlk} (S : St h n d C) (e : h = h') : St h' n d C := e ▸ S
theorem RepR.scr' {ns : Nat} (F : Face e ns rep) {ops : Ops} {k a b i : Nat} {r : RS e} {d : Rl → Nat} {C : Rl → Option ABlk} {B : Option ABlk} (ha : 45 ≤ a) (R : RepR rep ops ns (tcell ops d r) r k d C) : RepR rep ops ns (tcell ops (upd d (a, b) i) r) r k (upd d (a, b) i) (upd C (a, b) B) := by
 rw [tcell_scr (by omega)]; exact R.scr F ha
theorem RepR.ups {ns : Nat} (F : Face e ns rep) {ops : Ops} {k : Nat} {r : RS e} {d : Rl → Nat} {C : Rl → Option ABlk} (R : RepR rep ops ns (tcell ops d r) r k d C) : RepR rep ops ns (tcell ops d r.up) r.up k d (upd C (40, 0) (row (mrow d ns (r.n + 1) r.ev))) := by
 have q : tcell ops d r.up = tcell ops d r := rfl
 rw [q]
 exact RepR.of R (F.cliC R.rep (by omega)) upd_same (by rw [upd_tag (by decide)]; exact R.thr) (fun u => by rw [upd_tag (by decide)]) (fun c => by rw [upd_tag (by decide)]; exact R.ev c) (by rw [upd_tag (by decide)]) rfl
theorem RepR.scrC {ns : Nat} (F : Face e ns rep) {ops : Ops} {k a b : Nat} {r : RS e} {d : Rl → Nat} {C : Rl → Option ABlk} {B : Option ABlk} {f : Nat → Value} (ha : 45 ≤ a) (R : RepR rep ops ns f r k d C) : RepR rep ops ns f r k d (upd C (a, b) B) := by
 have := R.scr (a := a) (b := b) (i := d (a, b)) (B := B) F ha
 rwa [upd_id rfl] at this
theorem RepR.bump {ns : Nat} (F : Face e ns rep) {ops : Ops} {k : Nat} {r : RS e} {x : Nat → Nat} {d : Rl → Nat} {C : Rl → Option ABlk} {f g : Nat → Value} (R : RepR rep ops ns f r k d C) : RepR rep ops ns g ({ r with idx := x } : RS e) k d (upd C (41, 0) (some (.cells (PT.ofList .leaf 0 (rowf (8 * ns) g)) false))) :=
 RepR.of R (F.cliC R.rep (by omega)) (by rw [upd_tag (by decide)]; exact R.mach) upd_same (fun u => by rw [upd_tag (by decide)]) (fun c => by rw [upd_tag (by decide)]; exact R.ev c) (by rw [upd_tag (by decide)]) rfl
theorem beg_n {ops : Ops} {xp : Nat} {r : RS e} {k : Nat} : (RS.beg ops xp r k).n = r.n := by
 unfold RS.beg; split
 ·rfl
 ·split
  ·rfl
  ·split
   ·rfl
   ·split <;> rfl
theorem tfld_idx {ops : Ops} {d : Rl → Nat} {r : RS e} {t u j : Nat} {x : Nat} (h : u ≠ t ∨ j ≠ 1) : tfld ops d ({ r with idx := fs r.idx t x } : RS e) u j = tfld ops d r u j := by
 match j with
 | 0 => rfl
 | 1 =>
  rcases h with h | h
  ·show I6 ((fs r.idx t x u : Nat) : Int) = I6 (r.idx u : Nat); rw [fs_ne h]
  ·exact absurd rfl h
 | 2 => rfl
 | 3 => rfl
 | 4 => rfl
 | 5 => rfl
 | 6 => rfl
 | j + 7 => rfl
theorem hole_idx {ops : Ops} {ns t : Nat} {d : Rl → Nat} {r : RS e} {f : Nat → Value} (ho : Hole ops ns t d r f) : Hole ops ns t d ({ r with idx := fs r.idx t (r.idx t + 1) } : RS e) (fs f (t * 8 + 1) (I6 ((r.idx t : Int) + 1))) := by
 refine ⟨fun u j hu c hj => ?_, fun j hj h2 h3 h4 => ?_⟩
 ·rw [fs_ne (by omega), tfld_idx (.inl c)]; exact ho.1 u j hu c hj
 ·by_cases c : j = 1
  ·subst c
   rw [fs_same]
   show _ = I6 ((fs r.idx t (r.idx t + 1) t : Nat) : Int)
   rw [fs_same]; rfl
  ·rw [fs_ne (by omega), tfld_idx (.inr c)]; exact ho.2 j hj h2 h3 h4
set_option maxRecDepth 100000 in
set_option maxHeartbeats 4000000 in
theorem rpickB {ns : Nat} {pcE pcW : e.σ → Nat → Int} (hns : 0 < ns ∧ ns ≤ 64) (F : Face e ns rep) (N : FaceN e ns rep pcE pcW) (fit : e.Fits) {kd xp : Nat} (hkind : ∀ {s k d C}, rep s k d C → ∃ x z, C (4, 0) = row [x, U8 kd, z]) (hxp : xp = if kd = 3 then 16 else 13) {h : PT ABlk} {n k t : Nat} {x : Int} {d : Rl → Nat} {C : Rl → Option ABlk} {ops : Ops} {r : RS e} (ok : OpsOk ops ns) (S : St h n d C) (R : RepR rep ops ns (tcell ops d r) r k d C) (ht : t < ns) (hx : (x.tmod ns + ns).tmod ns = t) (one : One e r.s) (a : At ops xp r t) (hv : ∀ k, e.ent r.s k = true ∨ e.inn r.s k = true → r.val k < 64) (hk : k ≤ 80000) (hl : r.ev.length ≤ 80000) (hn : r.n ≤ 1000000) (c8 : C (98, 0) = none) (c9 : C (99, 0) = none) :
  EvB Tryz.prog OP 13 [pt (d (40, 0)), I6 x] h n fun v h' n' => (∃ pc acc dn, v = tup [.agg ⟨[I6 t, U8 pc, .bool acc, .bool dn, .bool dn]⟩, I6 0]) ∧ ∃ k', k' ≤ k + 1 ∧ ROut rep ops ns (RS.pick ops xp r t) k' d C h' n' := by
 subst hxp
 have g40 := S.at R.mach
 have n40 := S.lt R.mach
 have t1 : (t : Int) < ns := by omega
 simp only [mrow] at g40
 refine EvB_run (N := 77) Tryz.func13 rfl rfl fun z hP hO hro hN hQ => ?_
 repeat' first | simp (maxSteps := 2000000) (disch := first | omega | assumption) only [go_sem, *] | (apply xs <;> intro _) <;> try omega
 refine cal (pickB (S.new (98, 0) _ (Nat.le_refl _) (Nat.lt_succ_self _)) hns) (by simp only [*]) (by simp only [*]) (by simp only [go_sem, *]) (by simp only [go_sem, *]) ?_
 rintro rr h1 n1 ⟨rfl, S1⟩
 rw [hx]
 have R1 := RepR.scr' (a := 98) (b := 0) (i := n) (B := row [I6 0, U8 0, .bool false, .bool false, .bool false]) F (by omega) R
 have g40a := S1.at R1.mach
 rw [upd_tag (by decide), mrow_scr (by omega)] at g40a
 simp only [mrow] at g40a
 have m40a := S1.lt R1.mach
 rw [upd_tag (by decide)] at m40a
 clear g40
 repeat' first | simp (maxSteps := 2000000) (disch := first | omega | assumption) only [go_sem, *] | (apply xs <;> intro _) <;> try omega
 obtain ⟨d2, C2, S2, R2, z8, z9, zd8, zd9, zx⟩ : ∃ d2 C2, St ((h1.set n1 (some (.cells (PT.ofList .leaf 0 [I6 0, U8 0, .bool false, .bool false, .bool false]) false))).set n1 (some (.cells (PT.ofList .leaf 0 [I6 t, U8 0, .bool false, .bool false, .bool false]) false))) (n1 + 1) d2 C2 ∧ RepR rep ops ns (tcell ops d2 r) r k d2 C2 ∧ C2 (98, 0) = row [I6 0, U8 0, .bool false, .bool false, .bool false] ∧ C2 (99, 0) = row [I6 t, U8 0, .bool false, .bool false, .bool false] ∧ d2 (98, 0) = n ∧ d2 (99, 0) = n1 ∧ ∀ s, s ≠ (98, 0) → s ≠ (99, 0) → d2 s = d s ∧ C2 s = C s := ⟨_, _, ((S1.new (99, 0) _ (Nat.le_refl _) (Nat.lt_succ_self _)).set (99, 0) (.cells (PT.ofList .leaf 0 [I6 t, U8 0, .bool false, .bool false, .bool false]) false) upd_same upd_same).eq upd_upd rfl, RepR.scr' F (by omega) R1, by (simp (disch := first | decide | assumption | omega) only [rM, rW, rL, upd_same, upd_tag, upd_num, memC_ne]) <;> rfl, by (simp (disch := first | decide | assumption | omega) only [rM, rW, rL, upd_same, upd_tag, upd_num, memC_ne]) <;> rfl, by (simp (disch := first | decide | assumption | omega) only [rM, rW, rL, upd_same, upd_tag, upd_num, memC_ne]) <;> rfl, by (simp (disch := first | decide | assumption | omega) only [rM, rW, rL, upd_same, upd_tag, upd_num, memC_ne]) <;> rfl, fun s h8 h9 => ⟨by rw [upd_ne h9, upd_ne h8], by rw [upd_ne h9, upd_ne h8]⟩⟩
 clear R1 S1 g40a
 have act := nx_act N S2 R2 ht
 have e40 : d2 (40, 0) = d (40, 0) := (zx _ (by decide) (by decide)).1
 have e41 : d2 (41, 0) = d (41, 0) := (zx _ (by decide) (by decide)).1
 have en := rnextB N S2 R2 ht
 rw [e41] at en
 refine cal (en) (by simp only [*]) (by simp only [*]) (by simp only [go_sem, *]) (by simp only [go_sem, *]) ?_
 rintro rr h2 n2 ⟨rfl, S3⟩
 clear en S2
 by_cases hact : r.active t
 ·have hnx := act.2 hact
  have en := rstepB F fit (xp := if kd = 3 then 16 else 13) (by split <;> decide) ok S3 R2 ht hns.2 (by omega) (by omega) one a hact hv
  have g40 := S3.at R2.mach
  rw [e40] at g40 en
  simp only [mrow] at g40
  have g99 := S3.at z9
  rw [zd9] at g99
  have hmn : (RS.mid ops r t).n = r.n := mid_n
  repeat' first | simp (maxSteps := 2000000) (disch := first | omega | assumption) only [go_sem, *] | (apply xs <;> intro _) <;> try omega
  refine cal (en) (by simp only [*]) (by simp only [*]) (by simp only [go_sem, *]) (by simp only [go_sem, *]) ?_
  rintro rr h3 n3 ⟨pc, k', d3, C3, f, rfl, hk', S4, R4, X4, ho, hf⟩
  clear en g40 g99 S3
  have e40b : d3 (40, 0) = d (40, 0) := X4.m.trans e40
  have y8 := (X4.x 98 0 (by omega)).2.trans z8
  have y9 := (X4.x 99 0 (by omega)).2.trans z9
  have yd8 := (X4.x 98 0 (by omega)).1.trans zd8
  have yd9 := (X4.x 99 0 (by omega)).1.trans zd9
  have g98 := S4.at y8
  have g99 := S4.at y9
  have g40 := S4.at R4.mach
  rw [yd8] at g98
  rw [yd9] at g99
  rw [e40b] at g40
  simp only [mrow] at g40
  have n98 := S4.lt y8
  have n99 := S4.lt y9
  rw [yd8] at n98
  rw [yd9] at n99
  have m40 := S4.lt R4.mach
  rw [e40b] at m40
  have w1 := S4.df R4.mach y8 (by simp)
  have w2 := S4.df R4.mach y9 (by simp)
  have w3 := S4.df y8 y9 (by simp)
  rw [e40b, yd8] at w1
  rw [e40b, yd9] at w2
  rw [yd8, yd9] at w3
  cases hd : r.dn t with
  | false =>
   repeat' first | simp (maxSteps := 2000000) (disch := first | omega | assumption) only [go_sem, *] | (apply xs <;> intro _) <;> try omega
   have hT := hf hd
   have R5 : RepR rep ops ns (tcell ops d3 (RS.mid ops r t)) (RS.mid ops r t) k' d3 C3 := RepR.of R4 R4.rep R4.mach (R4.thr.trans (by rw [hT])) (fun _ => rfl) (fun c => R4.ev c) rfl rfl
   refine ⟨⟨_, _, _, rfl⟩, k', hk', ?_⟩
   have hp : RS.pick ops (if kd = 3 then 16 else 13) r t = (RS.mid ops r t).up := by
    unfold RS.pick; rw [if_pos hact, step_mid hact, hd]; rfl
   rw [hp]
   have hu : ((RS.mid ops r t).n : Int) + 1 = (r.n : Int) + 1 := by rw [hmn]
   have hm : mrow d3 ns ((RS.mid ops r t).n + 1) (RS.mid ops r t).ev = [pt (d3 rM), pt (d3 (4, 0)), .slice (some ⟨d3 (41, 0), 0, none⟩) ns (capInf + 8), evS d3 (RS.mid ops r t).ev, I6 ((r.n : Int) + 1), .map (some (d3 (44, 0)))] := by rw [← hu]; rfl
   refine ROut.scr F ((((((S4.set (99, 0) _ y9 yd9).set (99, 0) _ upd_same yd9).set (99, 0) _ upd_same yd9).set (99, 0) _ upd_same yd9).set (40, 0) (.cells (PT.ofList .leaf 0 (mrow d3 ns ((RS.mid ops r t).n + 1) (RS.mid ops r t).ev)) false) (by simp (disch := first | decide | assumption | omega) only [rM, rW, rL, upd_same, upd_tag, upd_num, memC_ne]; exact R4.mach) e40b |>.cast (by rw [hm])).set (98, 0) _ (by simp (disch := first | decide | assumption | omega) only [rM, rW, rL, upd_same, upd_tag, upd_num, memC_ne]; exact y8) yd8) ((((((R5.scrC F (by omega)).scrC F (by omega)).scrC F (by omega)).scrC F (by omega)).ups F).scrC F (by omega)) e40b c8 c9 fun s hs h8 h9 => ?_
   have h4 : s ≠ (40, 0) := fun q => by rw [q] at hs; omega
   rw [upd_ne h8, upd_ne h4, upd_ne h9, upd_ne h9, upd_ne h9, upd_ne h9]
   obtain ⟨sa, sb⟩ := s
   exact ⟨(X4.x sa sb hs).1.trans (zx _ h8 h9).1, (X4.x sa sb hs).2.trans (zx _ h8 h9).2⟩
  | true =>
   obtain ⟨i1, i2, i3, i4⟩ := mid_idle (ops := ops) fit one a hact hd
   have g41 := S4.at R4.thr
   have n41 := S4.lt R4.thr
   have w4 := S4.df R4.mach R4.thr (by simp)
   have w5 := S4.df R4.thr y9 (by simp)
   have w6 := S4.df R4.thr y8 (by simp)
   rw [e40b] at w4
   rw [yd9] at w5
   rw [yd8] at w6
   have hf1 : f (t * 8 + 1) = I6 ((RS.mid ops r t).idx t) := ho.2 1 (by omega) (by omega) (by omega) (by omega)
   have hidx := (ok t ht).1
   rw [i3] at hf1
   have hi30 : r.idx t ≤ 30 := by omega
   repeat' first | simp (maxSteps := 2000000) (disch := first | omega | assumption) only [go_sem, *] | (apply xs <;> intro _) <;> try omega
   have ho2 := hole_idx ho
   rw [i3] at ho2
   rw [← e40b]
   refine cal (rbegB hns F fit hkind rfl ok (((((S4.set (99, 0) _ y9 yd9).set (99, 0) _ upd_same yd9).set (99, 0) _ upd_same yd9).set (99, 0) _ upd_same yd9).set (41, 0) (.cells (PT.ofList .leaf 0 (rowf (8 * ns) (fs f (t * 8 + 1) (I6 ((r.idx t : Int) + 1))))) false) (by simp (disch := first | decide | assumption | omega) only [rM, rW, rL, upd_same, upd_tag, upd_num, memC_ne]; exact R4.thr) rfl) (r := { RS.mid ops r t with idx := fs (RS.mid ops r t).idx t (r.idx t + 1) }) (RepR.bump F ((((R4.scrC (a := 99) (b := 0) F (by omega)).scrC (a := 99) (b := 0) F (by omega)).scrC (a := 99) (b := 0) F (by omega)).scrC (a := 99) (b := 0) F (by omega))) ho2 ht i1 i2 (by show fs _ t _ t ≤ _; rw [fs_same]; exact i4) (by omega)) (by simp only [*]) (by simp only [*]) (by simp only [go_sem, *]) (by simp only [go_sem, *]) ?_
   rintro rr h5 n5 ⟨rfl, d4, C4, S6, R6, X6⟩
   have e40c : d4 (40, 0) = d (40, 0) := X6.m.trans e40b
   have x8 : C4 (98, 0) = _ := (X6.x 98 0 (by omega)).2.trans (by simp (disch := first | decide | assumption | omega) only [rM, rW, rL, upd_same, upd_tag, upd_num, memC_ne]; exact y8)
   have x9 : C4 (99, 0) = _ := (X6.x 99 0 (by omega)).2.trans (by (simp (disch := first | decide | assumption | omega) only [rM, rW, rL, upd_same, upd_tag, upd_num, memC_ne]) <;> rfl)
   have xd8 := (X6.x 98 0 (by omega)).1.trans yd8
   have xd9 := (X6.x 99 0 (by omega)).1.trans yd9
   clear g98 g99 g40 w1 w2 w3 w4 w5 w6 g41
   have g98 := S6.at x8
   have g99 := S6.at x9
   have g40 := S6.at R6.mach
   rw [xd8] at g98
   rw [xd9] at g99
   rw [e40c] at g40
   simp only [mrow] at g40
   have n98 := S6.lt x8
   have n99 := S6.lt x9
   rw [xd8] at n98
   rw [xd9] at n99
   have m40 := S6.lt R6.mach
   rw [e40c] at m40
   have w1 := S6.df R6.mach x8 (by simp)
   have w2 := S6.df R6.mach x9 (by simp)
   have w3 := S6.df x8 x9 (by simp)
   rw [e40c, xd8] at w1
   rw [e40c, xd9] at w2
   rw [xd8, xd9] at w3
   have hR : (RS.beg ops (if kd = 3 then 16 else 13) ({ RS.mid ops r t with idx := fs (RS.mid ops r t).idx t (r.idx t + 1) } : RS e) t) = RS.next ops (if kd = 3 then 16 else 13) (RS.mid ops r t) t := by unfold RS.next; rw [i3]
   rw [hR] at R6 g40
   have hnn : (RS.next ops (if kd = 3 then 16 else 13) (RS.mid ops r t) t).n = r.n := beg_n.trans mid_n
   repeat' first | simp (maxSteps := 2000000) (disch := first | omega | assumption) only [go_sem, *] | (apply xs <;> intro _) <;> try omega
   refine ⟨⟨_, _, _, rfl⟩, k', hk', ?_⟩
   have hp : RS.pick ops (if kd = 3 then 16 else 13) r t = (RS.next ops (if kd = 3 then 16 else 13) (RS.mid ops r t) t).up := by
    unfold RS.pick; rw [if_pos hact, step_mid hact, hd]; rfl
   rw [hp]
   generalize RS.next ops (if kd = 3 then 16 else 13) (RS.mid ops r t) t = q at *
   have hm : mrow d4 ns (q.n + 1) q.ev = [pt (d4 rM), pt (d4 (4, 0)), .slice (some ⟨d4 (41, 0), 0, none⟩) ns (capInf + 8), evS d4 q.ev, I6 ((r.n : Int) + 1), .map (some (d4 (44, 0)))] := by rw [← hnn]; rfl
   refine ROut.scr F ((S6.set (40, 0) (.cells (PT.ofList .leaf 0 (mrow d4 ns (q.n + 1) q.ev)) false) R6.mach e40c |>.cast (by rw [hm])).set (98, 0) _ (by simp (disch := first | decide | assumption | omega) only [rM, rW, rL, upd_same, upd_tag, upd_num, memC_ne]; exact x8) xd8) ((R6.ups F).scrC F (by omega)) e40c c8 c9 fun s hs h8 h9 => ?_
   have h4 : s ≠ (40, 0) := fun q => by rw [q] at hs; omega
   have h5 : s ≠ (41, 0) := fun q => by rw [q] at hs; omega
   obtain ⟨sa, sb⟩ := s
   rw [upd_ne h8, upd_ne h4]
   refine ⟨((X6.x sa sb hs).1.trans (X4.x sa sb hs).1).trans (zx _ h8 h9).1, (X6.x sa sb hs).2.trans ?_⟩
   rw [upd_ne h5, upd_ne h9, upd_ne h9, upd_ne h9, upd_ne h9]
   exact (X4.x sa sb hs).2.trans (zx _ h8 h9).2
 ·have hnx : RS.nx pcE pcW r t = 0 := Classical.byContradiction fun c => hact (act.1 c)
  have g40 := S3.at R2.mach
  rw [e40] at g40
  simp only [mrow] at g40
  have g98 := S3.at z8
  have g99 := S3.at z9
  rw [zd8] at g98
  rw [zd9] at g99
  have n98 := S3.lt z8
  have n99 := S3.lt z9
  rw [zd8] at n98
  rw [zd9] at n99
  have m40 := S3.lt R2.mach
  rw [e40] at m40
  have w1 := S3.df R2.mach z8 (by simp)
  have w2 := S3.df R2.mach z9 (by simp)
  have w3 := S3.df z8 z9 (by simp)
  rw [e40, zd8] at w1
  rw [e40, zd9] at w2
  rw [zd8, zd9] at w3
  have e41' := e41
  clear e41
  repeat' first | simp (maxSteps := 2000000) (disch := first | omega | assumption) only [go_sem, *] | (apply xs <;> intro _) <;> try omega
  refine ⟨⟨_, _, _, rfl⟩, k, by omega, ?_⟩
  have hp : RS.pick ops (if kd = 3 then 16 else 13) r t = r.up := by unfold RS.pick; rw [if_neg hact]
  rw [hp]
  have hm : mrow d2 ns (r.n + 1) r.ev = [pt (d2 rM), pt (d2 (4, 0)), .slice (some ⟨d2 (41, 0), 0, none⟩) ns (capInf + 8), evS d2 r.ev, I6 ((r.n : Int) + 1), .map (some (d2 (44, 0)))] := rfl
  refine ROut.scr F ((S3.set (40, 0) (.cells (PT.ofList .leaf 0 (mrow d2 ns (r.n + 1) r.ev)) false) R2.mach e40 |>.cast (by rw [hm, e41'])).set (98, 0) _ (by simp (disch := first | decide | assumption | omega) only [rM, rW, rL, upd_same, upd_tag, upd_num, memC_ne]; exact z8) zd8) ((R2.ups F).scrC F (by omega)) e40 c8 c9 fun s hs h8 h9 => ?_
  have h4 : s ≠ (40, 0) := fun q => by rw [q] at hs; omega
  rw [upd_ne h8, upd_ne h4]
  exact zx _ h8 h9
end Go.Proofs.YtbceiadaihphaaaGreat
set_option linter.unusedVariables false
set_option linter.unusedSimpArgs false
namespace Go.Proofs.YtbceiadaihphaaaGreat
open Go.Am
variable {e : Eng}
def RS.zero (s0 : e.σ) : RS e := ⟨s0, fun _ => 0, fun _ => 0, fun _ => false, fun _ => 0, 0, []⟩
def RS.begs (ops : Ops) (xp : Nat) (r : RS e) : Nat → RS e
 | 0 => r
 | i + 1 => RS.beg ops xp (RS.begs ops xp r i) i
theorem beg_s {ops : Ops} {xp : Nat} (fit : e.Fits) {r : RS e} {k u : Nat} (c : u ≠ k) : e.ent (RS.beg ops xp r k).s u = e.ent r.s u ∧ e.wt (RS.beg ops xp r k).s u = e.wt r.s u := by
 unfold RS.beg
 split
 ·exact ⟨rfl, rfl⟩
 ·split
  ·rename_i q
   obtain ⟨f1, f2, f3⟩ := fit.enter r.s k _ q.2.2
   exact ⟨(f1 u).trans (if_neg c), f3 u⟩
  ·split
   ·exact ⟨rfl, rfl⟩
   ·split
    ·obtain ⟨f1, f2, f3⟩ := fit.wait r.s k _
     exact ⟨f1 u, (f3 u).trans (if_neg c)⟩
    ·exact ⟨rfl, rfl⟩
theorem begs_inv {hasv : e.σ → Nat → Nat → Prop} {guard fresh : e.σ → Nat → Nat → Prop} {ng : Nat} (G : e.Grace ng hasv guard) (Fr : e.Fresh ng hasv guard fresh) {s0 : e.σ} (idle : ∀ t, e.ent s0 t = false ∧ e.wt s0 t = false ∧ e.inn s0 t = false) {ops : Ops} {xp : Nat} : ∀ i, RInv ops xp hasv fresh i (RS.begs ops xp (RS.zero s0) i) ∧ (∀ u, i ≤ u → e.ent (RS.begs ops xp (RS.zero s0) i).s u = false ∧ e.wt (RS.begs ops xp (RS.zero s0) i).s u = false) ∧ (∀ u, e.inn (RS.begs ops xp (RS.zero s0) i).s u = false) ∧ (RS.begs ops xp (RS.zero s0) i).idx = (fun _ => 0) ∧ (RS.begs ops xp (RS.zero s0) i).n = 0 ∧ (RS.begs ops xp (RS.zero s0) i).ev = []
 | 0 => by
  refine ⟨⟨fun t => ?_, fun k hk => absurd hk (by omega), fun k h => ?_, fun k v hk => absurd hk (by omega), fun k hk => absurd hk (by omega)⟩, fun u _ => ⟨(idle u).1, (idle u).2.1⟩, fun u => (idle u).2.2, rfl, rfl, rfl⟩
  ·obtain ⟨i1, i2, i3⟩ := idle t
   exact ⟨fun q => by rw [show e.ent (RS.begs ops xp (RS.zero s0) 0).s t = false from i1] at q; simp at q, fun _ => i2⟩
  ·obtain ⟨i1, i2, i3⟩ := idle k
   rcases h with h | h
   ·rw [show e.ent (RS.begs ops xp (RS.zero s0) 0).s k = false from i1] at h; simp at h
   ·rw [show e.inn (RS.begs ops xp (RS.zero s0) 0).s k = false from i3] at h; simp at h
 | i + 1 => by
  obtain ⟨I, h1, h2, h3, h4, h5⟩ := begs_inv G Fr idle (ops := ops) (xp := xp) i
  have p : RPre ops xp hasv fresh (i + 1) (RS.begs ops xp (RS.zero s0) i) i := ⟨I.one, fun u hu c => I.at_ u (by omega), h1 i (Nat.le_refl _), I.val, fun u v hu c => I.fr u v (by omega), fun u hu => by rw [h3]; exact Nat.zero_le _⟩
  obtain ⟨I', q1, q2, q3, q4⟩ := RPre.beg G Fr p
  refine ⟨I', fun u hu => ?_, fun u => (q4 u).trans (h2 u), q1.trans h3, q2.trans h4, q3.trans h5⟩
  obtain ⟨b1, b2⟩ := beg_s (ops := ops) (xp := xp) G.fits (r := RS.begs ops xp (RS.zero s0) i) (show u ≠ i by omega)
  obtain ⟨c1, c2⟩ := h1 u (by omega)
  exact ⟨b1.trans c1, b2.trans c2⟩
end Go.Proofs.YtbceiadaihphaaaGreat
set_option linter.unusedVariables false
set_option linter.unusedSimpArgs false
namespace Go.Proofs.YtbceiadaihphaaaGreat
open Go.Am
theorem memNewS {h : PT ABlk} {n b cap : Nat} {d : Rl → Nat} {C : Rl → Option ABlk} {W : List Int} {ro : Bool} (S : St h n d C) (hb : h.get b = rowr (W.map (.int .u64)) ro) (h1 : 0 < W.length) (h2 : W.length ≤ 65536) :
  EvB Tryz.prog OP 31 [.slice (some ⟨b, 0, none⟩) W.length cap] h n fun v h' n' => ∃ d' C', v = tup [pt (d' rM), I6 0] ∧ St h' n' d' C' ∧ IsM d' C' W [] 0 ∧ ∀ a b, 2 < a → d' (a, b) = d (a, b) ∧ C' (a, b) = C (a, b) := by
 obtain ⟨kk, v, h', n', e, rfl, rfl, q1, q2, q3, q4⟩ := memNewB (O := OP) rfl rfl b cap W ro h n S.wf hb h1 h2
 refine ⟨kk, _, h', _, e, _, _, by simp (disch := first | decide | assumption | omega) only [rM, rW, rL, upd_same, upd_tag, upd_num, memC_ne], ((S.kept q3 q4).give rW q2 fun s D c => ?_).give rM q1 fun s D c => ?_, ⟨by simp (disch := first | decide | assumption | omega) only [rM, rW, rL, upd_same, upd_tag, upd_num, memC_ne]; rfl, by simp (disch := first | decide | assumption | omega) only [rM, rW, rL, upd_same, upd_tag, upd_num, memC_ne], .inl ⟨rfl, rfl⟩, rfl⟩, fun a b c => ⟨by simp (disch := first | decide | assumption | omega) only [rM, rW, rL, upd_same, upd_tag, upd_num, memC_ne], by simp (disch := first | decide | assumption | omega) only [rM, rW, rL, upd_same, upd_tag, upd_num, memC_ne]⟩⟩
 ·have := S.lt c; omega
 ·by_cases c2 : s = rW
  ·subst c2; rw [upd_same]; omega
  ·rw [upd_ne c2] at c ⊢
   have := S.lt c; omega
theorem IsM.of {d d' : Rl → Nat} {C C' : Rl → Option ABlk} {W : List Int} {L : List Value} {k : Nat} (M : IsM d C W L k) (hd : ∀ a, a < 3 → d' (a, 0) = d (a, 0) ∧ C' (a, 0) = C (a, 0)) : IsM d' C' W L k := by
 obtain ⟨m1, m2, m3, m4⟩ := M
 refine ⟨?_, ?_, ?_, m4⟩
 ·rw [(hd 0 (by omega)).2, (hd 1 (by omega)).1, (hd 2 (by omega)).1]; exact m1
 ·rw [(hd 1 (by omega)).2]; exact m2
 ·rw [(hd 2 (by omega)).2]; exact m3
def FS.new : FS := ⟨fun _ => 0, fun _ => false, fun _ => none⟩
theorem repF_new {ns : Nat} {d : Rl → Nat} {C : Rl → Option ABlk} (M : IsM d C (nl ns fun _ => 0) [] 0) (E : EngF d C 0 ns (nl ns fun _ => 0) (bl ns fun _ => false)) : RepF ns FS.new 0 d C :=
 ⟨⟨[], M⟩, E, fun _ _ => Nat.le_refl _, fun _ _ h => by simp [FS.new] at h, fun _ _ h => by simp [FS.new] at h, fun _ _ _ h => by simp [FS.new] at h⟩
structure Start (e : Eng) (ns : Nat) (rep : e.σ → Nat → (Rl → Nat) → (Rl → Option ABlk) → Prop) (kd nb nw : Nat) (s0 : e.σ) : Prop where
 wpos : 0 < nw ∧ nw ≤ 65536
 wordsB : ∀ {h : PT ABlk} {n : Nat} {d : Rl → Nat} {C : Rl → Option ABlk}, St h n d C → EvB Tryz.prog OP 30 [U8 kd, I6 ns, I6 nb] h n fun r h' n' => r = tup [I6 nw, I6 0] ∧ St h' n' d C
 newB : ∀ {h : PT ABlk} {n : Nat} {d : Rl → Nat} {C : Rl → Option ABlk}, St h n d C → IsM d C (nl nw fun _ => 0) [] 0 → C (20, 0) = none → EvB Tryz.prog OP 32 [pt (d rM), U8 kd, I6 0, I6 ns, I6 nb] h n fun r h' n' => ∃ d' C', r = tup [pt (d' (4, 0)), I6 0] ∧ St h' n' d' C' ∧ rep s0 0 d' C' ∧ d' rM = d rM ∧ ∀ a b, 30 ≤ a → d' (a, b) = d (a, b) ∧ C' (a, b) = C (a, b)
 idle : ∀ t, e.ent s0 t = false ∧ e.wt s0 t = false ∧ e.inn s0 t = false
set_option maxRecDepth 100000 in
set_option maxHeartbeats 4000000 in
theorem startF {ns : Nat} (hns : 0 < ns ∧ ns ≤ 64) : Start (engF ns) ns (RepF ns) 1 0 ns FS.new := by
 refine ⟨by omega, fun {h n d C} S => ?_, fun {h n d C} S M sc => ?_, fun t => ⟨rfl, rfl, rfl⟩⟩
 ·obtain ⟨hn1, hn2⟩ := hns
  have hc0 : ¬ (ns : Int) < 1 := by omega
  have hc1 : ¬ (64 : Int) < ns := by omega
  refine EvB_run (N := 41) Tryz.func30 rfl rfl fun z hP hO hro hN hQ => ?_
  repeat' first | simp (maxSteps := 2000000) (disch := first | omega | assumption) only [go_sem, *] | (apply xs <;> intro _) <;> try omega | refine fun (_ _ : List Nat) => ?_ | (first | refine inQ Tryz.func61 rfl ?_ ?_ ?_ ?_ | fail) <;> intros
 ·obtain ⟨kk, v, h', n', q, d', C', rfl, S', E, k'⟩ := newFB S M hns nl_length
  refine ⟨kk, _, h', n', q, d', C', rfl, S', repF_new (M.of fun a ha => k' a 0 (by omega) (by omega) (by omega) (by omega)) E, (k' 0 0 (by omega) (by omega) (by omega) (by omega)).1, fun a b c => k' a b (by omega) (by omega) (by omega) (by omega)⟩
set_option maxRecDepth 100000 in
set_option maxHeartbeats 4000000 in
theorem startE {ns : Nat} (hns : 0 < ns ∧ ns ≤ 64) : Start (engE ns) ns (RepE ns) 2 0 (2 * ns) ES.new := by
 refine ⟨by omega, fun {h n d C} S => ?_, fun {h n d C} S M sc => ?_, fun t => ⟨rfl, rfl, rfl⟩⟩
 ·obtain ⟨hn1, hn2⟩ := hns
  have hc0 : ¬ (ns : Int) < 1 := by omega
  have hc1 : ¬ (64 : Int) < ns := by omega
  have hc2 : ((2 * ns : Nat) : Int) = 2 * (ns : Int) := by omega
  rw [hc2]
  clear hc2
  refine EvB_run (N := 41) Tryz.func30 rfl rfl fun z hP hO hro hN hQ => ?_
  repeat' first | simp (maxSteps := 2000000) (disch := first | omega | assumption) only [go_sem, *] | (apply xs <;> intro _) <;> try omega | refine fun (_ _ : List Nat) => ?_ | (first | refine inQ Tryz.func62 rfl ?_ ?_ ?_ ?_ | fail) <;> intros
 ·obtain ⟨kk, v, h', n', q, d', C', rfl, S', E, k'⟩ := newEB S M hns nl_length
  refine ⟨kk, _, h', n', q, d', C', rfl, S', repE_new (M.of fun a ha => k' a 0 (by omega) (by omega) (by omega) (by omega)) E, (k' 0 0 (by omega) (by omega) (by omega) (by omega)).1, fun a b c => k' a b (by omega) (by omega) (by omega) (by omega)⟩
set_option maxRecDepth 100000 in
set_option maxHeartbeats 4000000 in
theorem startG {ns nb : Nat} (hns : 0 < ns ∧ ns ≤ 64) (hnb : 0 < nb ∧ nb ≤ 16) : Start (engG ns nb) ns (RepG ns nb) 3 nb (4 * nb) GS.new := by
 refine ⟨by omega, fun {h n d C} S => ?_, fun {h n d C} S M sc => ?_, fun t => ⟨rfl, rfl, rfl⟩⟩
 ·obtain ⟨hn1, hn2⟩ := hns
  obtain ⟨hn3, hn4⟩ := hnb
  have hc0 : ¬ (ns : Int) < 1 := by omega
  have hc1 : ¬ (64 : Int) < ns := by omega
  have hc2 : ((4 * nb : Nat) : Int) = 4 * (nb : Int) := by omega
  have hc3 : ¬ (nb : Int) < 1 := by omega
  have hc4 : ¬ (16 : Int) < nb := by omega
  rw [hc2]
  clear hc2
  refine EvB_run (N := 41) Tryz.func30 rfl rfl fun z hP hO hro hN hQ => ?_
  repeat' first | simp (maxSteps := 2000000) (disch := first | omega | assumption) only [go_sem, *] | (apply xs <;> intro _) <;> try omega | refine fun (_ _ : List Nat) => ?_ | (first | refine inQ Tryz.func63 rfl ?_ ?_ ?_ ?_ | fail) <;> intros
 ·obtain ⟨kk, v, h', n', q, d', C', rfl, S', E, k'⟩ := newGB S M hns hnb nl_length
  refine ⟨kk, _, h', n', q, d', C', rfl, S', repG_new hnb (M.of fun a ha => k' a 0 (by omega) (by omega) (by omega) (by omega)) E ((k' 20 0 (by omega) (by omega) (by omega) (by omega)).2.trans sc), (k' 0 0 (by omega) (by omega) (by omega) (by omega)).1, fun a b c => k' a b (by omega) (by omega) (by omega) (by omega)⟩
end Go.Proofs.YtbceiadaihphaaaGreat
