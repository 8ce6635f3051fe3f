/-
  A part of the proof: contracts of inner functions.
-/
import Derived.Test.YtlnglgpipkmiaaaGreatPX5
set_option linter.unusedVariables false
set_option linter.unusedSimpArgs false
namespace Go.Proofs.YtlnglgpipkmiaaaGreat
open Go.Am
variable {e : Eng} {rep : e.σ → Nat → (Rl → Nat) → (Rl → Option ABlk) → Prop}
theorem out_trans {d d' : Rl → Nat} {C C' : Rl → Option ABlk} {c : CS e} {k n : Nat} {h : PT ABlk} (cl : Cl d C d' C') (o : Out rep c k d' C' h n) : Out rep c k d C h n := by
  obtain ⟨d2, C2, o1, o2, o3⟩ := o
  exact ⟨d2, C2, o1, o2, cl.trans o3⟩
set_option maxRecDepth 100000 in
set_option maxHeartbeats 2000000 in
theorem actEnt (F : Face e rep) (fit : e.Fits) {h : PT ABlk} {n : Nat} {d : Rl → Nat} {C : Rl → Option ABlk} {c : CS e} {k t : Nat} {w v st : Int} (S : St h n d C) (R : RepC rep c k d C) (hk : k ≤ 90000) (ht : t < 6) (he : e.ent c.s t = true) (hi : e.inn c.s t = false) (hw : e.wt c.s t = false) :
    EvB Tryz.prog OP 9 [pt (d (3, 0)), I6 t, U8 w, I6 v, U6 st] h n fun r h' n' => r = .bool true ∧ Out rep (c.enterP t) (k + 1) d C h' n' := by
  have g3 := S.at R.run
  have f0 : cell d c (2 + t * 7) = pt (d (8, t)) := (cell_at (k := 0) (by omega)).trans (if_pos he)
  have t1 : (t : Int) < 6 := by omega
  have q := enterL F fit S R hk ht he hi hw
  clear S R
  refine EvB_run (N := 170) Tryz.func9 rfl rfl fun z hP hO hro hN hQ => ?_
  repeat' first | simp (maxSteps := 2000000) (disch := first | omega | assumption) only [go_sem, *] | (apply xs <;> intro _) <;> try omega
  refine cal (q) (by simp only [*]) (by simp only [*]) (by simp only [go_sem, *]) (by simp only [go_sem, *]) ?_
  rintro r h2 n2 ⟨rfl, o⟩
  clear q
  repeat' first | simp (maxSteps := 2000000) (disch := first | omega | assumption) only [go_sem, *] | (apply xs <;> intro _) <;> try omega
set_option maxRecDepth 100000 in
set_option maxHeartbeats 2000000 in
theorem actWt (F : Face e rep) (fit : e.Fits) {h : PT ABlk} {n : Nat} {d : Rl → Nat} {C : Rl → Option ABlk} {c : CS e} {k t : Nat} {w v st : Int} (S : St h n d C) (R : RepC rep c k d C) (hk : k ≤ 90000) (ht : t < 6) (hw : e.wt c.s t = true) (he : e.ent c.s t = false) (hi : e.inn c.s t = false) (hb : ¬ (c.waitP t).bad t) :
    EvB Tryz.prog OP 9 [pt (d (3, 0)), I6 t, U8 w, I6 v, U6 st] h n fun r h' n' => r = .bool true ∧ Out rep (c.waitP t) (k + 1) d C h' n' := by
  have g3 := S.at R.run
  have f0 : cell d c (2 + t * 7) = .pointer none := (cell_at (k := 0) (by omega)).trans (if_neg (by rw [he]; simp))
  have f1 : cell d c (2 + t * 7 + 1) = pt (d (10, t)) := (cell_at (k := 1) (by omega)).trans (if_pos hw)
  have t1 : (t : Int) < 6 := by omega
  have q := waitL F fit S R hk ht hw he hi hb
  clear S R hb
  refine EvB_run (N := 170) Tryz.func9 rfl rfl fun z hP hO hro hN hQ => ?_
  repeat' first | simp (maxSteps := 2000000) (disch := first | omega | assumption) only [go_sem, *] | (apply xs <;> intro _) <;> try omega
  refine cal (q) (by simp only [*]) (by simp only [*]) (by simp only [go_sem, *]) (by simp only [go_sem, *]) ?_
  rintro r h2 n2 ⟨rfl, o⟩
  clear q
  repeat' first | simp (maxSteps := 2000000) (disch := first | omega | assumption) only [go_sem, *] | (apply xs <;> intro _) <;> try omega
set_option maxRecDepth 100000 in
set_option maxHeartbeats 2000000 in
theorem actStay {h : PT ABlk} {n : Nat} {d : Rl → Nat} {C : Rl → Option ABlk} {c : CS e} {k t w : Nat} {v st : Int} (S : St h n d C) (R : RepC rep c k d C) (ht : t < 6) (hw : e.wt c.s t = false) (he : e.ent c.s t = false) (hi : e.inn c.s t = true) (h4 : w % 4 > 1) :
    EvB Tryz.prog OP 9 [pt (d (3, 0)), I6 t, U8 w, I6 v, U6 st] h n fun r h' n' => r = .bool true ∧ Out rep c k d C h' n' := by
  have g3 := S.at R.run
  have f0 : cell d c (2 + t * 7) = .pointer none := (cell_at (k := 0) (by omega)).trans (if_neg (by rw [he]; simp))
  have f1 : cell d c (2 + t * 7 + 1) = .pointer none := (cell_at (k := 1) (by omega)).trans (if_neg (by rw [hw]; simp))
  have t1 : (t : Int) < 6 := by omega
  have o : Out rep c k d C h n := ⟨d, C, S, R, ⟨rfl, fun b => ⟨rfl, rfl⟩⟩⟩
  have hq : (w : Int).tmod 4 = ((w % 4 : Nat) : Int) := rfl
  generalize w % 4 = q at *
  clear S R
  refine EvB_run (N := 170) Tryz.func9 rfl rfl fun z hP hO hro hN hQ => ?_
  repeat' first | simp (maxSteps := 2000000) (disch := first | omega | assumption) only [go_sem, *] | (apply xs <;> intro _) <;> try omega
set_option maxRecDepth 100000 in
set_option maxHeartbeats 2000000 in
theorem actExit (F : Face e rep) (fit : e.Fits) {h : PT ABlk} {n : Nat} {d : Rl → Nat} {C : Rl → Option ABlk} {c : CS e} {k t w : Nat} {v st : Int} (S : St h n d C) (R : RepC rep c k d C) (hk : k ≤ 90000) (ht : t < 6) (hw : e.wt c.s t = false) (he : e.ent c.s t = false) (hi : e.inn c.s t = true) (h4 : ¬ w % 4 > 1) :
    EvB Tryz.prog OP 9 [pt (d (3, 0)), I6 t, U8 w, I6 v, U6 st] h n fun r h' n' => r = .bool true ∧ Out rep ({ c with s := e.exit c.s t } : CS e) (k + 1) d C h' n' := by
  have g3 := S.at R.run
  have f0 : cell d c (2 + t * 7) = .pointer none := (cell_at (k := 0) (by omega)).trans (if_neg (by rw [he]; simp))
  have f1 : cell d c (2 + t * 7 + 1) = .pointer none := (cell_at (k := 1) (by omega)).trans (if_neg (by rw [hw]; simp))
  have fp : cell d c 1 = pt (d (4, 0)) := rfl
  have t1 : (t : Int) < 6 := by omega
  have hq : (w : Int).tmod 4 = ((w % 4 : Nat) : Int) := rfl
  generalize w % 4 = q at *
  obtain ⟨k1, k2, k3⟩ := fit.exit c.s t hi
  refine EvB_run (N := 170) Tryz.func9 rfl rfl fun z hP hO hro hN hQ => ?_
  repeat' first | simp (maxSteps := 2000000) (disch := first | omega | assumption) only [go_sem, *] | (apply xs <;> intro _) <;> try omega
  refine cal (F.exitB S R.rep hk ht hi he) (by simp only [*]) (by simp only [*]) (by simp only [go_sem, *]) (by simp only [go_sem, *]) ?_
  rintro r h2 n2 ⟨d', C', pc, rfl, hpc, S', R', fr⟩
  have e3 := fr.cli 3 0 (.inl rfl)
  have hrun := e3.2.trans R.run
  have g3' := S'.at hrun
  rw [e3.1] at g3'
  have hmust : ∀ u m, u < 6 → c.must u = some m → C' (14, u) = row (rowf 6 fun i => I6 (m i : Nat)) := fun u m hu hm => (fr.cli 14 u (.inr (.inl rfl))).2.trans (R.must u m hu hm)
  have hwait : ∀ u, u < 6 → e.wt (e.exit c.s t) u = true → ∃ m, c.must u = some m := fun u hu hwu => R.wait u hu (by rw [← k3 u]; exact hwu)
  have hsec : ∀ u, u < 6 → c.sec u ≤ k + 1 := fun u hu => Nat.le_succ_of_le (R.sec u hu)
  have oth : Oth c ({ c with s := e.exit c.s t } : CS e) t := fun u cu => ⟨k1 u, k3 u, (k2 u).trans (if_neg cu), rfl, rfl, rfl, rfl⟩
  have fm : fld d' ({ c with s := e.exit c.s t } : CS e) t 6 = fld d c t 6 := by show (match c.must t with | none => Value.slice none 0 0 | some _ => .slice (some ⟨d' (14, t), 0, none⟩) 6 6) = (match c.must t with | none => Value.slice none 0 0 | some _ => .slice (some ⟨d (14, t), 0, none⟩) 6 6); rw [(fr.cli 14 t (.inr (.inl rfl))).1]
  have fe : fld d' ({ c with s := e.exit c.s t } : CS e) t 0 = fld d c t 0 := by show (if e.ent (e.exit c.s t) t = true then pt (d' (8, t)) else _) = (if e.ent c.s t = true then pt (d (8, t)) else _); rw [k1, he]; rfl
  have fw : fld d' ({ c with s := e.exit c.s t } : CS e) t 1 = fld d c t 1 := by show (if e.wt (e.exit c.s t) t = true then pt (d' (10, t)) else _) = (if e.wt c.s t = true then pt (d (10, t)) else _); rw [k3, hw]; rfl
  clear g3
  repeat' first | simp (maxSteps := 2000000) (disch := first | omega | assumption) only [go_sem, *] | (apply xs <;> intro _) <;> try omega
  refine ⟨d', _, S'.set (3, 0) _ hrun e3.1, RepC.mk' F R' (run_upd fr oth (fun i hi => fs_ne (hi 2 (by omega))) ?_) hmust hsec hwait, fr.cl.updC (by omega)⟩
  intro k hk
  rcases k with _ | _ | _ | _ | _ | _ | _ | k
  · simp (disch := omega) only [fs_off, cell_at, fe]
  · simp (disch := omega) only [fs_off, cell_at, fw, Nat.zero_add]
  · simp (disch := omega) only [fs_same, Nat.zero_add, Nat.reduceAdd]
    show _ = Value.bool (e.inn (e.exit c.s t) t)
    rw [k2, if_pos rfl]
  · simp (disch := omega) only [fs_off, cell_at, Nat.zero_add, Nat.reduceAdd]; rfl
  · simp (disch := omega) only [fs_off, cell_at, Nat.zero_add, Nat.reduceAdd]; rfl
  · simp (disch := omega) only [fs_off, cell_at, Nat.zero_add, Nat.reduceAdd]; rfl
  · simp (disch := omega) only [fs_off, cell_at, fm, Nat.zero_add, Nat.reduceAdd]
  · omega
end Go.Proofs.YtlnglgpipkmiaaaGreat
set_option linter.unusedVariables false
set_option linter.unusedSimpArgs false
namespace Go.Proofs.YtlnglgpipkmiaaaGreat
open Go.Am
variable {e : Eng} {rep : e.σ → Nat → (Rl → Nat) → (Rl → Option ABlk) → Prop}
set_option maxRecDepth 100000 in
set_option maxHeartbeats 2000000 in
theorem actNewE (F : Face e rep) (fit : e.Fits) {h : PT ABlk} {n : Nat} {d : Rl → Nat} {C : Rl → Option ABlk} {c : CS e} {k t w v : Nat} {st : Int} (S : St h n d C) (R : RepC rep c k d C) (hk : k ≤ 90000) (ht : t < 6) (hw : e.wt c.s t = false) (he : e.ent c.s t = false) (hi : e.inn c.s t = false) (h4 : w % 4 < 2) (hv : v < 64) :
    EvB Tryz.prog OP 9 [pt (d (3, 0)), I6 t, U8 w, I6 v, U6 st] h n fun r h' n' => r = .bool true ∧ Out rep ((c.begE t v).enterP t) (k + 1) d C h' n' := by
  have g3 := S.at R.run
  have f0 : cell d c (2 + t * 7) = .pointer none := (cell_at (k := 0) (by omega)).trans (if_neg (by rw [he]; simp))
  have f1 : cell d c (2 + t * 7 + 1) = .pointer none := (cell_at (k := 1) (by omega)).trans (if_neg (by rw [hw]; simp))
  have fp : cell d c 1 = pt (d (4, 0)) := rfl
  have t1 : (t : Int) < 6 := by omega
  have hq : (w : Int).tmod 4 = ((w % 4 : Nat) : Int) := rfl
  generalize w % 4 = q at *
  obtain ⟨k1, k2, k3⟩ := fit.enter c.s t v hi
  refine EvB_run (N := 170) Tryz.func9 rfl rfl fun z hP hO hro hN hQ => ?_
  repeat' first | simp (maxSteps := 2000000) (disch := first | omega | assumption) only [go_sem, *] | (apply xs <;> intro _) <;> try omega
  refine cal (F.enterB S R.rep hk ht hv he hi hw) (by simp only [*]) (by simp only [*]) (by simp only [go_sem, *]) (by simp only [go_sem, *]) ?_
  rintro r h2 n2 ⟨d', C', rfl, S', R', fr⟩
  have e3 := fr.cli 3 0 (.inl rfl)
  have hrun := e3.2.trans R.run
  have g3' := S'.at hrun
  rw [e3.1] at g3'
  have hmust : ∀ u m, u < 6 → c.must u = some m → C' (14, u) = row (rowf 6 fun i => I6 (m i : Nat)) := fun u m hu hm => (fr.cli 14 u (.inr (.inl rfl))).2.trans (R.must u m hu hm)
  have hwait : ∀ u, u < 6 → e.wt (e.enter c.s t v) u = true → ∃ m, c.must u = some m := fun u hu hwu => R.wait u hu (by rw [← k3 u]; exact hwu)
  have oth : Oth c (c.begE t v) t := fun u cu => ⟨(k1 u).trans (if_neg cu), k3 u, k2 u, fs_ne cu, rfl, rfl, rfl⟩
  have fm : fld d' (c.begE t v) t 6 = fld d c t 6 := by show (match c.must t with | none => Value.slice none 0 0 | some _ => .slice (some ⟨d' (14, t), 0, none⟩) 6 6) = (match c.must t with | none => Value.slice none 0 0 | some _ => .slice (some ⟨d (14, t), 0, none⟩) 6 6); rw [(fr.cli 14 t (.inr (.inl rfl))).1]
  have fw : fld d' (c.begE t v) t 1 = fld d c t 1 := by show (if e.wt (e.enter c.s t v) t = true then pt (d' (10, t)) else _) = (if e.wt c.s t = true then pt (d (10, t)) else _); rw [k3, hw]; rfl
  have fi : fld d' (c.begE t v) t 2 = fld d c t 2 := by show Value.bool (e.inn (e.enter c.s t v) t) = Value.bool (e.inn c.s t); rw [k2]
  have R2 : RepC rep (c.begE t v) k d' (upd C' (3, 0) (row (rowf 44 (fs (fs (cell d c) (2 + t * 7) (pt (d' (8, t)))) (2 + t * 7 + 3) (I6 v))))) := by
    refine RepC.mk' F R' (run_upd fr oth (fun i hi => by rw [fs_ne (hi 3 (by omega)), fs_ne (show i ≠ 2 + t * 7 from hi 0 (by omega))]) ?_) hmust (fun u hu => R.sec u hu) hwait
    intro k hk
    rcases k with _ | _ | _ | _ | _ | _ | _ | k
    · simp (disch := omega) only [fs_same, fs_off, Nat.add_zero]
      show _ = (if e.ent (e.enter c.s t v) t = true then pt (d' (8, t)) else _)
      rw [k1, if_pos rfl, if_pos rfl]
    · simp (disch := omega) only [fs_off, cell_at, fw, Nat.zero_add]
    · simp (disch := omega) only [fs_off, cell_at, fi, Nat.zero_add, Nat.reduceAdd]
    · simp (disch := omega) only [fs_same, Nat.zero_add, Nat.reduceAdd]
      show _ = I6 ((fs c.val t v) t : Nat)
      rw [fs_same]
    · simp (disch := omega) only [fs_off, cell_at, Nat.zero_add, Nat.reduceAdd]; rfl
    · simp (disch := omega) only [fs_off, cell_at, Nat.zero_add, Nat.reduceAdd]; rfl
    · simp (disch := omega) only [fs_off, cell_at, fm, Nat.zero_add, Nat.reduceAdd]
    · omega
  have S2 := ((S'.set (3, 0) (.cells (PT.ofList .leaf 0 (rowf 44 (fs (cell d c) (2 + t * 7) (pt (d' (8, t)))))) false) hrun e3.1).set (3, 0) (.cells (PT.ofList .leaf 0 (rowf 44 (fs (fs (cell d c) (2 + t * 7) (pt (d' (8, t)))) (2 + t * 7 + 3) (I6 v)))) false) upd_same e3.1).eq (C' := upd C' (3, 0) (row (rowf 44 (fs (fs (cell d c) (2 + t * 7) (pt (d' (8, t)))) (2 + t * 7 + 3) (I6 v))))) (by rw [upd_upd]) rfl
  have q2 := enterL F fit S2 R2 hk ht (show e.ent (e.enter c.s t v) t = true by rw [k1, if_pos rfl]) (show e.inn (e.enter c.s t v) t = false by rw [k2, hi]) (show e.wt (e.enter c.s t v) t = false by rw [k3, hw])
  rw [e3.1] at q2
  have cl : Cl d C d' (upd C' (3, 0) (row (rowf 44 (fs (fs (cell d c) (2 + t * 7) (pt (d' (8, t)))) (2 + t * 7 + 3) (I6 v))))) := fr.cl.updC (by omega)
  clear S2 R2 fi fw fm oth hwait hmust R' S' g3
  repeat' first | simp (maxSteps := 2000000) (disch := first | omega | assumption) only [go_sem, *] | (apply xs <;> intro _) <;> try omega
  refine cal (q2) (by simp only [*]) (by simp only [*]) (by simp only [go_sem, *]) (by simp only [go_sem, *]) ?_
  rintro r h2 n2 ⟨rfl, o⟩
  have o2 := out_trans cl o
  clear q2 o
  repeat' first | simp (maxSteps := 2000000) (disch := first | omega | assumption) only [go_sem, *] | (apply xs <;> intro _) <;> try omega
end Go.Proofs.YtlnglgpipkmiaaaGreat
set_option linter.unusedVariables false
set_option linter.unusedSimpArgs false
namespace Go.Proofs.YtlnglgpipkmiaaaGreat
open Go.Am
variable {e : Eng} {rep : e.σ → Nat → (Rl → Nat) → (Rl → Option ABlk) → Prop}
def muI (c : CS e) (st i j : Nat) : Nat := if j < i ∧ e.inn c.s j = true ∧ st.testBit (c.val j) = true then c.sec j else 0
set_option maxRecDepth 100000 in
set_option maxHeartbeats 2000000 in
theorem actNewW (F : Face e rep) (fit : e.Fits) {h : PT ABlk} {n : Nat} {d : Rl → Nat} {C : Rl → Option ABlk} {c : CS e} {k t w st : Nat} {v : Int} (S : St h n d C) (R : RepC rep c k d C) (hk : k ≤ 90000) (ht : t < 6) (hw : e.wt c.s t = false) (he : e.ent c.s t = false) (hi : e.inn c.s t = false) (h4 : ¬ w % 4 < 2) (hs0 : st ≠ 0) (hs1 : st < 2 ^ 64) (hval : ∀ i, i < 6 → c.val i < 64) (hb : ¬ ((c.begW t st).waitP t).bad t) :
    EvB Tryz.prog OP 9 [pt (d (3, 0)), I6 t, U8 w, I6 v, U6 st] h n fun r h' n' => r = .bool true ∧ Out rep ((c.begW t st).waitP t) (k + 1) d C h' n' := by
  have g3 := S.at R.run
  have f0 : cell d c (2 + t * 7) = .pointer none := (cell_at (k := 0) (by omega)).trans (if_neg (by rw [he]; simp))
  have f1 : cell d c (2 + t * 7 + 1) = .pointer none := (cell_at (k := 1) (by omega)).trans (if_neg (by rw [hw]; simp))
  have fp : cell d c 1 = pt (d (4, 0)) := rfl
  have t1 : (t : Int) < 6 := by omega
  have hq : (w : Int).tmod 4 = ((w % 4 : Nat) : Int) := rfl
  generalize w % 4 = q at *
  obtain ⟨k1, k2, k3⟩ := fit.wait c.s t st
  refine EvB_run (N := 170) Tryz.func9 rfl rfl fun z hP hO hro hN hQ => ?_
  repeat' first | simp (maxSteps := 2000000) (disch := first | omega | assumption) only [go_sem, *] | (apply xs <;> intro _) <;> try omega
  refine cal (F.waitB S R.rep hk ht hs0 hs1 hw) (by simp only [*]) (by simp only [*]) (by simp only [go_sem, *]) (by simp only [go_sem, *]) ?_
  rintro r h2 n2 ⟨d', C', rfl, S', R', fr⟩
  have e3 := fr.cli 3 0 (.inl rfl)
  have hrun := e3.2.trans R.run
  have g3' := S'.at hrun
  have n3' := S'.lt hrun
  rw [e3.1] at g3' n3'
  have hsec : ∀ u, u < 6 → c.sec u ≤ k := fun u hu => R.sec u hu
  clear g3
  repeat' first | simp (maxSteps := 2000000) (disch := first | omega | assumption) only [go_sem, *] | (apply xs <;> intro _) <;> try omega | ((with_reducible refine isD 21 ?_); refine dw 170 21 w9_21 (by first | (simp only [go_sem, *]; done) | rfl) (by kernel_rfl) (by kernel_rfl) ?_) | ((with_reducible refine isD 26 ?_); refine dw 170 26 w9_26 (by first | (simp only [go_sem, *]; done) | rfl) (by kernel_rfl) (by kernel_rfl) ?_)
  have z6 : [Value.int .i64 0, .int .i64 0, .int .i64 0, .int .i64 0, .int .i64 0, .int .i64 0] = rowf 6 fun j => I6 (muI c st 0 j : Nat) := by
    have q : ∀ j, muI c st 0 j = 0 := fun j => if_neg (by omega)
    simp only [q]; rfl
  rw [z6]
  obtain ⟨Fn, hFn⟩ : ∃ Fn, Fn = fs (fs (fs (cell d c) (2 + t * 7 + 1) (pt (d' (10, t)))) (2 + t * 7 + 5) (U6 st)) (2 + t * 7 + 6) (.slice (some ⟨n2, 0, none⟩) 6 6) := ⟨_, rfl⟩
  rw [← hFn]
  have S0 := (((S'.new (14, t) (.cells (PT.ofList .leaf 0 (rowf 6 fun j => I6 (muI c st 0 j : Nat))) false) (Nat.le_refl _) (Nat.lt_succ_self _)).set (3, 0) (.cells (PT.ofList .leaf 0 (rowf 44 (fs (cell d c) (2 + t * 7 + 1) (pt (d' (10, t)))))) false) ((upd_tag (by decide)).trans hrun) ((upd_tag (by decide)).trans e3.1)).set (3, 0) (.cells (PT.ofList .leaf 0 (rowf 44 (fs (fs (cell d c) (2 + t * 7 + 1) (pt (d' (10, t)))) (2 + t * 7 + 5) (U6 st)))) false) upd_same ((upd_tag (by decide)).trans e3.1)).set (3, 0) (.cells (PT.ofList .leaf 0 (rowf 44 Fn)) false) upd_same ((upd_tag (by decide)).trans e3.1)
  rw [upd_upd, upd_upd] at S0
  refine ind_loop (fun tt m h' n' => ∃ i : Nat, i + tt = 6 ∧ m.n = 170 ∧ m.dfs = [] ∧ m.get 0 = pt (d (3, 0)) ∧ m.get 1 = I6 t ∧ m.get 4 = U6 st ∧ m.get 11 = .pointer (some ⟨d (3, 0), 2 + t * 7, none⟩) ∧ m.get 18 = I6 i ∧ St h' n' (upd d' (14, t) n2) (upd (upd C' (14, t) (row (rowf 6 fun j => I6 (muI c st i j : Nat)))) (3, 0) (row (rowf 44 Fn))) ∧ n' = n2 + 1) 6 ?_ ?_
  · refine ⟨0, by omega, ?_⟩
    clear hFn
    simp (maxSteps := 2000000) (disch := first | omega | assumption) only [go_sem, *]
  · rintro tt m h' n' ih ⟨i, hit, m1, m2, m3, m4, m5, m6, m7, Si, rfl⟩
    have gi := Si.at (r := (3, 0)) upd_same
    rw [show upd d' (14, t) n2 (3, 0) = d (3, 0) from (upd_tag (by decide)).trans e3.1] at gi
    have g14 := Si.at (r := (14, t)) ((upd_tag (by decide)).trans upd_same)
    rw [show upd d' (14, t) n2 (14, t) = n2 from upd_same] at g14
    have d14 := Si.df (r := (3, 0)) (s := (14, t)) upd_same ((upd_tag (by decide)).trans upd_same) (by simp)
    rw [show upd d' (14, t) n2 (3, 0) = d (3, 0) from (upd_tag (by decide)).trans e3.1, show upd d' (14, t) n2 (14, t) = n2 from upd_same] at d14
    by_cases hi6 : i = 6
    · subst hi6
      clear ih
      have dD : upd d' (14, t) n2 (3, 0) = d (3, 0) := (upd_tag (by decide)).trans e3.1
      have cl : Cl d C (upd d' (14, t) n2) (upd (upd C' (14, t) (row (rowf 6 fun j => I6 (muI c st 6 j : Nat)))) (3, 0) (row (rowf 44 Fn))) := ⟨dD, fun b => ⟨(upd_tag (by decide)).trans (fr.cli 30 b (.inr (.inr (by omega)))).1, (upd_tag (by decide)).trans ((upd_tag (by decide)).trans (fr.cli 30 b (.inr (.inr (by omega)))).2)⟩⟩
      have R2 : RepC rep (c.begW t st) k (upd d' (14, t) n2) (upd (upd C' (14, t) (row (rowf 6 fun j => I6 (muI c st 6 j : Nat)))) (3, 0) (row (rowf 44 Fn))) := by
        refine ⟨F.cliC (F.cliC (F.cliD R' (.inr (.inl rfl))) (.inr (.inl rfl))) (.inl rfl), upd_same.trans ?_, fun u m hu hm => ?_, fun u hu => R.sec u hu, fun u hu hwu => ?_⟩
        · refine congrArg row (rowf_congr (all44 ?_ ?_ fun u k hu hkk => ?_))
          · rw [hFn]; simp (disch := omega) only [fs_off]
            show pt (d rM) = pt (upd d' (14, t) n2 rM)
            rw [upd_tag (by decide), show d' (0, 0) = d (0, 0) from fr.mem]
          · rw [hFn]; simp (disch := omega) only [fs_off]
            show pt (d (4, 0)) = pt (upd d' (14, t) n2 (4, 0))
            rw [upd_tag (by decide), fr.prcu]
          · rw [cell_at hkk]
            by_cases cu : u = t
            · subst cu
              rw [hFn]
              rcases k with _ | _ | _ | _ | _ | _ | _ | k
              · simp (disch := omega) only [fs_off, cell_at]
                show (if e.ent c.s u = true then pt (d (8, u)) else _) = (if e.ent (e.wait c.s u st) u = true then pt _ else _)
                rw [k1, he]; rfl
              · simp (disch := omega) only [fs_off, fs_same, Nat.zero_add]
                show _ = (if e.wt (e.wait c.s u st) u = true then pt (upd d' (14, u) n2 (10, u)) else _)
                rw [k3, if_pos rfl, if_pos rfl, upd_tag (by decide)]
              · simp (disch := omega) only [fs_off, cell_at, Nat.zero_add, Nat.reduceAdd]
                show Value.bool (e.inn c.s u) = Value.bool (e.inn (e.wait c.s u st) u)
                rw [k2]
              · simp (disch := omega) only [fs_off, cell_at, Nat.zero_add, Nat.reduceAdd]; rfl
              · simp (disch := omega) only [fs_off, cell_at, Nat.zero_add, Nat.reduceAdd]; rfl
              · simp (disch := omega) only [fs_off, fs_same, Nat.zero_add, Nat.reduceAdd]
                show _ = U6 ((fs c.set u st) u : Nat)
                rw [fs_same]
              · simp (disch := omega) only [fs_same, Nat.zero_add, Nat.reduceAdd]
                show _ = (match (fs c.must u _) u with | none => Value.slice none 0 0 | some _ => .slice (some ⟨upd d' (14, u) n2 (14, u), 0, none⟩) 6 6)
                rw [fs_same, upd_same]
              · omega
            · have e1 : Fn (2 + u * 7 + k) = fld d c u k := by rw [hFn]; simp (disch := omega) only [fs_off, cell_at]
              rw [e1, ← cell_fr (C := C) (C' := C') fr (s' := e.wait c.s t st) (c.begW t st) cu (k1 u) ((k3 u).trans (if_neg cu)) (k2 u) rfl rfl (fs_ne cu) (fs_ne cu)]
              match k with
              | 0 => show (if _ then pt (d' (8, u)) else _) = (if _ then pt (upd d' (14, t) n2 (8, u)) else _); rw [upd_tag (by decide)]
              | 1 => show (if _ then pt (d' (10, u)) else _) = (if _ then pt (upd d' (14, t) n2 (10, u)) else _); rw [upd_tag (by decide)]
              | 2 => rfl
              | 3 => rfl
              | 4 => rfl
              | 5 => rfl
              | k + 6 =>
                show (match (c.begW t st).must u with | none => Value.slice none 0 0 | some _ => .slice (some ⟨d' (14, u), 0, none⟩) 6 6) = (match (c.begW t st).must u with | none => Value.slice none 0 0 | some _ => .slice (some ⟨upd d' (14, t) n2 (14, u), 0, none⟩) 6 6)
                rw [upd_num cu]
        · have hm' : fs c.must t _ u = some m := hm
          rw [upd_tag (by decide)]
          by_cases cu : u = t
          · subst cu
            rw [fs_same] at hm'
            obtain rfl := Option.some.inj hm'
            rw [upd_same]
            refine congrArg row (rowf_congr fun j hj => ?_)
            congr 2
            unfold muI
            have hj6 : (j < 6) = True := eq_true hj
            simp only [hj6, true_and]
          · rw [fs_ne cu] at hm'
            rw [upd_num cu]
            exact (fr.cli 14 u (.inr (.inl rfl))).2.trans (R.must u m hu hm')
        · have hw' : e.wt (e.wait c.s t st) u = true := hwu
          show ∃ m, fs c.must t _ u = some m
          by_cases cu : u = t
          · subst cu; rw [fs_same]; exact ⟨_, rfl⟩
          · rw [fs_ne cu]
            rw [k3, if_neg cu] at hw'
            exact R.wait u hu hw'
      have q2 := waitL F fit Si R2 hk ht (show e.wt (e.wait c.s t st) t = true by rw [k3, if_pos rfl]) (show e.ent (e.wait c.s t st) t = false by rw [k1, he]) (show e.inn (e.wait c.s t st) t = false by rw [k2, hi]) hb
      rw [dD] at q2
      clear R2 hFn hb S' S R R' fr hrun e3 z6 S0 hval hsec k1 k2 k3 F fit hw he hi f0 f1 fp Si gi g14 d14
      repeat' first | simp (maxSteps := 2000000) (disch := first | omega | assumption) only [go_sem, *] | (apply xs <;> intro _) <;> try omega | ((with_reducible refine isD 21 ?_); refine dw 170 21 w9_21 (by first | (simp only [go_sem, *]; done) | rfl) (by kernel_rfl) (by kernel_rfl) ?_) | ((with_reducible refine isD 26 ?_); refine dw 170 26 w9_26 (by first | (simp only [go_sem, *]; done) | rfl) (by kernel_rfl) (by kernel_rfl) ?_)
      refine cal (q2) (by simp only [*]) (by simp only [*]) (by simp only [go_sem, *]) (by simp only [go_sem, *]) ?_
      rintro r h3 n3 ⟨rfl, o⟩
      have o2 := out_trans cl o
      clear q2 o
      repeat' first | simp (maxSteps := 2000000) (disch := first | omega | assumption) only [go_sem, *] | (apply xs <;> intro _) <;> try omega
    · have hlt : (i : Int) < 6 := by omega
      have hlt' : i < 6 := by omega
      have hb1 : ((i + 1 : Nat) : Int) = (i : Int) + 1 := by omega
      have F6 : Fn (2 + t * 7 + 6) = .slice (some ⟨n2, 0, none⟩) 6 6 := by rw [hFn, fs_same]
      have F2 : Fn (2 + i * 7 + 2) = .bool (e.inn c.s i) := by rw [hFn]; simp (disch := omega) only [fs_off, cellK, fld2]
      have F3 : Fn (2 + i * 7 + 3) = I6 (c.val i) := by rw [hFn]; simp (disch := omega) only [fs_off, cellK, fld3]
      have F4 : Fn (2 + i * 7 + 4) = I6 (c.sec i) := by rw [hFn]; simp (disch := omega) only [fs_off, cellK, fld4]
      have hvi := hval i hlt'
      have hsi := hsec i hlt'
      clear hFn hb hi6 S' S R R' fr hrun e3 z6 S0 hval hsec k1 k2 k3 F fit hw he hi f0 f1 fp
      generalize hva : c.val i = va at *
      generalize hse : c.sec i = se at *
      cases c2 : e.inn c.s i with
      | false =>
        have hmu : (fun j => I6 (muI c st (i + 1) j : Nat)) = fun j => I6 (muI c st i j : Nat) := by
          funext j
          congr 2
          unfold muI
          by_cases cj : j = i
          · subst cj; rw [c2, if_neg (by simp), if_neg (by simp)]
          · have hj : (j < i + 1) = (j < i) := propext (by omega)
            simp only [hj]
        repeat' first | simp (maxSteps := 2000000) (disch := first | omega | assumption) only [go_sem, *] | (apply xs <;> intro _) <;> try omega | ((with_reducible refine isD 21 ?_); refine dw 170 21 w9_21 (by first | (simp only [go_sem, *]; done) | rfl) (by kernel_rfl) (by kernel_rfl) ?_) | ((with_reducible refine isD 26 ?_); refine dw 170 26 w9_26 (by first | (simp only [go_sem, *]; done) | rfl) (by kernel_rfl) (by kernel_rfl) ?_)
        refine ih (6 - (i + 1)) _ _ _ (by omega) ⟨i + 1, by omega, ?_⟩
        rw [hb1, hmu]
        simp (maxSteps := 2000000) (disch := first | omega | assumption) only [go_sem, *]
      | true =>
        have hn0 : ¬ (va : Int) < 0 := by omega
        have hfd : (st : Int).fdiv (2 ^ min va 64) = ((st / 2 ^ va : Nat) : Int) := by
          rw [Nat.min_eq_left (by omega), Int.fdiv_eq_ediv_of_nonneg _ (by exact Int.le_of_lt (Int.pow_pos (by decide)))]
          rw [show ((2 : Int) ^ va) = ((2 ^ va : Nat) : Int) by simp]
          exact (Int.natCast_ediv _ _).symm
        have hrm : ((st / 2 ^ va : Nat) : Int).tmod 2 = ((st / 2 ^ va % 2 : Nat) : Int) := rfl
        have hbt : st.testBit va = decide (st / 2 ^ va % 2 = 1) := Nat.testBit_eq_decide_div_mod_eq
        generalize hX : st / 2 ^ va % 2 = X at *
        by_cases cx : X = 1
        · have hx1 : (X : Int) = 1 := by omega
          have hset : fs (fun j => I6 (muI c st i j : Nat)) i (I6 se) = fun j => I6 (muI c st (i + 1) j : Nat) := by
            funext j
            by_cases cj : j = i
            · subst cj
              rw [fs_same]
              have : muI c st (j + 1) j = se := by unfold muI; rw [hva, if_pos ⟨by omega, c2, by rw [hbt, decide_eq_true cx]⟩]; exact hse
              rw [this]
            · rw [fs_ne cj]
              congr 2
              unfold muI
              have hj : (j < i + 1) = (j < i) := propext (by omega)
              simp only [hj]
          clear hX cx hbt
          repeat' first | simp (maxSteps := 2000000) (disch := first | omega | assumption) only [go_sem, *] | (apply xs <;> intro _) <;> try omega | ((with_reducible refine isD 21 ?_); refine dw 170 21 w9_21 (by first | (simp only [go_sem, *]; done) | rfl) (by kernel_rfl) (by kernel_rfl) ?_) | ((with_reducible refine isD 26 ?_); refine dw 170 26 w9_26 (by first | (simp only [go_sem, *]; done) | rfl) (by kernel_rfl) (by kernel_rfl) ?_)
          refine ih (6 - (i + 1)) _ _ _ (by omega) ⟨i + 1, by omega, by simp (maxSteps := 2000000) (disch := first | omega | assumption) only [go_sem, *], by simp (maxSteps := 2000000) (disch := first | omega | assumption) only [go_sem, *], by simp (maxSteps := 2000000) (disch := first | omega | assumption) only [go_sem, *], by simp (maxSteps := 2000000) (disch := first | omega | assumption) only [go_sem, *], by simp (maxSteps := 2000000) (disch := first | omega | assumption) only [go_sem, *], by simp (maxSteps := 2000000) (disch := first | omega | assumption) only [go_sem, *], by rw [hb1]; simp (maxSteps := 2000000) (disch := first | omega | assumption) only [go_sem, *], ?_, rfl⟩
          rw [← hset]
          exact (Si.set (14, t) _ ((upd_tag (by decide)).trans upd_same) upd_same).eq (by rw [upd_comm (by simp), upd_upd]) rfl
        · have hx1 : ¬ (X : Int) = 1 := by omega
          have hmu : (fun j => I6 (muI c st (i + 1) j : Nat)) = fun j => I6 (muI c st i j : Nat) := by
            funext j
            congr 2
            unfold muI
            by_cases cj : j = i
            · subst cj; rw [hva, hbt, decide_eq_false cx, if_neg (by simp), if_neg (by simp)]
            · have hj : (j < i + 1) = (j < i) := propext (by omega)
              simp only [hj]
          clear hX cx hbt
          repeat' first | simp (maxSteps := 2000000) (disch := first | omega | assumption) only [go_sem, *] | (apply xs <;> intro _) <;> try omega | ((with_reducible refine isD 21 ?_); refine dw 170 21 w9_21 (by first | (simp only [go_sem, *]; done) | rfl) (by kernel_rfl) (by kernel_rfl) ?_) | ((with_reducible refine isD 26 ?_); refine dw 170 26 w9_26 (by first | (simp only [go_sem, *]; done) | rfl) (by kernel_rfl) (by kernel_rfl) ?_)
          refine ih (6 - (i + 1)) _ _ _ (by omega) ⟨i + 1, by omega, ?_⟩
          rw [hb1, hmu]
          simp (maxSteps := 2000000) (disch := first | omega | assumption) only [go_sem, *]
end Go.Proofs.YtlnglgpipkmiaaaGreat
set_option linter.unusedVariables false
set_option linter.unusedSimpArgs false
namespace Go.Proofs.YtlnglgpipkmiaaaGreat
open Go.Am
variable {e : Eng} {rep : e.σ → Nat → (Rl → Nat) → (Rl → Option ABlk) → Prop}
structure Good (c : CS e) (t w v st : Nat) : Prop where
  one : One e c.s
  val : ∀ i, i < 6 → c.val i < 64
  wait : e.wt c.s t = true → ¬ (c.waitP t).bad t
  begW : e.ent c.s t = false → e.wt c.s t = false → e.inn c.s t = false → ¬ ((c.begW t st).waitP t).bad t
theorem actL (F : Face e rep) (fit : e.Fits) {h : PT ABlk} {n : Nat} {d : Rl → Nat} {C : Rl → Option ABlk} {c : CS e} {k t w v st : Nat} (S : St h n d C) (R : RepC rep c k d C) (hk : k ≤ 90000) (ht : t < 6) (hv : v < 64) (hs0 : st ≠ 0) (hs1 : st < 2 ^ 64) (G : Good c t w v st) :
    EvB Tryz.prog OP 9 [pt (d (3, 0)), I6 t, U8 w, I6 v, U6 st] h n fun r h' n' => r = .bool true ∧ ∃ k', k' ≤ k + 1 ∧ Out rep (c.act t w v st) k' d C h' n' := by
  have o := G.one t
  unfold CS.act
  cases he : e.ent c.s t with
  | true =>
    rw [if_pos rfl]
    obtain ⟨kk, r, h', n', ev, rfl, q⟩ := actEnt (w := w) (v := v) (st := st) F fit S R hk ht he (o.1 he).1 (o.1 he).2
    exact ⟨kk, _, h', n', ev, rfl, _, Nat.le_refl _, q⟩
  | false =>
    rw [if_neg (by simp)]
    cases hw : e.wt c.s t with
    | true =>
      rw [if_pos rfl]
      have hi : e.inn c.s t = false := by
        cases hi : e.inn c.s t with
        | false => rfl
        | true => rw [o.2 hi] at hw; simp at hw
      obtain ⟨kk, r, h', n', ev, rfl, q⟩ := actWt (w := w) (v := v) (st := st) F fit S R hk ht hw he hi (G.wait hw)
      exact ⟨kk, _, h', n', ev, rfl, _, Nat.le_refl _, q⟩
    | false =>
      rw [if_neg (by simp)]
      cases hi : e.inn c.s t with
      | true =>
        rw [if_pos rfl]
        by_cases h4 : w % 4 > 1
        · rw [if_pos h4]
          obtain ⟨kk, r, h', n', ev, rfl, q⟩ := actStay (v := v) (st := st) S R ht hw he hi h4
          exact ⟨kk, _, h', n', ev, rfl, _, Nat.le_succ _, q⟩
        · rw [if_neg h4]
          obtain ⟨kk, r, h', n', ev, rfl, q⟩ := actExit (v := v) (st := st) F fit S R hk ht hw he hi h4
          exact ⟨kk, _, h', n', ev, rfl, _, Nat.le_refl _, q⟩
      | false =>
        rw [if_neg (by simp)]
        by_cases h4 : w % 4 < 2
        · rw [if_pos h4]
          obtain ⟨kk, r, h', n', ev, rfl, q⟩ := actNewE (st := st) F fit S R hk ht hw he hi h4 hv
          exact ⟨kk, _, h', n', ev, rfl, _, Nat.le_refl _, q⟩
        · rw [if_neg h4]
          obtain ⟨kk, r, h', n', ev, rfl, q⟩ := actNewW (v := v) F fit S R hk ht hw he hi h4 hs0 hs1 G.val (G.begW he hw hi)
          exact ⟨kk, _, h', n', ev, rfl, _, Nat.le_refl _, q⟩
def ksA : List Ck := [.int .u8, .int .u8, .int .u8, .int .u64]
def IsActs (d : Rl → Nat) (C : Rl → Option ABlk) (s : Value) (A : List (List Int)) : Prop := RowsOk ksA A ∧ ((s = .slice none 0 0 ∧ A = []) ∨ ∃ cap, s = .slice (some ⟨d (30, 0), 0, none⟩) A.length cap ∧ C (30, 0) = rowr (rowsL ksA A) true)
theorem RepC.le (F : Face e rep) {c : CS e} {k : Nat} {d : Rl → Nat} {C : Rl → Option ABlk} (R : RepC rep c k d C) : RepC rep c k d C := R
set_option maxRecDepth 100000 in
set_option maxHeartbeats 2000000 in
theorem playL (F : Face e rep) (fit : e.Fits) (I : CS e → Prop) (hI : ∀ c t w v st, I c → t < 6 → v < 64 → st ≠ 0 → st < 2 ^ 64 → Good c t w v st ∧ I (c.act t w v st)) {h : PT ABlk} {n : Nat} {d : Rl → Nat} {C : Rl → Option ABlk} {c : CS e} {s : Value} {A : List (List Int)} (S : St h n d C) (R : RepC rep c 0 d C) (i0 : I c) (hA : IsActs d C s A) (hl : A.length ≤ 400) :
    EvB Tryz.prog OP 8 [pt (d (3, 0)), s] h n fun r h' n' => r = .bool true ∧ ∃ c' k', I c' ∧ k' ≤ A.length ∧ Out rep c' k' d C h' n' := by
  obtain ⟨ok, hA⟩ := hA
  obtain ⟨x0, cap, hs⟩ : ∃ x0 cap, s = .slice x0 A.length cap := by
    rcases hA with ⟨rfl, rfl⟩ | ⟨cap, rfl, _⟩
    · exact ⟨_, _, rfl⟩
    · exact ⟨_, _, rfl⟩
  refine EvB_run (N := 43) Tryz.func8 rfl rfl fun z hP hO hro hN hQ => ?_
  repeat' first | simp (maxSteps := 2000000) (disch := first | omega | assumption) only [go_sem, *] | (apply xs <;> intro _) <;> try omega
  refine ind_loop (fun tt m h' n' => ∃ (i : Nat) (ci : CS e) (ki : Nat) (di : Rl → Nat) (Ci : Rl → Option ABlk), i + tt = A.length ∧ m.n = 43 ∧ m.dfs = [] ∧ m.get 0 = pt (d (3, 0)) ∧ m.get 1 = s ∧ m.get 5 = I6 i ∧ I ci ∧ ki ≤ i ∧ St h' n' di Ci ∧ RepC rep ci ki di Ci ∧ Cl d C di Ci) A.length ?_ ?_
  · refine ⟨0, c, 0, d, C, by omega, ?_⟩
    simp (maxSteps := 2000000) (disch := first | omega | assumption) only [go_sem, *]
    exact ⟨rfl, fun b => ⟨rfl, rfl⟩⟩
  · rintro tt m h' n' ih ⟨i, ci, ki, di, Ci, hit, m1, m2, m3, m4, m5, ii, hki, Si, Ri, cl⟩
    by_cases hi : i = A.length
    · have hi' : ¬ (i : Int) < A.length := by omega
      have hOut : ∃ c' k', I c' ∧ k' ≤ A.length ∧ Out rep c' k' d C h' n' := ⟨ci, ki, ii, by omega, ⟨di, Ci, Si, Ri, cl⟩⟩
      clear ih Si Ri cl ii S R hA
      repeat' first | simp (maxSteps := 2000000) (disch := first | omega | assumption) only [go_sem, *] | (apply xs <;> intro _) <;> try omega
    · have hi' : (i : Int) < A.length := by omega
      have hlt : i < A.length := by omega
      rcases hA with ⟨rfl, rfl⟩ | ⟨cap', hs', hC⟩
      · exact absurd hlt (by simp)
      · obtain ⟨x, hx⟩ : ∃ x, A[i]? = some x := ⟨A[i], List.getElem?_eq_getElem hlt⟩
        obtain ⟨hxl, hxw⟩ := ok x (List.mem_of_getElem? hx)
        have r0 := rowsL_get ok hx 0 (by decide)
        have r1 := rowsL_get ok hx 1 (by decide)
        have r2 := rowsL_get ok hx 2 (by decide)
        have r3 := rowsL_get ok hx 3 (by decide)
        obtain ⟨a, b, v, u, rfl⟩ : ∃ a b v u, x = [a, b, v, u] := by
          match x, hxl with
          | [a, b, v, u], _ => exact ⟨a, b, v, u, rfl⟩
        obtain ⟨wa, wb, wv, wu, -⟩ := hxw
        have ⟨ta0, ta1⟩ := u8_of_wf wa
        have ⟨tb0, tb1⟩ := u8_of_wf wb
        have ⟨tv0, tv1⟩ := u8_of_wf wv
        have ⟨tu0, tu1⟩ := u64_of_wf wu
        obtain ⟨a, rfl⟩ : ∃ n : Nat, a = n := ⟨a.toNat, by omega⟩
        obtain ⟨b, rfl⟩ : ∃ n : Nat, b = n := ⟨b.toNat, by omega⟩
        obtain ⟨v, rfl⟩ : ∃ n : Nat, v = n := ⟨v.toNat, by omega⟩
        obtain ⟨u, rfl⟩ : ∃ n : Nat, u = n := ⟨u.toNat, by omega⟩
        change (rowsL ksA A)[i * 4]? = some (.int .u8 a) at r0
        change (rowsL ksA A)[i * 4 + 1]? = some (.int .u8 b) at r1
        change (rowsL ksA A)[i * 4 + 2]? = some (.int .u8 v) at r2
        change (rowsL ksA A)[i * 4 + 3]? = some (.int .u64 u) at r3
        have gA := Si.at ((cl.arg 0).2.trans hC)
        rw [(cl.arg 0).1] at gA
        have hta : (a : Int).tmod 6 = ((a % 6 : Nat) : Int) := rfl
        have htv : (v : Int).tmod 64 = ((v % 64 : Nat) : Int) := rfl
        have ha6 : a % 6 < 6 := Nat.mod_lt _ (by decide)
        have hv64 : v % 64 < 64 := Nat.mod_lt _ (by decide)
        obtain ⟨rfl, rfl⟩ : x0 = some ⟨d (30, 0), 0, none⟩ ∧ cap = cap' := by
          rw [hs] at hs'; injection hs' with e1 _ e2; exact ⟨e1, e2⟩
        clear hC hx wa wb wv wu hs'
        obtain ⟨su, hsu⟩ : ∃ su : Nat, su = if u = 0 then 18446744073709551615 else u := ⟨_, rfl⟩
        have hs0 : su ≠ 0 := by rw [hsu]; split <;> omega
        have hs1 : su < 2 ^ 64 := by rw [hsu]; split <;> omega
        obtain ⟨good, ii'⟩ := hI ci (a % 6) b (v % 64) su ii ha6 hv64 hs0 hs1
        have q := actL (w := b) F fit Si Ri (by omega) ha6 hv64 hs0 hs1 good
        rw [cl.run] at q
        generalize a % 6 = a6 at *
        generalize v % 64 = v6 at *
        have hb1 : ((i + 1 : Nat) : Int) = (i : Int) + 1 := by omega
        clear hI ok F fit S R i0 ii good Si Ri
        have fin : ∀ h2 n2, (∃ k', k' ≤ ki + 1 ∧ Out rep (ci.act a6 b v6 su) k' di Ci h2 n2) → ∃ (ci : CS e) (ki : Nat) (di : Rl → Nat) (Ci : Rl → Option ABlk), I ci ∧ ki ≤ i + 1 ∧ St h2 n2 di Ci ∧ RepC rep ci ki di Ci ∧ Cl d C di Ci := by
          rintro h2 n2 ⟨k', hk', d2, C2, S2, R2, cl2⟩
          exact ⟨_, k', d2, C2, ii', by omega, S2, R2, cl.trans cl2⟩
        by_cases hu : u = 0
        · rw [if_pos hu] at hsu
          subst hsu
          have hu' : (u : Int) = 0 := by omega
          clear hu
          repeat' first | simp (maxSteps := 2000000) (disch := first | omega | assumption) only [go_sem, *] | (apply xs <;> intro _) <;> try omega | ((with_reducible refine isD 7 ?_); refine dw 43 7 w8_7 (by first | (simp only [go_sem, *]; done) | rfl) (by kernel_rfl) (by kernel_rfl) ?_)
          refine cal (q) (by simp only [*]) (by simp only [*]) (by simp only [go_sem, *]) (by simp only [go_sem, *]) ?_
          rintro r h2 n2 ⟨rfl, o⟩ rd' wr'
          obtain ⟨c2, k2, d2, C2, i2, hk2, S2, R2, cl2⟩ := fin h2 n2 o
          clear q fin o
          repeat' first | simp (maxSteps := 2000000) (disch := first | omega | assumption) only [go_sem, *] | (apply xs <;> intro _) <;> try omega | ((with_reducible refine isD 7 ?_); refine dw 43 7 w8_7 (by first | (simp only [go_sem, *]; done) | rfl) (by kernel_rfl) (by kernel_rfl) ?_)
          refine ih (A.length - (i + 1)) _ _ _ (by omega) ⟨i + 1, c2, k2, d2, C2, by omega, ?_⟩
          rw [hb1]
          simp (maxSteps := 2000000) (disch := first | omega | assumption) only [go_sem, *]
        · rw [if_neg hu] at hsu
          subst hsu
          have hu' : ¬ (su : Int) = 0 := by omega
          clear hu
          repeat' first | simp (maxSteps := 2000000) (disch := first | omega | assumption) only [go_sem, *] | (apply xs <;> intro _) <;> try omega | ((with_reducible refine isD 7 ?_); refine dw 43 7 w8_7 (by first | (simp only [go_sem, *]; done) | rfl) (by kernel_rfl) (by kernel_rfl) ?_)
          refine cal (q) (by simp only [*]) (by simp only [*]) (by simp only [go_sem, *]) (by simp only [go_sem, *]) ?_
          rintro r h2 n2 ⟨rfl, o⟩ rd' wr'
          obtain ⟨c2, k2, d2, C2, i2, hk2, S2, R2, cl2⟩ := fin h2 n2 o
          clear q fin o
          repeat' first | simp (maxSteps := 2000000) (disch := first | omega | assumption) only [go_sem, *] | (apply xs <;> intro _) <;> try omega | ((with_reducible refine isD 7 ?_); refine dw 43 7 w8_7 (by first | (simp only [go_sem, *]; done) | rfl) (by kernel_rfl) (by kernel_rfl) ?_)
          refine ih (A.length - (i + 1)) _ _ _ (by omega) ⟨i + 1, c2, k2, d2, C2, by omega, ?_⟩
          rw [hb1]
          simp (maxSteps := 2000000) (disch := first | omega | assumption) only [go_sem, *]
end Go.Proofs.YtlnglgpipkmiaaaGreat
