/-
  A part of the proof: contracts of inner functions.
-/
import Derived.Test.YtlnglgpipkmiaaaGreatPX2
set_option linter.unusedVariables false
set_option linter.unusedSimpArgs false
namespace Go.Proofs.YtlnglgpipkmiaaaGreat
open Go.Am
def rowf (n : Nat) (f : Nat → Value) : List Value := (List.range n).map f
@[go_sem] theorem rowf_length {n : Nat} {f : Nat → Value} : (rowf n f).length = n := by simp [rowf]
@[go_sem] theorem rowf_get {n i : Nat} {f : Nat → Value} (h : i < n) : (rowf n f)[i]? = some (f i) := by
  unfold rowf; rw [List.getElem?_map, List.getElem?_range h]; rfl
@[go_sem] theorem rowf_set {n i : Nat} {f : Nat → Value} {x : Value} : (rowf n f).set i x = rowf n (fs f i x) := by
  apply List.ext_getElem?
  intro j
  rw [List.getElem?_set]
  by_cases c : i = j
  · subst c
    rw [if_pos rfl]
    by_cases c2 : i < n
    · rw [if_pos (by rw [rowf_length]; exact c2), rowf_get c2, fs_same]
    · rw [if_neg (by rw [rowf_length]; exact c2)]
      rw [List.getElem?_eq_none (by rw [rowf_length]; omega)]
  · rw [if_neg c]
    by_cases c2 : j < n
    · rw [rowf_get c2, rowf_get c2, fs_ne (fun q => c q.symm)]
    · rw [List.getElem?_eq_none (by rw [rowf_length]; omega), List.getElem?_eq_none (by rw [rowf_length]; omega)]
theorem rowf_congr {n : Nat} {f g : Nat → Value} (h : ∀ i, i < n → f i = g i) : rowf n f = rowf n g := by
  unfold rowf
  exact List.map_congr_left fun i hi => h i (by simpa using hi)
attribute [go_sem] fs_same
@[go_sem] theorem fs_off {f : Nat → Value} {i j : Nat} {x : Value} (h : j ≠ i) : fs f i x j = f j := fs_ne h
def fld {e : Eng} (d : Rl → Nat) (c : CS e) (t : Nat) : Nat → Value
  | 0 => if e.ent c.s t = true then pt (d (8, t)) else .pointer none
  | 1 => if e.wt c.s t = true then pt (d (10, t)) else .pointer none
  | 2 => .bool (e.inn c.s t)
  | 3 => I6 (c.val t)
  | 4 => I6 (c.sec t)
  | 5 => U6 (c.set t)
  | _ => match c.must t with
    | none => .slice none 0 0
    | some _ => .slice (some ⟨d (14, t), 0, none⟩) 6 6
def cell {e : Eng} (d : Rl → Nat) (c : CS e) (i : Nat) : Value := if i = 0 then pt (d rM) else if i = 1 then pt (d (4, 0)) else fld d c ((i - 2) / 7) ((i - 2) % 7)
theorem cell_at {e : Eng} {d : Rl → Nat} {c : CS e} {t k : Nat} (hk : k < 7) : cell d c (2 + t * 7 + k) = fld d c t k := by
  unfold cell
  rw [if_neg (by omega), if_neg (by omega), show (2 + t * 7 + k - 2) / 7 = t by omega, show (2 + t * 7 + k - 2) % 7 = k by omega]
theorem all44 {P : Nat → Prop} (h0 : P 0) (h1 : P 1) (h : ∀ t k, t < 6 → k < 7 → P (2 + t * 7 + k)) (i : Nat) (hi : i < 44) : P i := by
  by_cases c0 : i = 0
  · subst c0; exact h0
  by_cases c1 : i = 1
  · subst c1; exact h1
  have e : i = 2 + (i - 2) / 7 * 7 + (i - 2) % 7 := by omega
  rw [e]; exact h _ _ (by omega) (by omega)
theorem fs_fld {f : Nat → Value} {x : Value} {t u j k : Nat} (hj : j < 7) (hk : k < 7) : fs f (2 + t * 7 + j) x (2 + u * 7 + k) = if u = t ∧ k = j then x else f (2 + u * 7 + k) := by
  by_cases c : u = t ∧ k = j
  · rw [if_pos c, c.1, c.2, fs_same]
  · rw [if_neg c, fs_ne (fun q => c (by omega))]
structure RepC {e : Eng} (rep : e.σ → Nat → (Rl → Nat) → (Rl → Option ABlk) → Prop) (c : CS e) (k : Nat) (d : Rl → Nat) (C : Rl → Option ABlk) : Prop where
  rep : rep c.s k d C
  run : C (3, 0) = row (rowf 44 (cell d c))
  must : ∀ t m, t < 6 → c.must t = some m → C (14, t) = row (rowf 6 fun i => I6 (m i : Nat))
  sec : ∀ t, t < 6 → c.sec t ≤ k
  wait : ∀ t, t < 6 → e.wt c.s t = true → ∃ m, c.must t = some m
end Go.Proofs.YtlnglgpipkmiaaaGreat
set_option linter.unusedVariables false
set_option linter.unusedSimpArgs false
namespace Go.Proofs.YtlnglgpipkmiaaaGreat
open Go.Am
variable {e : Eng} {rep : e.σ → Nat → (Rl → Nat) → (Rl → Option ABlk) → Prop}
theorem cell_fr {d d' : Rl → Nat} {c : CS e} {C C' : Rl → Option ABlk} {t : Nat} (fr : Fr d C d' C' t) {s' : e.σ} (c' : CS e) {u k : Nat} (hu : u ≠ t) (h0 : e.ent c'.s u = e.ent c.s u) (h1 : e.wt c'.s u = e.wt c.s u) (h2 : e.inn c'.s u = e.inn c.s u) (h3 : c'.val u = c.val u) (h4 : c'.sec u = c.sec u) (h5 : c'.set u = c.set u) (h6 : c'.must u = c.must u) : fld d' c' u k = fld d c u k := by
  match k with
  | 0 => show (if _ then pt (d' (8, u)) else _) = (if _ then pt (d (8, u)) else _); rw [h0, (fr.ptr u hu).1]
  | 1 => show (if _ then pt (d' (10, u)) else _) = (if _ then pt (d (10, u)) else _); rw [h1, (fr.ptr u hu).2]
  | 2 => show Value.bool (e.inn c'.s u) = .bool (e.inn c.s u); rw [h2]
  | 3 => show I6 (c'.val u : Nat) = I6 (c.val u : Nat); rw [h3]
  | 4 => show I6 (c'.sec u : Nat) = I6 (c.sec u : Nat); rw [h4]
  | 5 => show U6 (c'.set u : Nat) = U6 (c.set u : Nat); rw [h5]
  | k + 6 =>
    show (match c'.must u with | none => Value.slice none 0 0 | some _ => .slice (some ⟨d' (14, u), 0, none⟩) 6 6) = (match c.must u with | none => Value.slice none 0 0 | some _ => .slice (some ⟨d (14, u), 0, none⟩) 6 6)
    rw [h6, (fr.cli 14 u (.inr (.inl rfl))).1]
def Oth (c c' : CS e) (t : Nat) : Prop := ∀ u, u ≠ t → e.ent c'.s u = e.ent c.s u ∧ e.wt c'.s u = e.wt c.s u ∧ e.inn c'.s u = e.inn c.s u ∧ c'.val u = c.val u ∧ c'.sec u = c.sec u ∧ c'.set u = c.set u ∧ c'.must u = c.must u
theorem run_upd {d d' : Rl → Nat} {C C' : Rl → Option ABlk} {c c' : CS e} {t : Nat} (fr : Fr d C d' C' t) (o : Oth c c' t) {f : Nat → Value} (hf : ∀ i, (∀ k, k < 7 → i ≠ 2 + t * 7 + k) → f i = cell d c i) (hk : ∀ k, k < 7 → f (2 + t * 7 + k) = fld d' c' t k) : rowf 44 f = rowf 44 (cell d' c') := by
  refine rowf_congr (all44 ?_ ?_ fun u k hu hkk => ?_)
  · rw [hf 0 (fun k hk => by omega)]; show pt (d rM) = pt (d' rM); rw [fr.mem]
  · rw [hf 1 (fun k hk => by omega)]; show pt (d (4, 0)) = pt (d' (4, 0)); rw [fr.prcu]
  · rw [cell_at hkk]
    by_cases cu : u = t
    · subst cu; exact hk k hkk
    · rw [hf _ (fun k' hk' => by omega), cell_at hkk]
      obtain ⟨o1, o2, o3, o4, o5, o6, o7⟩ := o u cu
      exact (cell_fr (C := C) (C' := C') fr (s' := c'.s) c' cu o1 o2 o3 o4 o5 o6 o7).symm
structure Cl (d : Rl → Nat) (C : Rl → Option ABlk) (d' : Rl → Nat) (C' : Rl → Option ABlk) : Prop where
  run : d' (3, 0) = d (3, 0)
  arg : ∀ b, d' (30, b) = d (30, b) ∧ C' (30, b) = C (30, b)
theorem Fr.cl {d d' : Rl → Nat} {C C' : Rl → Option ABlk} {t : Nat} (fr : Fr d C d' C' t) : Cl d C d' C' := ⟨(fr.cli 3 0 (.inl rfl)).1, fun b => fr.cli 30 b (.inr (.inr (by omega)))⟩
theorem Cl.updC {d d' : Rl → Nat} {C C' : Rl → Option ABlk} {a b : Nat} {B : Option ABlk} (cl : Cl d C d' C') (ha : a < 30) : Cl d C d' (upd C' (a, b) B) := ⟨cl.run, fun x => ⟨(cl.arg x).1, by simp (disch := first | decide | assumption | omega) only [rM, rW, rL, upd_same, upd_tag, upd_num, memC_ne]; exact (cl.arg x).2⟩⟩
theorem Cl.trans {d d' d2 : Rl → Nat} {C C' C2 : Rl → Option ABlk} (c1 : Cl d C d' C') (c2 : Cl d' C' d2 C2) : Cl d C d2 C2 := ⟨c2.run.trans c1.run, fun b => ⟨(c2.arg b).1.trans (c1.arg b).1, (c2.arg b).2.trans (c1.arg b).2⟩⟩
theorem RepC.mk' (F : Face e rep) {d : Rl → Nat} {C : Rl → Option ABlk} {c : CS e} {k : Nat} {f : Nat → Value} (R : rep c.s k d C) (hf : rowf 44 f = rowf 44 (cell d c)) (hm : ∀ t m, t < 6 → c.must t = some m → C (14, t) = row (rowf 6 fun i => I6 (m i : Nat))) (hs : ∀ t, t < 6 → c.sec t ≤ k) (hw : ∀ t, t < 6 → e.wt c.s t = true → ∃ m, c.must t = some m) : RepC rep c k d (upd C (3, 0) (row (rowf 44 f))) :=
  ⟨F.cliC R (.inl rfl), upd_same.trans (by rw [hf]), fun t m h1 h2 => by simp (disch := first | decide | assumption | omega) only [rM, rW, rL, upd_same, upd_tag, upd_num, memC_ne]; exact hm t m h1 h2, hs, hw⟩
structure Out (rep : e.σ → Nat → (Rl → Nat) → (Rl → Option ABlk) → Prop) (c' : CS e) (k' : Nat) (d : Rl → Nat) (C : Rl → Option ABlk) (h' : PT ABlk) (n' : Nat) : Prop where
  out : ∃ d' C', St h' n' d' C' ∧ RepC rep c' k' d' C' ∧ Cl d C d' C'
set_option maxRecDepth 100000 in
set_option maxHeartbeats 8000000 in
theorem enterL (F : Face e rep) (fit : e.Fits) {h : PT ABlk} {n : Nat} {d : Rl → Nat} {C : Rl → Option ABlk} {c : CS e} {k t : Nat} (S : St h n d C) (R : RepC rep c k d C) (hk : k ≤ 90000) (ht : t < 6) (he : e.ent c.s t = true) (hi : e.inn c.s t = false) (hw : e.wt c.s t = false) :
    EvB Tryz.prog OP 33 [pt (d (3, 0)), I6 t] h n fun r h' n' => r = .bool true ∧ Out rep (c.enterP t) (k + 1) d C h' n' := by
  have g3 := S.at R.run
  have f0 : cell d c (2 + t * 7) = pt (d (8, t)) := (cell_at (k := 0) (by omega)).trans (if_pos he)
  have t1 : (t : Int) < 6 := by omega
  obtain ⟨k1, k2, k3⟩ := fit.estep c.s t he hi
  refine EvB_run (N := 36) Tryz.func33 rfl rfl fun z hP hO hro hN hQ => ?_
  repeat' first | simp (maxSteps := 2000000) (disch := first | omega | assumption) only [go_sem, *] | (apply xs <;> intro _) <;> try omega
  refine cal (F.estepB S R.rep hk ht he hi) (by simp only [*]) (by simp only [*]) (by simp only [go_sem, *]) (by simp only [go_sem, *]) ?_
  rintro r h2 n2 ⟨d', C', pc, rfl, S', R', fr, e8⟩
  have e3 := fr.cli 3 0 (.inl rfl)
  have hrun := e3.2.trans R.run
  have g3' := S'.at hrun
  rw [e3.1] at g3'
  have f4 : cell d c (2 + t * 7 + 4) = I6 (c.sec t) := cell_at (by omega)
  have hs := R.sec t ht
  have hmust : ∀ u m, u < 6 → c.must u = some m → C' (14, u) = row (rowf 6 fun i => I6 (m i : Nat)) := fun u m hu hm => (fr.cli 14 u (.inr (.inl rfl))).2.trans (R.must u m hu hm)
  have hwait : ∀ u, u < 6 → e.wt (e.estep c.s t) u = true → ∃ m, c.must u = some m := fun u hu hw => R.wait u hu (by rw [← k3 u]; exact hw)
  have hin := k2 t
  rw [if_pos rfl] at hin
  clear g3 f0
  cases hE : e.ent (e.estep c.s t) t with
  | false =>
    have hsec : (c.enterP t).sec = fs c.sec t (c.sec t + 1) := by dsimp only [CS.enterP]; rw [if_neg (by rw [hE]; simp)]
    rw [Bool.not_false]
    rw [hE, Bool.not_false] at hin
    have oth : Oth c (c.enterP t) t := fun u cu => ⟨k1 u cu, k3 u, by rw [show e.inn (c.enterP t).s u = _ from k2 u, if_neg cu], rfl, by rw [hsec, fs_ne cu], rfl, rfl⟩
    have fw : fld d' (c.enterP t) t 1 = fld d c t 1 := by show (if e.wt (e.estep c.s t) t = true then pt (d' (10, t)) else _) = (if e.wt c.s t = true then pt (d (10, t)) else _); rw [k3, hw]; rfl
    have fm : fld d' (c.enterP t) t 6 = fld d c t 6 := by show (match c.must t with | none => Value.slice none 0 0 | some _ => .slice (some ⟨d' (14, t), 0, none⟩) 6 6) = (match c.must t with | none => Value.slice none 0 0 | some _ => .slice (some ⟨d (14, t), 0, none⟩) 6 6); rw [(fr.cli 14 t (.inr (.inl rfl))).1]
    repeat' first | simp (maxSteps := 2000000) (disch := first | omega | assumption) only [go_sem, *] | (apply xs <;> intro _) <;> try omega
    refine ⟨d', _, (((S'.set (3, 0) _ hrun e3.1).set (3, 0) _ upd_same e3.1).set (3, 0) _ upd_same e3.1).eq (by rw [upd_upd, upd_upd]) rfl, RepC.mk' F R' (run_upd fr oth ?_ ?_) hmust ?_ hwait, fr.cl.updC (by omega)⟩
    · exact fun i hi => by rw [fs_ne (hi 4 (by omega)), fs_ne (hi 2 (by omega)), fs_ne (show i ≠ 2 + t * 7 from hi 0 (by omega))]
    · intro k hk
      rcases k with _ | _ | _ | _ | _ | _ | _ | k
      · simp (disch := omega) only [fs_same, fs_off, Nat.add_zero]
        show _ = (if e.ent (e.estep c.s t) t = true then _ else _)
        rw [hE]; rfl
      · simp (disch := omega) only [fs_same, fs_off, cell_at, fw, Nat.zero_add]
      · simp (disch := omega) only [fs_same, fs_off, Nat.zero_add, Nat.reduceAdd]
        show _ = Value.bool (e.inn (e.estep c.s t) t)
        rw [hin]
      · simp (disch := omega) only [fs_same, fs_off, cell_at, Nat.zero_add, Nat.reduceAdd]; rfl
      · simp (disch := omega) only [fs_same, fs_off, Nat.zero_add, Nat.reduceAdd]
        show _ = I6 ((c.enterP t).sec t : Nat)
        rw [hsec, fs_same]; rfl
      · simp (disch := omega) only [fs_same, fs_off, cell_at, Nat.zero_add, Nat.reduceAdd]; rfl
      · simp (disch := omega) only [fs_same, fs_off, cell_at, fm, Nat.zero_add, Nat.reduceAdd]
      · omega
    · intro u hu
      rw [hsec]
      have := R.sec u hu
      unfold fs; split <;> omega
  | true =>
    rw [Bool.not_true]
    rw [hE, Bool.not_true] at hin
    have hsec : (c.enterP t).sec = c.sec := by dsimp only [CS.enterP]; rw [if_pos hE]
    have oth : Oth c (c.enterP t) t := fun u cu => ⟨k1 u cu, k3 u, by rw [show e.inn (c.enterP t).s u = _ from k2 u, if_neg cu], rfl, by rw [hsec], rfl, rfl⟩
    have fw : fld d' (c.enterP t) t 1 = fld d c t 1 := by show (if e.wt (e.estep c.s t) t = true then pt (d' (10, t)) else _) = (if e.wt c.s t = true then pt (d (10, t)) else _); rw [k3, hw]; rfl
    have fm : fld d' (c.enterP t) t 6 = fld d c t 6 := by show (match c.must t with | none => Value.slice none 0 0 | some _ => .slice (some ⟨d' (14, t), 0, none⟩) 6 6) = (match c.must t with | none => Value.slice none 0 0 | some _ => .slice (some ⟨d (14, t), 0, none⟩) 6 6); rw [(fr.cli 14 t (.inr (.inl rfl))).1]
    repeat' first | simp (maxSteps := 2000000) (disch := first | omega | assumption) only [go_sem, *] | (apply xs <;> intro _) <;> try omega
    refine ⟨d', _, S'.eq (upd_id hrun).symm rfl, RepC.mk' F R' (run_upd fr oth (fun i hi => rfl) ?_) hmust (fun u hu => by rw [hsec]; exact Nat.le_succ_of_le (R.sec u hu)) hwait, fr.cl.updC (by omega)⟩
    intro k hk
    rw [cell_at hk]
    rcases k with _ | _ | _ | _ | _ | _ | _ | k
    · show (if e.ent c.s t = true then pt (d (8, t)) else _) = (if e.ent (e.estep c.s t) t = true then pt (d' (8, t)) else _)
      rw [hE, he, e8]
    · exact fw.symm
    · show Value.bool (e.inn c.s t) = Value.bool (e.inn (e.estep c.s t) t)
      rw [hin, hi]
    · rfl
    · show I6 (c.sec t : Nat) = I6 ((c.enterP t).sec t : Nat)
      rw [hsec]
    · rfl
    · exact fm.symm
    · omega
end Go.Proofs.YtlnglgpipkmiaaaGreat
set_option linter.unusedVariables false
set_option linter.unusedSimpArgs false
namespace Go.Proofs.YtlnglgpipkmiaaaGreat
open Go.Am
variable {e : Eng} {rep : e.σ → Nat → (Rl → Nat) → (Rl → Option ABlk) → Prop}
section
variable {d : Rl → Nat} {c : CS e} {t k : Nat}
@[go_sem] theorem cellK (hk : k < 7) : cell d c (2 + t * 7 + k) = fld d c t k := cell_at hk
@[go_sem] theorem fld2 : fld d c t 2 = .bool (e.inn c.s t) := rfl
@[go_sem] theorem fld3 : fld d c t 3 = I6 (c.val t) := rfl
@[go_sem] theorem fld4 : fld d c t 4 = I6 (c.sec t) := rfl
end
set_option maxRecDepth 100000 in
set_option maxHeartbeats 2000000 in
theorem waitL (F : Face e rep) (fit : e.Fits) {h : PT ABlk} {n : Nat} {d : Rl → Nat} {C : Rl → Option ABlk} {c : CS e} {k t : Nat} (S : St h n d C) (R : RepC rep c k d C) (hk : k ≤ 90000) (ht : t < 6) (hw : e.wt c.s t = true) (he : e.ent c.s t = false) (hi : e.inn c.s t = false) (hb : ¬ (c.waitP t).bad t) :
    EvB Tryz.prog OP 34 [pt (d (3, 0)), I6 t] h n fun r h' n' => r = .bool true ∧ Out rep (c.waitP t) (k + 1) d C h' n' := by
  have g3 := S.at R.run
  have f1 : cell d c (2 + t * 7 + 1) = pt (d (10, t)) := (cell_at (k := 1) (by omega)).trans (if_pos hw)
  have t1 : (t : Int) < 6 := by omega
  obtain ⟨k1, k2, k3⟩ := fit.wstep c.s t
  refine EvB_run (N := 65) Tryz.func34 rfl rfl fun z hP hO hro hN hQ => ?_
  repeat' first | simp (maxSteps := 2000000) (disch := first | omega | assumption) only [go_sem, *] | (apply xs <;> intro _) <;> try omega
  refine cal (F.wstepB S R.rep hk ht hw) (by simp only [*]) (by simp only [*]) (by simp only [go_sem, *]) (by simp only [go_sem, *]) ?_
  rintro r h2 n2 ⟨d', C', pc, rfl, S', R', fr, e8⟩
  have e3 := fr.cli 3 0 (.inl rfl)
  have hrun := e3.2.trans R.run
  have g3' := S'.at hrun
  rw [e3.1] at g3'
  have hmust : ∀ u m, u < 6 → c.must u = some m → C' (14, u) = row (rowf 6 fun i => I6 (m i : Nat)) := fun u m hu hm => (fr.cli 14 u (.inr (.inl rfl))).2.trans (R.must u m hu hm)
  have hwait : ∀ u, u < 6 → e.wt (e.wstep c.s t) u = true → ∃ m, c.must u = some m := fun u hu hwu => R.wait u hu (by
    by_cases cu : u = t
    · subst cu; exact hw
    · rw [← k3 u cu]; exact hwu)
  have hsec : ∀ u, u < 6 → (c.waitP t).sec u ≤ k + 1 := fun u hu => Nat.le_succ_of_le (R.sec u hu)
  have oth : Oth c (c.waitP t) t := fun u cu => ⟨k1 u, k3 u cu, k2 u, rfl, rfl, rfl, rfl⟩
  have fm : fld d' (c.waitP t) t 6 = fld d c t 6 := by show (match c.must t with | none => Value.slice none 0 0 | some _ => .slice (some ⟨d' (14, t), 0, none⟩) 6 6) = (match c.must t with | none => Value.slice none 0 0 | some _ => .slice (some ⟨d (14, t), 0, none⟩) 6 6); rw [(fr.cli 14 t (.inr (.inl rfl))).1]
  have fe : fld d' (c.waitP t) t 0 = fld d c t 0 := by show (if e.ent (e.wstep c.s t) t = true then pt (d' (8, t)) else _) = (if e.ent c.s t = true then pt (d (8, t)) else _); rw [k1, he]; rfl
  have fi : fld d' (c.waitP t) t 2 = fld d c t 2 := by show Value.bool (e.inn (e.wstep c.s t) t) = Value.bool (e.inn c.s t); rw [k2]
  clear g3 f1
  cases hE : e.wt (e.wstep c.s t) t with
  | true =>
    rw [Bool.not_true]
    repeat' first | simp (maxSteps := 2000000) (disch := first | omega | assumption) only [go_sem, *] | (apply xs <;> intro _) <;> try omega
    refine ⟨d', _, S'.eq (upd_id hrun).symm rfl, RepC.mk' F R' (run_upd fr oth (fun i hi => rfl) ?_) hmust hsec hwait, fr.cl.updC (by omega)⟩
    intro k hk
    rw [cell_at hk]
    rcases k with _ | _ | _ | _ | _ | _ | _ | k
    · exact fe.symm
    · show (if e.wt c.s t = true then pt (d (10, t)) else _) = (if e.wt (e.wstep c.s t) t = true then pt (d' (10, t)) else _)
      rw [hE, hw, e8]
    · exact fi.symm
    · rfl
    · rfl
    · rfl
    · exact fm.symm
    · omega
  | false =>
    rw [Bool.not_false]
    obtain ⟨mu, hmu⟩ := R.wait t ht hw
    have hm14 := hmust t mu ht hmu
    have g14 := S'.at hm14
    have d14 := S'.df hrun hm14 (by simp)
    rw [e3.1] at d14
    have f6 : fld d c t 6 = .slice (some ⟨d' (14, t), 0, none⟩) 6 6 := by
      show (match c.must t with | none => Value.slice none 0 0 | some _ => .slice (some ⟨d (14, t), 0, none⟩) 6 6) = _
      rw [hmu, (fr.cli 14 t (.inr (.inl rfl))).1]
    have hno : ∀ i, i < 6 → mu i = 0 ∨ e.inn c.s i = false ∨ ¬ c.sec i = mu i := fun i hi6 => by
      by_cases c1 : mu i = 0
      · exact .inl c1
      by_cases c2 : e.inn c.s i = false
      · exact .inr (.inl c2)
      refine .inr (.inr fun c3 => hb ⟨hE, i, mu, hi6, hmu, by omega, ?_, c3⟩)
      show e.inn (e.wstep c.s t) i = true
      rw [k2]; simpa using c2
    repeat' first | simp (maxSteps := 2000000) (disch := first | omega | assumption) only [go_sem, *] | (apply xs <;> intro _) <;> try omega
    refine ind_loop (fun tt m h' n' => ∃ i : Nat, i + tt = 6 ∧ m.n = 65 ∧ m.dfs = [] ∧ m.get 0 = pt (d (3, 0)) ∧ m.get 5 = .pointer (some ⟨d (3, 0), 2 + t * 7, none⟩) ∧ m.get 8 = I6 i ∧ h' = h2.set (d (3, 0)) (row (rowf 44 (fs (cell d c) (2 + t * 7 + 1) (.pointer none)))) ∧ n' = n2) 6 ?_ ?_
    · refine ⟨0, by omega, ?_⟩
      simp (maxSteps := 2000000) (disch := first | omega | assumption) only [go_sem, *]
    · rintro tt m h' n' ih ⟨i, hit, m1, m2, m3, m4, m5, rfl, rfl⟩
      by_cases hi6 : i = 6
      · subst hi6
        clear ih
        repeat' first | simp (maxSteps := 2000000) (disch := first | omega | assumption) only [go_sem, *] | (apply xs <;> intro _) <;> try omega
        refine ⟨d', _, S'.set (3, 0) _ hrun e3.1, RepC.mk' F R' (run_upd fr oth (fun i hi => fs_ne (hi 1 (by omega))) ?_) hmust hsec hwait, fr.cl.updC (by omega)⟩
        intro k hk
        rcases k with _ | _ | _ | _ | _ | _ | _ | k
        · simp (disch := omega) only [fs_off, cell_at, fe]
        · simp (disch := omega) only [fs_same, Nat.zero_add]
          show _ = (if e.wt (e.wstep c.s t) t = true then pt (d' (10, t)) else _)
          rw [hE]; rfl
        · simp (disch := omega) only [fs_off, cell_at, fi, Nat.zero_add, Nat.reduceAdd]
        · simp (disch := omega) only [fs_off, cell_at, Nat.zero_add, Nat.reduceAdd]; rfl
        · simp (disch := omega) only [fs_off, cell_at, Nat.zero_add, Nat.reduceAdd]; rfl
        · simp (disch := omega) only [fs_off, cell_at, Nat.zero_add, Nat.reduceAdd]; rfl
        · simp (disch := omega) only [fs_off, cell_at, fm, Nat.zero_add, Nat.reduceAdd]
        · omega
      · have hlt : (i : Int) < 6 := by omega
        have hlt' : i < 6 := by omega
        have hb1 : ((i + 1 : Nat) : Int) = (i : Int) + 1 := by omega
        have hni := hno i hlt'
        clear hmust hwait hsec oth fm fe fi hno hb R R' fr S' S hrun e3 hm14 hE k1 k2 k3 F fit hmu hi6 hw he hi
        generalize hms : (mu i : Int) = mi at *
        generalize hse : (c.sec i : Int) = se at *
        by_cases c1 : 0 < mi
        · cases c2 : e.inn c.s i with
          | false =>
            clear hni
            repeat' first | simp (maxSteps := 2000000) (disch := first | omega | assumption) only [go_sem, *] | (apply xs <;> intro _) <;> try omega | ((with_reducible refine isD 9 ?_); refine dw 65 9 w34_9 (by first | (simp only [go_sem, *]; done) | rfl) (by kernel_rfl) (by kernel_rfl) ?_)
            refine ih (6 - (i + 1)) _ _ _ (by omega) ⟨i + 1, by omega, ?_⟩
            rw [hb1]
            simp (maxSteps := 2000000) (disch := first | omega | assumption) only [go_sem, *]
          | true =>
            have c3 : ¬ se = mi := by
              rcases hni with q | q | q
              · omega
              · rw [c2] at q; simp at q
              · omega
            clear hni
            repeat' first | simp (maxSteps := 2000000) (disch := first | omega | assumption) only [go_sem, *] | (apply xs <;> intro _) <;> try omega | ((with_reducible refine isD 9 ?_); refine dw 65 9 w34_9 (by first | (simp only [go_sem, *]; done) | rfl) (by kernel_rfl) (by kernel_rfl) ?_)
            refine ih (6 - (i + 1)) _ _ _ (by omega) ⟨i + 1, by omega, ?_⟩
            rw [hb1]
            simp (maxSteps := 2000000) (disch := first | omega | assumption) only [go_sem, *]
        · clear hni
          repeat' first | simp (maxSteps := 2000000) (disch := first | omega | assumption) only [go_sem, *] | (apply xs <;> intro _) <;> try omega | ((with_reducible refine isD 9 ?_); refine dw 65 9 w34_9 (by first | (simp only [go_sem, *]; done) | rfl) (by kernel_rfl) (by kernel_rfl) ?_)
          refine ih (6 - (i + 1)) _ _ _ (by omega) ⟨i + 1, by omega, ?_⟩
          rw [hb1]
          simp (maxSteps := 2000000) (disch := first | omega | assumption) only [go_sem, *]
end Go.Proofs.YtlnglgpipkmiaaaGreat
