/-
  A part of the proof: contracts of inner functions.
-/
import Derived.Test.YthhohpbghfbkbaaE3E
import Derived.Test.YthhohpbghfbkbaaE2J
set_option linter.unusedVariables false
set_option linter.unusedSimpArgs false
namespace Go.Proofs.Ythhohpbghfbkbaa
open Go.Am

/-- The error of Quiet and Blockers. -/
def qerr (kd k wait step : Int) (E : List Ev) : Int := if ¬ vld kd k then 2 else if chk E = false then 15 else match (refS 3 E)[wait.toNat]? with
  | some w => if 0 ≤ wait ∧ w.2.2.1 ≤ step then 0 else 3
  | none => 3
def FoundV (kd k wait step : Int) (E : List Ev) (v : Value) (h : PT ABlk) : Prop := (qerr kd k wait step E ≠ 0 ∧ v = .tuple ⟨[engC 0 0, .slice none 0 0, .slice none 0 0, .int .i64 (qerr kd k wait step E)]⟩) ∨ (qerr kd k wait step E = 0 ∧ ∃ sl wl, v = .tuple ⟨[engC kd k, sl, wl, .int .i64 0]⟩ ∧ IsSecs h sl (refS 1 E) ∧ IsSecs h wl (refS 3 E))
def RefV (kd k wait step : Int) (E : List Ev) (v : Value) (h : PT ABlk) : Prop := (qerr kd k wait step E ≠ 0 ∧ v = .tuple ⟨[.slice none 0 0, .slice none 0 0, .int .i64 (qerr kd k wait step E)]⟩) ∨ (qerr kd k wait step E = 0 ∧ ∃ sl wl, v = .tuple ⟨[wl, sl, .int .i64 0]⟩ ∧ IsSecs h sl (refS 1 E) ∧ IsSecs h wl (refS 3 E))
theorem qerr_vld {kd k wait step : Int} {E : List Ev} (h : ¬ vld kd k) : qerr kd k wait step E = 2 := by unfold qerr; rw [if_pos h]
theorem qerr_chk {kd k wait step : Int} {E : List Ev} (h : vld kd k) (hc : chk E = false) : qerr kd k wait step E = 15 := by unfold qerr; rw [if_neg (by simpa using h), if_pos hc]
theorem qerr_in {kd k step : Int} {wait : Nat} {E : List Ev} (h : vld kd k) (hc : chk E = true) (hw : wait < (refS 3 E).length) : qerr kd k wait step E = if (refS 3 E)[wait].2.2.1 ≤ step then 0 else 3 := by
  unfold qerr
  rw [if_neg (by simpa using h), if_neg (by simp [hc]), Int.toNat_natCast, List.getElem?_eq_getElem hw]
  simp
theorem qerr_out {kd k wait step : Int} {E : List Ev} (h : vld kd k) (hc : chk E = true) (hw : wait < 0 ∨ ((refS 3 E).length : Int) ≤ wait) : qerr kd k wait step E = 3 := by
  unfold qerr
  rw [if_neg (by simpa using h), if_neg (by simp [hc])]
  rcases hw with hw | hw
  · split
    · rw [if_neg (by omega)]
    · rfl
  · rw [List.getElem?_eq_none (by omega)]
theorem kept_same {h : PT ABlk} {i : Nat} {B : ABlk} (e : h.get i = some B) : Kept h (h.set i (some B)) := fun j C q => by
  rw [PT.get_set]
  split
  · rename_i x; subst x; rw [e] at q; exact q
  · exact q
structure StO (O : Over) : Prop extends EvO O where
  o21 : O 22 = fun _ => none
  o25 : O 26 = fun _ => none
  o33 : O 31 = fun _ => none
  o35 : O 33 = fun _ => none
  o34 : O 32 = fun _ => none
set_option maxRecDepth 100000 in
set_option maxHeartbeats 2000000 in
theorem foundB {O : Over} (H : StO O) (kd k wait step : Int) (E : List Ev) (s : Value) (hn : E.length ≤ 100000) (h : PT ABlk) (N : Nat) (hW : WfH h N) (hs : IsEvs h s E) :
    EvB Try.prog O 31 [.int .u8 kd, .int .i64 k, .int .i64 wait, .int .i64 step, s] h N fun v h' n' => FoundV kd k wait step E v h' ∧ Kept h h' := by
  unfold FoundV engC
  have o21 := H.o21
  have o20 := H.o20
  have o44 := H.o44
  refine EvB_run (N := 63) Try.func31 rfl rfl fun z hP hO hro hN hQ => ?_
  have hz50 : h = h := rfl
  clear hz50
  repeat' first | simp (config := { maxSteps := 2000000 }) (disch := omega) only [go_sem, *, Try.results31] | (first | apply EvG_ndec | apply EvC_ndec | apply EvG_dec | apply EvC_dec | apply EvC_nbool | apply EvC_bool | apply EvG_nbool | apply EvG_bool) <;> intro _
  generalize hh1 : PT.set h N _ = h1
  have hr1 : h1.get N = some (.cells (PT.ofList .leaf 0 [.int .u8 0, .int .i64 0]) false) := get_of_set hh1
  have k1 : Kept h h1 := by rw [← hh1]; exact hW.kept (Nat.le_refl _)
  have w1 : WfH h1 (N + 1) := by rw [← hh1]; exact hW.set (Nat.le_succ _) (Nat.lt_succ_self _)
  clear hh1
  refine EvQ_call ?_ ?_ (by rw [hP, hO]; exact (madeB kd k 1 _ _ w1).wf w1) ?_
  · simp (config := { maxSteps := 2000000 }) (disch := omega) only [go_sem, *]
  · simp (config := { maxSteps := 2000000 }) (disch := omega) only [go_sem, *]
  rintro v h2 n2 ⟨⟨rfl, k2⟩, hn2, w2⟩
  have hr2 := k2 _ _ hr1
  have k02 := k1.trans k2
  clear hr1 k1 w1 k2
  by_cases hv : vld kd k
  · have hm : madeV kd k 1 = .tuple ⟨[.agg ⟨[.int .u8 kd, .int .i64 k]⟩, .int .i64 0]⟩ := by unfold madeV; rw [if_neg (by simp [hv])]; rfl
    rw [hm]
    clear hm
    repeat' first | simp (config := { maxSteps := 2000000 }) (disch := omega) only [go_sem, *, Try.results31] | (first | apply EvG_ndec | apply EvC_ndec | apply EvG_dec | apply EvC_dec | apply EvC_nbool | apply EvC_bool | apply EvG_nbool | apply EvG_bool) <;> intro _
    generalize hh3 : PT.set h2 N _ = h3
    have hr3 : h3.get N = some (.cells (PT.ofList .leaf 0 [.int .u8 kd, .int .i64 k]) false) := get_of_set hh3
    have k3 : Kept h h3 := by rw [← hh3]; exact Kept.set' hW (by omega) k02
    have w3 : WfH h3 n2 := by rw [← hh3]; exact WfH.set' (by omega) w2
    clear hh3 hr2 k02 w2
    refine EvQ_call ?_ ?_ (by rw [hP, hO]; exact (sectionsB H.toEvO E _ hn _ _ w3 (hs.keep k3)).wf w3) ?_
    · simp (config := { maxSteps := 2000000 }) (disch := omega) only [go_sem, *]
    · simp (config := { maxSteps := 2000000 }) (disch := omega) only [go_sem, *]
    rintro v h4 n4 ⟨⟨hsv, k4⟩, hn4, w4⟩
    have k04 := k3.trans k4
    have hr4 := k4 _ _ hr3
    clear k3 k4 hr3 w3
    rcases hsv with ⟨hc, rfl⟩ | ⟨hc, sl, rfl, hI⟩
    · rw [qerr_chk hv hc] at hQ
      repeat' first | simp (config := { maxSteps := 2000000 }) (disch := omega) only [go_sem, *, Try.results31] | (first | apply EvG_ndec | apply EvC_ndec | apply EvG_dec | apply EvC_dec | apply EvC_nbool | apply EvC_bool | apply EvG_nbool | apply EvG_bool) <;> intro _
      exact Kept.set' hW (by omega) k04
    · repeat' first | simp (config := { maxSteps := 2000000 }) (disch := omega) only [go_sem, *, Try.results31] | (first | apply EvG_ndec | apply EvC_ndec | apply EvG_dec | apply EvC_dec | apply EvC_nbool | apply EvC_bool | apply EvG_nbool | apply EvG_bool) <;> intro _
      refine EvQ_call ?_ ?_ (by rw [hP, hO]; exact (waitsB H.toEvO E _ hn _ _ w4 (hs.keep k04)).wf w4) ?_
      · simp (config := { maxSteps := 2000000 }) (disch := omega) only [go_sem, *]
      · simp (config := { maxSteps := 2000000 }) (disch := omega) only [go_sem, *]
      rintro v h5 n5 ⟨⟨hsv, k5⟩, hn5, w5⟩
      have k05 := k04.trans k5
      have hr5 := k5 _ _ hr4
      have hI5 := hI.keep k5
      clear k04 k5 hr4 w4 hI
      rcases hsv with ⟨hc2, rfl⟩ | ⟨-, wl, rfl, hJ⟩
      · rw [hc] at hc2; simp at hc2
      · obtain ⟨wa, wc, rfl, hrow⟩ := hJ.len
        by_cases hw : wait < 0 ∨ ((refS 3 E).length : Int) ≤ wait
        · rw [qerr_out hv hc hw] at hQ
          clear hrow
          rcases hw with hw | hw
          · repeat' first | simp (config := { maxSteps := 2000000 }) (disch := omega) only [go_sem, *, Try.results31] | (first | apply EvG_ndec | apply EvC_ndec | apply EvG_dec | apply EvC_dec | apply EvC_nbool | apply EvC_bool | apply EvG_nbool | apply EvG_bool) <;> intro _
            exact Kept.set' hW (by omega) k05
          · have hw' : ¬ wait < 0 := by omega
            repeat' first | simp (config := { maxSteps := 2000000 }) (disch := omega) only [go_sem, *, Try.results31] | (first | apply EvG_ndec | apply EvC_ndec | apply EvG_dec | apply EvC_dec | apply EvC_nbool | apply EvC_bool | apply EvG_nbool | apply EvG_bool) <;> intro _
            exact Kept.set' hW (by omega) k05
        · obtain ⟨wn, rfl⟩ : ∃ wn : Nat, wait = wn := ⟨wait.toNat, by omega⟩
          have hwl : wn < (refS 3 E).length := by omega
          rw [qerr_in hv hc hwl] at hQ
          have hw' : ¬ (wn : Int) < 0 := by omega
          have hw2 : ¬ (wn : Int) ≥ ((refS 3 E).length : Int) := by omega
          have hw3 : (wn : Int) < ((refS 3 E).length : Int) := by omega
          obtain ⟨wb, rfl, hwb⟩ := hrow wn hwl
          have c2 := secCs_cell (j := 2) hwl (by omega)
          obtain ⟨⟨x1, x2, x3, x4⟩, hx⟩ : ∃ x, (refS 3 E)[wn] = x := ⟨_, rfl⟩
          rw [hx] at c2 hQ
          simp only [secC, List.getElem?_cons_zero, List.getElem?_cons_succ] at c2 hQ
          have hpl := secCs_length (refS 3 E)
          clear hx hrow
          by_cases hst : x3 ≤ step
          · rw [if_pos hst] at hQ
            have hst' : ¬ step < x3 := by omega
            repeat' first | simp (config := { maxSteps := 2000000 }) (disch := omega) only [go_sem, *, Try.results31] | (first | apply EvG_ndec | apply EvC_ndec | apply EvG_dec | apply EvC_dec | apply EvC_nbool | apply EvC_bool | apply EvG_nbool | apply EvG_bool) <;> intro _
            exact ⟨⟨_, _, rfl, hI5.keep (kept_same hr5), hJ.keep (kept_same hr5)⟩, k05.trans (kept_same hr5)⟩
          · rw [if_neg hst] at hQ
            have hst' : step < x3 := by omega
            repeat' first | simp (config := { maxSteps := 2000000 }) (disch := omega) only [go_sem, *, Try.results31] | (first | apply EvG_ndec | apply EvC_ndec | apply EvG_dec | apply EvC_dec | apply EvC_nbool | apply EvC_bool | apply EvG_nbool | apply EvG_bool) <;> intro _
            exact Kept.set' hW (by omega) k05
  · have hm : madeV kd k 1 = .tuple ⟨[.agg ⟨[.int .u8 0, .int .i64 0]⟩, .int .i64 2]⟩ := by unfold madeV; rw [if_pos (.inl hv)]; rfl
    rw [hm]
    rw [qerr_vld hv] at hQ
    clear hm hs
    repeat' first | simp (config := { maxSteps := 2000000 }) (disch := omega) only [go_sem, *, Try.results31] | (first | apply EvG_ndec | apply EvC_ndec | apply EvG_dec | apply EvC_dec | apply EvC_nbool | apply EvC_bool | apply EvG_nbool | apply EvG_bool) <;> intro _
    exact Kept.set' hW (by omega) (Kept.set' hW (by omega) k02)
set_option maxRecDepth 100000 in
set_option maxHeartbeats 2000000 in
theorem refCheckQ {O : Over} (H : StO O) (kd k wait step : Int) (E : List Ev) (s : Value) (hn : E.length ≤ 100000) (h : PT ABlk) (N : Nat) (hW : WfH h N) (hs : IsEvs h s E) :
    EvB Try.prog O 33 [.int .u8 kd, .int .i64 k, .int .i64 wait, .int .i64 step, s] h N fun v h' n' => RefV kd k wait step E v h' ∧ Kept h h' := by
  unfold RefV
  have o25 := H.o25
  have o45 := H.o45
  have o46 := H.o46
  refine EvB_run (N := 53) Try.func33 rfl rfl fun z hP hO hro hN hQ => ?_
  repeat' first | simp (config := { maxSteps := 2000000 }) (disch := omega) only [go_sem, *, Try.results33] | (first | apply EvG_ndec | apply EvC_ndec | apply EvG_dec | apply EvC_dec | apply EvC_nbool | apply EvC_bool | apply EvG_nbool | apply EvG_bool) <;> intro _
  refine EvQ_call ?_ ?_ (by rw [hP, hO]; exact validB kd k _ _) ?_
  · simp (config := { maxSteps := 2000000 }) (disch := omega) only [go_sem, *]
  · simp (config := { maxSteps := 2000000 }) (disch := omega) only [go_sem, *]
  rintro v h2 n2 ⟨rfl, rfl, rfl⟩
  by_cases hv : vld kd k
  · rw [decide_eq_true hv]
    repeat' first | simp (config := { maxSteps := 2000000 }) (disch := omega) only [go_sem, *, Try.results33] | (first | apply EvG_ndec | apply EvC_ndec | apply EvG_dec | apply EvC_dec | apply EvC_nbool | apply EvC_bool | apply EvG_nbool | apply EvG_bool) <;> intro _
    refine EvQ_call ?_ ?_ (by rw [hP, hO]; exact (refWaits H.o55 H.o61 H.o56 E _ hn _ _ hW hs).wf hW) ?_
    · simp (config := { maxSteps := 2000000 }) (disch := omega) only [go_sem, *]
    · simp (config := { maxSteps := 2000000 }) (disch := omega) only [go_sem, *]
    rintro v h4 n4 ⟨⟨hsv, k4⟩, hn4, w4⟩
    rcases hsv with ⟨hc, rfl⟩ | ⟨hc, wl, rfl, hJ⟩
    · rw [qerr_chk hv hc] at hQ
      repeat' first | simp (config := { maxSteps := 2000000 }) (disch := omega) only [go_sem, *, Try.results33] | (first | apply EvG_ndec | apply EvC_ndec | apply EvG_dec | apply EvC_dec | apply EvC_nbool | apply EvC_bool | apply EvG_nbool | apply EvG_bool) <;> intro _
    · obtain ⟨wa, wc, rfl, hrow⟩ := hJ.len
      by_cases hw : wait < 0 ∨ ((refS 3 E).length : Int) ≤ wait
      · rw [qerr_out hv hc hw] at hQ
        clear hrow
        rcases hw with hw | hw
        · repeat' first | simp (config := { maxSteps := 2000000 }) (disch := omega) only [go_sem, *, Try.results33] | (first | apply EvG_ndec | apply EvC_ndec | apply EvG_dec | apply EvC_dec | apply EvC_nbool | apply EvC_bool | apply EvG_nbool | apply EvG_bool) <;> intro _
        · have hw' : ¬ wait < 0 := by omega
          repeat' first | simp (config := { maxSteps := 2000000 }) (disch := omega) only [go_sem, *, Try.results33] | (first | apply EvG_ndec | apply EvC_ndec | apply EvG_dec | apply EvC_dec | apply EvC_nbool | apply EvC_bool | apply EvG_nbool | apply EvG_bool) <;> intro _
      · obtain ⟨wn, rfl⟩ : ∃ wn : Nat, wait = wn := ⟨wait.toNat, by omega⟩
        have hwl : wn < (refS 3 E).length := by omega
        rw [qerr_in hv hc hwl] at hQ
        have hw' : ¬ (wn : Int) < 0 := by omega
        have hw2 : ¬ (wn : Int) ≥ ((refS 3 E).length : Int) := by omega
        have hw3 : (wn : Int) < ((refS 3 E).length : Int) := by omega
        obtain ⟨wb, rfl, hwb⟩ := hrow wn hwl
        have c2 := secCs_cell (j := 2) hwl (by omega)
        obtain ⟨⟨x1, x2, x3, x4⟩, hx⟩ : ∃ x, (refS 3 E)[wn] = x := ⟨_, rfl⟩
        rw [hx] at c2 hQ
        simp only [secC, List.getElem?_cons_zero, List.getElem?_cons_succ] at c2 hQ
        have hpl := secCs_length (refS 3 E)
        clear hx hrow
        by_cases hst : x3 ≤ step
        · rw [if_pos hst] at hQ
          have hst' : ¬ step < x3 := by omega
          repeat' first | simp (config := { maxSteps := 2000000 }) (disch := omega) only [go_sem, *, Try.results33] | (first | apply EvG_ndec | apply EvC_ndec | apply EvG_dec | apply EvC_dec | apply EvC_nbool | apply EvC_bool | apply EvG_nbool | apply EvG_bool) <;> intro _
          refine EvQ_call ?_ ?_ (by rw [hP, hO]; exact (refSections H.o55 H.o61 H.o56 E _ hn _ _ w4 (hs.keep k4)).wf w4) ?_
          · simp (config := { maxSteps := 2000000 }) (disch := omega) only [go_sem, *]
          · simp (config := { maxSteps := 2000000 }) (disch := omega) only [go_sem, *]
          rintro v h5 n5 ⟨⟨hsv, k5⟩, hn5, w5⟩
          rcases hsv with ⟨hc2, rfl⟩ | ⟨-, sl, rfl, hI⟩
          · rw [hc] at hc2; simp at hc2
          · have k05 := k4.trans k5
            have hJ5 := hJ.keep k5
            clear k4 k5 hJ
            repeat' first | simp (config := { maxSteps := 2000000 }) (disch := omega) only [go_sem, *, Try.results33] | (first | apply EvG_ndec | apply EvC_ndec | apply EvG_dec | apply EvC_dec | apply EvC_nbool | apply EvC_bool | apply EvG_nbool | apply EvG_bool) <;> intro _
            exact ⟨_, _, rfl, hI, hJ5⟩
        · rw [if_neg hst] at hQ
          have hst' : step < x3 := by omega
          repeat' first | simp (config := { maxSteps := 2000000 }) (disch := omega) only [go_sem, *, Try.results33] | (first | apply EvG_ndec | apply EvC_ndec | apply EvG_dec | apply EvC_dec | apply EvC_nbool | apply EvC_bool | apply EvG_nbool | apply EvG_bool) <;> intro _
  · rw [decide_eq_false hv]
    rw [qerr_vld hv] at hQ
    clear hs
    repeat' first | simp (config := { maxSteps := 2000000 }) (disch := omega) only [go_sem, *, Try.results33] | (first | apply EvG_ndec | apply EvC_ndec | apply EvG_dec | apply EvC_dec | apply EvC_nbool | apply EvC_bool | apply EvG_nbool | apply EvG_bool) <;> intro _
    exact Kept.refl _
end Go.Proofs.Ythhohpbghfbkbaa

set_option linter.unusedVariables false
set_option linter.unusedSimpArgs false
namespace Go.Proofs.Ythhohpbghfbkbaa
open Go.Am

def meets (w : Sec) (fr : Int) (s : Sec) : Bool := decide ((w.2.2.2 < 0 ∨ s.2.2.1 ≤ w.2.2.2) ∧ (s.2.2.2 < 0 ∨ fr ≤ s.2.2.2))
def con (kd k : Int) (w s : Sec) : Bool := conV kd k.toNat w.2.1.toNat s.2.1.toNat
def qSec (kd k : Int) (w : Sec) (fr : Int) : List Sec → Bool
  | [] => true
  | s :: A => !(con kd k w s && meets w fr s) && qSec kd k w fr A
def qWt (w : Sec) (fr wait : Int) : Int → List Sec → Bool
  | _, [] => true
  | i, s :: A => !(decide (i ≠ wait) && meets w fr s) && qWt w fr wait (i + 1) A
def quietB (kd k wait fr : Int) (E : List Ev) : Bool := match (refS 3 E)[wait.toNat]? with
  | some w => qSec kd k w fr (refS 1 E) && qWt w fr wait 0 (refS 3 E)
  | none => false
def quietV (kd k wait fr : Int) (E : List Ev) : Value := if qerr kd k wait fr E = 0 then .tuple ⟨[.bool (quietB kd k wait fr E), .int .i64 0]⟩ else .tuple ⟨[.bool false, .int .i64 (qerr kd k wait fr E)]⟩
def okVals (E : List Ev) : Prop := ∀ x ∈ E, 0 ≤ x.2.2.2 ∧ x.2.2.2 < 2 ^ 64
theorem refS_val {p : Int → Prop} {bg : Int} : ∀ {E : List Ev}, (∀ x ∈ E, x.2.2.1 = bg → p x.2.2.2) → ∀ s ∈ refS bg E, p s.2.1
  | [], _, s, h => by simp [refS] at h
  | x :: E, H, s, h => by
    rw [refS] at h
    split at h
    · rename_i e
      rcases List.mem_cons.1 h with q | q
      · subst q; exact H x List.mem_cons_self e
      · exact refS_val (fun y hy => H y (List.mem_cons_of_mem _ hy)) s q
    · exact refS_val (fun y hy => H y (List.mem_cons_of_mem _ hy)) s h
theorem refS_from {p : Int → Prop} {bg : Int} : ∀ {E : List Ev}, (∀ x ∈ E, p x.1) → ∀ s ∈ refS bg E, p s.2.2.1
  | [], _, s, h => by simp [refS] at h
  | x :: E, H, s, h => by
    rw [refS] at h
    split at h
    · rcases List.mem_cons.1 h with q | q
      · subst q; exact H x List.mem_cons_self
      · exact refS_from (fun y hy => H y (List.mem_cons_of_mem _ hy)) s q
    · exact refS_from (fun y hy => H y (List.mem_cons_of_mem _ hy)) s h
theorem runs_val : ∀ (E : List Ev) (p : Option Ev) (T : TS), runs p T E = true → ∀ x ∈ E, x.2.2.1 = 1 → x.2.2.2 < 64
  | [], _, _, _ => by simp
  | x :: E, p, T, h => by
    simp only [runs, Bool.and_eq_true] at h
    intro y hy hk
    rcases List.mem_cons.1 hy with rfl | q
    · have := h.2.2.1
      rw [hk] at this
      have := of_decide_eq_true this
      exact this.2
    · exact runs_val E _ _ h.2.2.2 y q hk
theorem runs_nonneg : ∀ (E : List Ev) (p : Option Ev) (T : TS), runs p T E = true → ∀ x ∈ E, 0 ≤ x.1
  | [], _, _, _ => by simp
  | x :: E, p, T, h => by
    simp only [runs, Bool.and_eq_true] at h
    intro y hy
    rcases List.mem_cons.1 hy with rfl | q
    · exact (of_decide_eq_true h.1).1
    · exact runs_nonneg E _ _ h.2.2.2 y q
/-- A section's value, a wait's set. -/
theorem sec_nat {E : List Ev} (hc : chk E = true) (hv : okVals E) {s : Sec} (h : s ∈ refS 1 E) : ∃ v : Nat, s.2.1 = v ∧ v < 64 := by
  have h1 : 0 ≤ s.2.1 ∧ s.2.1 < 64 := refS_val (p := fun v => 0 ≤ v ∧ v < 64) (fun x hx hk => ⟨(hv x hx).1, runs_val E none T0 hc x hx hk⟩) s h
  exact ⟨s.2.1.toNat, by omega, by omega⟩
theorem wait_nat {E : List Ev} (hv : okVals E) {s : Sec} (h : s ∈ refS 3 E) : ∃ v : Nat, s.2.1 = v ∧ v < 2 ^ 64 := by
  have h1 : 0 ≤ s.2.1 ∧ s.2.1 < 2 ^ 64 := refS_val (p := fun v => 0 ≤ v ∧ v < 2 ^ 64) (fun x hx hk => hv x hx) s h
  exact ⟨s.2.1.toNat, by omega, by omega⟩
theorem qerr_zero {kd k wait step : Int} {E : List Ev} (h : qerr kd k wait step E = 0) : vld kd k ∧ chk E = true ∧ ∃ (wn : Nat) (hw : wn < (refS 3 E).length), wait = wn ∧ (refS 3 E)[wn].2.2.1 ≤ step := by
  by_cases hv : vld kd k
  · cases hc : chk E with
    | false => rw [qerr_chk hv hc] at h; simp at h
    | true =>
      refine ⟨hv, rfl, ?_⟩
      by_cases hw : wait < 0 ∨ ((refS 3 E).length : Int) ≤ wait
      · rw [qerr_out hv hc hw] at h; simp at h
      · obtain ⟨wn, rfl⟩ : ∃ wn : Nat, wait = wn := ⟨wait.toNat, by omega⟩
        have hwl : wn < (refS 3 E).length := by omega
        rw [qerr_in hv hc hwl] at h
        split at h
        · rename_i q; exact ⟨wn, hwl, rfl, q⟩
        · simp at h
  · rw [qerr_vld hv] at h; simp at h
theorem qSec_at {kd k : Int} {w : Sec} {fr : Int} {A : List Sec} {i : Nat} (hi : i < A.length) : qSec kd k w fr (A.drop i) = (!(con kd k w A[i] && meets w fr A[i]) && qSec kd k w fr (A.drop (i + 1))) := by
  rw [List.drop_eq_getElem_cons hi, qSec]
theorem qWt_at {w : Sec} {fr wait : Int} {A : List Sec} {i : Nat} (hi : i < A.length) : qWt w fr wait i (A.drop i) = (!(decide ((i : Int) ≠ wait) && meets w fr A[i]) && qWt w fr wait ((i : Int) + 1) (A.drop (i + 1))) := by
  rw [List.drop_eq_getElem_cons hi, qWt]
theorem vld_nat {kd k : Int} (h : vld kd k) : ∃ kn : Nat, k = kn := ⟨k.toNat, by unfold vld at h; omega⟩
theorem meets_yes {a b c d e fr s1 s2 s3 s4 : Int} (h : meets (a, b, c, d) fr (s1, s2, s3, s4) = true) : (d < 0 ∧ s4 < 0) ∨ (d < 0 ∧ ¬ s4 < 0 ∧ fr ≤ s4) ∨ (¬ d < 0 ∧ s3 ≤ d ∧ s4 < 0) ∨ (¬ d < 0 ∧ s3 ≤ d ∧ ¬ s4 < 0 ∧ fr ≤ s4) := by
  have := of_decide_eq_true h
  simp only at this
  omega
theorem meets_no {a b c d fr s1 s2 s3 s4 : Int} (h : ¬ meets (a, b, c, d) fr (s1, s2, s3, s4) = true) : (¬ d < 0 ∧ ¬ s3 ≤ d) ∨ (d < 0 ∧ ¬ s4 < 0 ∧ ¬ fr ≤ s4) ∨ (¬ d < 0 ∧ s3 ≤ d ∧ ¬ s4 < 0 ∧ ¬ fr ≤ s4) := by
  have : ¬ ((d < 0 ∨ s3 ≤ d) ∧ (s4 < 0 ∨ fr ≤ s4)) := fun q => h (decide_eq_true q)
  omega
end Go.Proofs.Ythhohpbghfbkbaa
