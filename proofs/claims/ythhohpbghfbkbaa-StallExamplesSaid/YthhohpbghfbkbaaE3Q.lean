/-
  A part of the proof: contracts of inner functions.
-/
import Derived.Test.YthhohpbghfbkbaaE3G
import Derived.Test.YthhohpbghfbkbaaE3L
set_option linter.unusedVariables false
set_option linter.unusedSimpArgs false
namespace Go.Proofs.Ythhohpbghfbkbaa
open Go.Am

/-- The events of an argument. -/
def ArgEvs (h : PT ABlk) (s : Value) (E : List Ev) : Prop := (s = .slice none 0 0 ∧ E = []) ∨ ∃ b off cap L ro, s = .slice (some ⟨b, off, none⟩) E.length cap ∧ E.length ≤ cap ∧ cap < 4611686018427387904 ∧ off + E.length * 4 ≤ L.length ∧ (L.drop off).take (E.length * 4) = evCs E ∧ h.get b = some (.cells (PT.ofList .leaf 0 L) ro)
theorem ArgEvs.keep {h h' : PT ABlk} {s : Value} {E : List Ev} (H : ArgEvs h s E) (k : Kept h h') : ArgEvs h' s E := by
  rcases H with H | ⟨b, off, cap, L, ro, e, e1, e2, e3, e4, q⟩
  · exact .inl H
  · exact .inr ⟨b, off, cap, L, ro, e, e1, e2, e3, e4, k _ _ q⟩
theorem ArgEvs.row {h : PT ABlk} {E : List Ev} {b cap : Nat} {ro : Bool} (h1 : E.length ≤ cap) (h2 : cap < 4611686018427387904) (hb : h.get b = some (.cells (PT.ofList .leaf 0 (evCs E)) ro)) : ArgEvs h (.slice (some ⟨b, 0, none⟩) E.length cap) E :=
  .inr ⟨b, 0, cap, evCs E, ro, rfl, h1, h2, by rw [evCs_length]; omega, by rw [List.drop_zero, List.take_of_length_le (by rw [evCs_length]; exact Nat.le_refl _)], hb⟩
theorem evCs_take (E : List Ev) (n : Nat) : (evCs E).take (n * 4) = evCs (E.take n) := by
  rcases Nat.lt_or_ge E.length n with h | h
  · rw [List.take_of_length_le (by rw [evCs_length]; omega), List.take_of_length_le (by omega)]
  · have e1 : evCs E = evCs (E.take n) ++ evCs (E.drop n) := by
      unfold evCs
      rw [← List.flatMap_append, List.take_append_drop]
    have e2 : (evCs (E.take n)).length = n * 4 := by rw [evCs_length, List.length_take]; omega
    rw [e1, List.take_append_of_le_length (by omega), List.take_of_length_le (by omega)]
/-- Events in a new row, or none. -/
def NewEvs (N : Nat) (h : PT ABlk) (s : Value) (E : List Ev) : Prop := (s = .slice none 0 0 ∧ E = []) ∨ ∃ b, N ≤ b ∧ E ≠ [] ∧ s = .slice (some ⟨b, 0, none⟩) E.length (capInf + 4) ∧ h.get b = some (.cells (PT.ofList .leaf 0 (evCs E)) false)
theorem NewEvs.is {N : Nat} {h : PT ABlk} {s : Value} {E : List Ev} (H : NewEvs N h s E) : IsEvs h s E := by
  rcases H with H | ⟨b, _, _, e, q⟩
  · exact .inl H
  · exact .inr ⟨b, _, e, q⟩
theorem copyB0 {O : Over} (h : PT ABlk) (N : Nat) : EvB Try.prog O 30 [.slice none 0 0] h N fun v h' n' => v = .slice none 0 0 ∧ h' = h ∧ n' = N := by
  refine EvB_run (N := 5) Try.func30 rfl rfl fun z hP hO hro hN hQ => ?_
  repeat' first | simp (config := { maxSteps := 2000000 }) (disch := omega) only [go_sem, *, Try.results30, apTo_none] | (first | apply EvG_ndec | apply EvC_ndec | apply EvG_dec | apply EvC_dec | apply EvC_nbool | apply EvC_bool | apply EvG_nbool | apply EvG_bool) <;> intro _
theorem copyB {O : Over} (E : List Ev) (n b off cap : Nat) (L : List Value) (ro : Bool) (hn : n ≤ E.length) (hn1 : n ≤ 80) (hol : off + E.length * 4 ≤ L.length) (hL : (L.drop off).take (E.length * 4) = evCs E) (h : PT ABlk) (N : Nat) (hW : WfH h N) (hs : h.get b = some (.cells (PT.ofList .leaf 0 L) ro)) :
    EvB Try.prog O 30 [.slice (some ⟨b, off, none⟩) n cap] h N fun v h' n' => NewEvs N h' v (E.take n) ∧ Kept h h' := by
  refine EvB_run (N := 5) Try.func30 rfl rfl fun z hP hO hro hN hQ => ?_
  cases n with
  | zero =>
    rw [List.take_zero] at hQ
    repeat' first | simp (config := { maxSteps := 2000000 }) (disch := omega) only [go_sem, *, Try.results30, apTo_none] | (first | apply EvG_ndec | apply EvC_ndec | apply EvG_dec | apply EvC_dec | apply EvC_nbool | apply EvC_bool | apply EvG_nbool | apply EvG_bool) <;> intro _
    exact ⟨.inl ⟨rfl, rfl⟩, Kept.refl _⟩
  | succ m =>
    have hk : (L.drop off).take ((m + 1) * 4) = evCs (E.take (m + 1)) := by
      rw [← evCs_take, ← hL, List.take_take, Nat.min_eq_left (by omega)]
    have hl : (evCs (E.take (m + 1))).length = (m + 1) * 4 := by rw [evCs_length, List.length_take]; omega
    have hle : (E.take (m + 1)).length = m + 1 := by rw [List.length_take]; omega
    have hb1 : Nat.ble (off + (m + 1) * 4) L.length = true := Nat.ble_eq_true_of_le (by omega)
    have hb2 : Nat.ble (m + 1) 1048576 = true := Nat.ble_eq_true_of_le (by omega)
    have hb3 : Nat.beq ((m + 1) * 4) ((m + 1) * 4) = true := Nat.beq_refl _
    clear hL
    generalize E.take (m + 1) = T at *
    have key : ∀ h', h'.get N = some (.cells (PT.ofList .leaf 0 (evCs T)) false) → NewEvs N h' (.slice (some ⟨N, 0, none⟩) (m + 1) (capInf + 4)) T := fun h' q => .inr ⟨N, Nat.le_refl _, fun e => by rw [e] at hle; simp at hle, by rw [hle], q⟩
    repeat' first | simp (config := { maxSteps := 2000000 }) (disch := omega) only [go_sem, *, Try.results30, apTo_none] | (first | apply EvG_ndec | apply EvC_ndec | apply EvG_dec | apply EvC_dec | apply EvC_nbool | apply EvC_bool | apply EvG_nbool | apply EvG_bool) <;> intro _
    exact ⟨key _ heap_same, hW.kept (Nat.le_refl _)⟩
theorem slV32_nil : slV Try.prog 30 (.slice none 0 0) none (some (.int .i64 0)) none = .pure (.value (.slice none 0 0)) := by
  kernel_rfl
theorem fewN {O : Over} (o32 : O 30 = fun _ => none) (E : List Ev) (s : Value) (h : PT ABlk) (N : Nat) (hW : WfH h N) (hs : ArgEvs h s E) :
    EvB Try.prog O 13 [s] h N fun v h' n' => NewEvs N h' v (E.take 80) ∧ Kept h h' := by
  refine EvB_run (N := 9) Try.func13 rfl rfl fun z hP hO hro hN hQ => ?_
  rcases hs with ⟨rfl, rfl⟩ | ⟨b, off, cap, L, ro, rfl, hcap, hcl, hol, hL, hb⟩
  · rw [List.take_nil] at hQ
    repeat' first | simp (config := { maxSteps := 2000000 }) (disch := omega) only [go_sem, *, Try.results13, slV32_nil] | (first | apply EvG_ndec | apply EvC_ndec | apply EvG_dec | apply EvC_dec | apply EvC_nbool | apply EvC_bool | apply EvG_nbool | apply EvG_bool) <;> intro _
    refine EvQ_call ?_ ?_ (by rw [hP, hO]; exact copyB0 _ _) ?_
    · simp (config := { maxSteps := 2000000 }) (disch := omega) only [go_sem, *]
    · simp (config := { maxSteps := 2000000 }) (disch := omega) only [go_sem, *]
    rintro v h2 n2 ⟨rfl, rfl, rfl⟩
    repeat' first | simp (config := { maxSteps := 2000000 }) (disch := omega) only [go_sem, *, Try.results13] | (first | apply EvG_ndec | apply EvC_ndec | apply EvG_dec | apply EvC_dec | apply EvC_nbool | apply EvC_bool | apply EvG_nbool | apply EvG_bool) <;> intro _
    exact ⟨.inl ⟨rfl, rfl⟩, Kept.refl _⟩
  · by_cases h80 : 80 < E.length
    · have h80' : (80 : Int) < (E.length : Int) := by omega
      have hb1 : Nat.ble 80 cap = true := Nat.ble_eq_true_of_le (by omega)
      have hsl2 := @slK_cap0 b off 4 E.length cap 80 none hcl
      have hL0 := hL
      clear hL
      repeat' first | simp (config := { maxSteps := 2000000 }) (disch := omega) only [go_sem, *, Try.results13, Bool.cond_self] | (first | apply EvG_ndec | apply EvC_ndec | apply EvG_dec | apply EvC_dec | apply EvC_nbool | apply EvC_bool | apply EvG_nbool | apply EvG_bool) <;> intro _
      refine EvQ_call ?_ ?_ (by rw [hP, hO]; exact copyB E 80 b off cap L ro (by omega) (by omega) hol hL0 _ _ hW hb) ?_
      · simp (config := { maxSteps := 2000000 }) (disch := omega) only [go_sem, *]
      · simp (config := { maxSteps := 2000000 }) (disch := omega) only [go_sem, *]
      rintro v h2 n2 ⟨q1, q2⟩
      repeat' first | simp (config := { maxSteps := 2000000 }) (disch := omega) only [go_sem, *, Try.results13] | (first | apply EvG_ndec | apply EvC_ndec | apply EvG_dec | apply EvC_dec | apply EvC_nbool | apply EvC_bool | apply EvG_nbool | apply EvG_bool) <;> intro _
    · have h80' : ¬ (80 : Int) < (E.length : Int) := by omega
      have hb1 : Nat.ble E.length cap = true := Nat.ble_eq_true_of_le (by omega)
      have hsl2 := @slK_cap0 b off 4 E.length cap E.length none hcl
      have htk : E.take 80 = E := List.take_of_length_le (by omega)
      rw [htk] at hQ
      repeat' first | simp (config := { maxSteps := 2000000 }) (disch := omega) only [go_sem, *, Try.results13, Bool.cond_self] | (first | apply EvG_ndec | apply EvC_ndec | apply EvG_dec | apply EvC_dec | apply EvC_nbool | apply EvC_bool | apply EvG_nbool | apply EvG_bool) <;> intro _
      refine EvQ_call ?_ ?_ (by rw [hP, hO]; exact copyB E E.length b off cap L ro (Nat.le_refl _) (by omega) hol hL _ _ hW hb) ?_
      · simp (config := { maxSteps := 2000000 }) (disch := omega) only [go_sem, *]
      · simp (config := { maxSteps := 2000000 }) (disch := omega) only [go_sem, *]
      rintro v h2 n2 ⟨q1, q2⟩
      rw [List.take_length] at q1
      repeat' first | simp (config := { maxSteps := 2000000 }) (disch := omega) only [go_sem, *, Try.results13] | (first | apply EvG_ndec | apply EvC_ndec | apply EvG_dec | apply EvC_dec | apply EvC_nbool | apply EvC_bool | apply EvG_nbool | apply EvG_bool) <;> intro _
theorem fewB {O : Over} (o32 : O 30 = fun _ => none) (E : List Ev) (s : Value) (h : PT ABlk) (N : Nat) (hW : WfH h N) (hs : ArgEvs h s E) :
    EvB Try.prog O 13 [s] h N fun v h' n' => IsEvs h' v (E.take 80) ∧ Kept h h' := (fewN o32 E s h N hW hs).mono fun v h' n' q => ⟨q.1.is, q.2⟩
end Go.Proofs.Ythhohpbghfbkbaa

set_option linter.unusedVariables false
set_option linter.unusedSimpArgs false
namespace Go.Proofs.Ythhohpbghfbkbaa
open Go.Am

/-- What concerns a wait, for the reference. -/
noncomputable def conS : List Value → Option (AP Value)
  | [.int .u8 kd, .int .i64 k, .int .u64 s, .int .u64 v] => some (cond (decide (vld kd k ∧ 0 ≤ s ∧ s < 2 ^ 64 ∧ 0 ≤ v ∧ v < 64)) (.pure (.bool (conV kd k.toNat s.toNat v.toNat))) (.fail ""))
  | _ => none
theorem conS_eq {kd : Int} {k s v : Nat} (hk : vld kd k) (hs : s < 2 ^ 64) (hv : v < 64) : conS [.int .u8 kd, .int .i64 k, .int .u64 s, .int .u64 v] = some (.pure (.bool (conV kd k s v))) := by
  unfold conS
  simp only [Int.toNat_natCast]
  rw [decide_eq_true ⟨hk, by omega, by omega, by omega, by omega⟩]
  rfl
theorem conF : SoundF Try.prog 29 conS := by
  refine soundF_query (tab_sound .nil) orders ?_
  intro args m hm
  unfold conS at hm
  split at hm
  · rename_i kd k s v
    simp only [Option.some.injEq] at hm
    subst hm
    refine ⟨fun h v2 => (vld kd k ∧ 0 ≤ s ∧ s < 2 ^ 64 ∧ 0 ≤ v ∧ v < 64) ∧ v2 = .bool (conV kd k.toNat s.toNat v.toNat), fun h n v2 s' hR e => ?_, fun h N v2 hlt ⟨hp, e⟩ => ?_⟩
    · obtain ⟨hc, e⟩ := run_cond e
      obtain ⟨rfl, rfl⟩ := run_pure e
      exact ⟨rfl, .bool _, of_decide_eq_true hc, rfl⟩
    · subst e
      obtain ⟨hk, h1, h2, h3, h4⟩ := hp
      obtain ⟨kn, rfl⟩ := vld_nat hk
      obtain ⟨sn, rfl⟩ : ∃ sn : Nat, s = sn := ⟨s.toNat, by omega⟩
      obtain ⟨vn, rfl⟩ : ∃ vn : Nat, v = vn := ⟨v.toNat, by omega⟩
      refine (refConB (O := tabO []) rfl rfl kd kn sn vn (by omega) (by omega) hk h N).mono ?_
      rintro r h' n' ⟨rfl, rfl, rfl⟩
      exact ⟨rfl, fun _ _ => rfl⟩
  · simp at hm
/-- What refQuiet and refBlockers need of a table. -/
structure RqO (O : Over) : Prop extends StO O where
  o28 : O 29 = conS
set_option maxRecDepth 100000 in
set_option maxHeartbeats 4000000 in
theorem refQuietB {O : Over} (H : RqO O) (kd k wait fr : Int) (E : List Ev) (s : Value) (hv : okVals E) (hn : E.length ≤ 100000) (h : PT ABlk) (N : Nat) (hW : WfH h N) (hs : IsEvs h s E) :
    EvB Try.prog O 15 [.int .u8 kd, .int .i64 k, .int .i64 wait, .int .i64 fr, s] h N fun v h' n' => v = quietV kd k wait fr E ∧ Kept h h' := by
  unfold quietV
  have o35 := H.o35
  have o28 := H.o28
  refine EvB_run (N := 113) Try.func15 rfl rfl fun z hP hO hro hN hQ => ?_
  repeat' first | simp (config := { maxSteps := 2000000 }) (disch := omega) only [go_sem, *, Try.results15] | (first | apply EvG_ndec | apply EvC_ndec | apply EvG_dec | apply EvC_dec | apply EvC_nbool | apply EvC_bool | apply EvG_nbool | apply EvG_bool) <;> intro _
  refine EvQ_call ?_ ?_ (by rw [hP, hO]; exact (refCheckQ H.toStO kd k wait fr E _ hn _ _ hW hs).wf hW) ?_
  · simp (config := { maxSteps := 2000000 }) (disch := omega) only [go_sem, *]
  · simp (config := { maxSteps := 2000000 }) (disch := omega) only [go_sem, *]
  rintro v h2 n2 ⟨⟨hf, k2⟩, hn2, w2⟩
  clear hs
  rcases hf with ⟨hq, rfl⟩ | ⟨hq, sl, wl, rfl, hI, hJ⟩
  · rw [if_neg hq] at hQ
    repeat' first | simp (config := { maxSteps := 2000000 }) (disch := omega) only [go_sem, *, Try.results15] | (first | apply EvG_ndec | apply EvC_ndec | apply EvG_dec | apply EvC_dec | apply EvC_nbool | apply EvC_bool | apply EvG_nbool | apply EvG_bool) <;> intro _
  · rw [if_pos hq] at hQ
    obtain ⟨hvl, hc, wn, hwl, rfl, hst⟩ := qerr_zero hq
    obtain ⟨kn, rfl⟩ := vld_nat hvl
    obtain ⟨sv, hsv, hsb⟩ := wait_nat hv (List.getElem_mem hwl)
    rw [quietB_at hwl] at hQ
    have hA : ∀ x ∈ refS 1 E, ∃ v : Nat, x.2.1 = v ∧ v < 64 := fun x hx => sec_nat hc hv hx
    obtain ⟨sa, sc, rfl, hrow⟩ := hI.len
    obtain ⟨wa, wc, rfl, hrw⟩ := hJ.len
    have hLA := Nat.le_trans (refS_length 1 E) hn
    have hLW := Nat.le_trans (refS_length 3 E) hn
    clear hI hJ hq hst hv hn hc
    generalize refS 1 E = A at *
    generalize refS 3 E = W at *
    obtain ⟨wb, rfl, hwb⟩ := hrw wn hwl
    have hro4 := secCs_row hwl
    have hpl := secCs_length W
    obtain ⟨⟨x1, x2, x3, x4⟩, hx⟩ : ∃ x, W[wn] = x := ⟨_, rfl⟩
    rw [hx] at hro4 hQ hsv
    simp only [secC] at hro4 hsv
    subst hsv
    have hw' : ¬ (wn : Int) < 0 := by omega
    have hw3 : (wn : Int) < (W.length : Int) := by omega
    have hwbN := w2.lt hwb
    clear hx hrw
    obtain ⟨Q1, hQ1⟩ : ∃ q, qSec kd kn (x1, sv, x3, x4) fr A = q := ⟨_, rfl⟩
    obtain ⟨Q2, hQ2⟩ : ∃ q, qWt (x1, sv, x3, x4) fr wn 0 W = q := ⟨_, rfl⟩
    rw [hQ1, hQ2] at hQ
    repeat' first | simp (config := { maxSteps := 2000000 }) (disch := omega) only [go_sem, *, Try.results15] | (first | apply EvG_ndec | apply EvC_ndec | apply EvG_dec | apply EvC_dec | apply EvC_nbool | apply EvC_bool | apply EvG_nbool | apply EvG_bool) <;> intro _
    have hhe : ∃ h3, h3 = PT.set (PT.set h2 n2 (some (.cells (PT.ofList .leaf 0 [.int .i64 0, .int .u64 0, .int .i64 0, .int .i64 0]) false))) n2 (some (.cells (PT.ofList .leaf 0 [.int .i64 x1, .int .u64 sv, .int .i64 x3, .int .i64 x4]) false)) := ⟨_, rfl⟩
    obtain ⟨h3, hh3⟩ := hhe
    rw [← hh3]
    have e2 : h3.get n2 = some (.cells (PT.ofList .leaf 0 [.int .i64 x1, .int .u64 sv, .int .i64 x3, .int .i64 x4]) false) := by rw [hh3]; exact heap_same
    have k3 : Kept h2 h3 := by rw [hh3]; exact Kept.set' w2 (by omega) (w2.kept (Nat.le_refl _))
    have w3 : WfH h3 (n2 + 1) := by rw [hh3]; exact WfH.set' (by omega) (w2.set (by omega) (by omega))
    clear hh3
    have hwb' := k3 _ _ hwb
    have k03 := k2.trans k3
    have hrow' : ∀ i, i < A.length → ∃ b, sa = some ⟨b, 0, none⟩ ∧ h3.get b = some (.cells (PT.ofList .leaf 0 (secCs A)) false) := fun i hi => by
      obtain ⟨b, p1, p2⟩ := hrow i hi
      exact ⟨b, p1, k3 _ _ p2⟩
    clear k3 hrow hwb w2 k2 hwbN hro4
    have hwbN := w3.lt hwb'
    refine ind_loop (fun t m h' n' => ∃ i : Nat, i ≤ A.length ∧ t = A.length - i ∧ m.n = 113 ∧ m.dfs = [] ∧ m.get 0 = .int .u8 kd ∧ m.get 1 = .int .i64 kn ∧ m.get 2 = .int .i64 wn ∧ m.get 3 = .int .i64 fr ∧ m.get 12 = .slice (some ⟨wb, 0, none⟩) W.length wc ∧ m.get 13 = .slice sa A.length sc ∧
      m.get 15 = .pointer (some ⟨n2, 0, none⟩) ∧ m.get 16 = .int .i64 i ∧ WfH h' n' ∧ n2 + 1 ≤ n' ∧ Kept h3 h' ∧ qSec kd kn (x1, sv, x3, x4) fr (A.drop i) = Q1) A.length ?_ ?_
    · refine ⟨0, by omega, by omega, ?_⟩
      simp (config := { maxSteps := 2000000 }) (disch := omega) only [go_sem, *]
      exact ⟨Nat.le_refl _, Kept.refl _⟩
    · clear hQ1
      rintro t m h' n' ih ⟨i, hi, rfl, m1, m2, m3, m4, m5, m6, m7, m8, m9, m10, q1, q2, q3, q4⟩
      rcases Nat.lt_or_ge i A.length with hlt | hge
      · have e7 : (i : Int) < A.length := by omega
        obtain ⟨b, rfl, hb0⟩ := hrow' i hlt
        rw [qSec_at hlt] at q4
        have hb := q3 _ _ hb0
        have hbN := q1.lt hb
        have he2 := q3 _ _ e2
        have hplA : (secCs A).length = A.length * 4 := secCs_length A
        have hro4 := secCs_row hlt
        have hci : ((i + 1 : Nat) : Int) = (i : Int) + 1 := by omega
        obtain ⟨v, hv, hvb⟩ := hA A[i] (List.getElem_mem hlt)
        obtain ⟨⟨th, val, f2, to⟩, hx⟩ : ∃ x, A[i] = x := ⟨_, rfl⟩
        rw [hx] at hro4 q4 hv
        simp only [secC] at hro4 hv
        subst hv
        rw [con_nat] at q4
        have hcs := conS_eq (s := sv) (v := v) hvl hsb hvb
        clear hQ2 hrow' hb0 hx hA hwb' e2
        cases hcv : conV kd kn sv v with
        | false =>
          rw [hcv] at q4 hcs
          simp only [Bool.false_and, Bool.not_false, Bool.true_and] at q4
          clear hcv
          repeat' first | simp (config := { maxSteps := 2000000 }) (disch := omega) only [go_sem, *, Try.results15] | (first | apply EvG_ndec | apply EvC_ndec | apply EvG_dec | apply EvC_dec | apply EvC_nbool | apply EvC_bool | apply EvG_nbool | apply EvG_bool) <;> intro _
          refine ih (A.length - (i + 1)) _ _ _ (by omega) ⟨i + 1, by omega, rfl, ?_⟩
          rw [hci]
          clear ih
          simp (config := { maxSteps := 2000000 }) (disch := omega) only [go_sem, *]
          exact ⟨WfH.set' (by omega) (q1.set (by omega) (by omega)), by omega, Kept.set' w3 (by omega) (Kept.set' w3 (by omega) q3)⟩
        | true =>
          rw [hcv] at q4 hcs
          simp only [Bool.true_and] at q4
          clear hcv
          by_cases hmm : meets (x1, sv, x3, x4) fr (th, v, f2, to) = true
          · rw [hmm] at q4
            simp only [Bool.not_true, Bool.false_and] at q4
            subst q4
            simp only [Bool.false_and] at hQ
            clear ih
            rcases meets_yes (e := 0) hmm with ⟨c1, c2⟩ | ⟨c1, c2, c3⟩ | ⟨c1, c2, c3⟩ | ⟨c1, c2, c3, c4⟩
            · repeat' first | simp (config := { maxSteps := 2000000 }) (disch := omega) only [go_sem, *, Try.results15] | (first | apply EvG_ndec | apply EvC_ndec | apply EvG_dec | apply EvC_dec | apply EvC_nbool | apply EvC_bool | apply EvG_nbool | apply EvG_bool) <;> intro _
              exact Kept.trans k03 (Kept.set' w3 (by omega) (Kept.set' w3 (by omega) q3))
            · repeat' first | simp (config := { maxSteps := 2000000 }) (disch := omega) only [go_sem, *, Try.results15] | (first | apply EvG_ndec | apply EvC_ndec | apply EvG_dec | apply EvC_dec | apply EvC_nbool | apply EvC_bool | apply EvG_nbool | apply EvG_bool) <;> intro _
              exact Kept.trans k03 (Kept.set' w3 (by omega) (Kept.set' w3 (by omega) q3))
            · repeat' first | simp (config := { maxSteps := 2000000 }) (disch := omega) only [go_sem, *, Try.results15] | (first | apply EvG_ndec | apply EvC_ndec | apply EvG_dec | apply EvC_dec | apply EvC_nbool | apply EvC_bool | apply EvG_nbool | apply EvG_bool) <;> intro _
              exact Kept.trans k03 (Kept.set' w3 (by omega) (Kept.set' w3 (by omega) q3))
            · repeat' first | simp (config := { maxSteps := 2000000 }) (disch := omega) only [go_sem, *, Try.results15] | (first | apply EvG_ndec | apply EvC_ndec | apply EvG_dec | apply EvC_dec | apply EvC_nbool | apply EvC_bool | apply EvG_nbool | apply EvG_bool) <;> intro _
              exact Kept.trans k03 (Kept.set' w3 (by omega) (Kept.set' w3 (by omega) q3))
          · have hm0 : meets (x1, sv, x3, x4) fr (th, v, f2, to) = false := by simpa using hmm
            rw [hm0] at q4
            simp only [Bool.not_false, Bool.true_and] at q4
            have hno := meets_no hmm
            clear hmm hm0
            rcases hno with ⟨c1, c2⟩ | ⟨c1, c2, c3⟩ | ⟨c1, c2, c3, c4⟩
            · repeat' first | simp (config := { maxSteps := 2000000 }) (disch := omega) only [go_sem, *, Try.results15] | (first | apply EvG_ndec | apply EvC_ndec | apply EvG_dec | apply EvC_dec | apply EvC_nbool | apply EvC_bool | apply EvG_nbool | apply EvG_bool) <;> intro _
              refine ih (A.length - (i + 1)) _ _ _ (by omega) ⟨i + 1, by omega, rfl, ?_⟩
              rw [hci]
              clear ih
              simp (config := { maxSteps := 2000000 }) (disch := omega) only [go_sem, *]
              exact ⟨WfH.set' (by omega) (q1.set (by omega) (by omega)), by omega, Kept.set' w3 (by omega) (Kept.set' w3 (by omega) q3)⟩
            · repeat' first | simp (config := { maxSteps := 2000000 }) (disch := omega) only [go_sem, *, Try.results15] | (first | apply EvG_ndec | apply EvC_ndec | apply EvG_dec | apply EvC_dec | apply EvC_nbool | apply EvC_bool | apply EvG_nbool | apply EvG_bool) <;> intro _
              refine ih (A.length - (i + 1)) _ _ _ (by omega) ⟨i + 1, by omega, rfl, ?_⟩
              rw [hci]
              clear ih
              simp (config := { maxSteps := 2000000 }) (disch := omega) only [go_sem, *]
              exact ⟨WfH.set' (by omega) (q1.set (by omega) (by omega)), by omega, Kept.set' w3 (by omega) (Kept.set' w3 (by omega) q3)⟩
            · repeat' first | simp (config := { maxSteps := 2000000 }) (disch := omega) only [go_sem, *, Try.results15] | (first | apply EvG_ndec | apply EvC_ndec | apply EvG_dec | apply EvC_dec | apply EvC_nbool | apply EvC_bool | apply EvG_nbool | apply EvG_bool) <;> intro _
              refine ih (A.length - (i + 1)) _ _ _ (by omega) ⟨i + 1, by omega, rfl, ?_⟩
              rw [hci]
              clear ih
              simp (config := { maxSteps := 2000000 }) (disch := omega) only [go_sem, *]
              exact ⟨WfH.set' (by omega) (q1.set (by omega) (by omega)), by omega, Kept.set' w3 (by omega) (Kept.set' w3 (by omega) q3)⟩
      · have e7 : ¬ (i : Int) < A.length := by omega
        obtain rfl : i = A.length := by omega
        rw [List.drop_length] at q4
        simp only [qSec] at q4
        subst q4
        simp only [Bool.true_and] at hQ
        clear ih hA hrow'
        repeat' first | simp (config := { maxSteps := 2000000 }) (disch := omega) only [go_sem, *, Try.results15] | (first | apply EvG_ndec | apply EvC_ndec | apply EvG_dec | apply EvC_dec | apply EvC_nbool | apply EvC_bool | apply EvG_nbool | apply EvG_bool) <;> intro _
        refine ind_loop (fun t m h' n' => ∃ j : Nat, j ≤ W.length ∧ t = W.length - j ∧ m.n = 113 ∧ m.dfs = [] ∧ m.get 2 = .int .i64 wn ∧ m.get 3 = .int .i64 fr ∧ m.get 12 = .slice (some ⟨wb, 0, none⟩) W.length wc ∧
          m.get 15 = .pointer (some ⟨n2, 0, none⟩) ∧ m.get 18 = .int .i64 j ∧ WfH h' n' ∧ n2 + 1 ≤ n' ∧ Kept h3 h' ∧ qWt (x1, sv, x3, x4) fr wn j (W.drop j) = Q2) W.length ?_ ?_
        · refine ⟨0, by omega, by omega, ?_⟩
          simp (config := { maxSteps := 2000000 }) (disch := omega) only [go_sem, *]
        · clear hQ2
          rintro t m h' n' ih ⟨j, hj, rfl, m1, m2, m3, m4, m7, m8, m9, q1, q2, q3, q4⟩
          rcases Nat.lt_or_ge j W.length with hlt | hge
          · have e7 : (j : Int) < W.length := by omega
            rw [qWt_at hlt] at q4
            have hb := q3 _ _ hwb'
            have he2 := q3 _ _ e2
            have hbN : wb < n' := by omega
            have hro4 := secCs_row hlt
            have hci : ((j + 1 : Nat) : Int) = (j : Int) + 1 := by omega
            obtain ⟨⟨th, v, f2, to⟩, hx⟩ : ∃ x, W[j] = x := ⟨_, rfl⟩
            rw [hx] at hro4 q4
            simp only [secC] at hro4
            clear hx hwb' e2
            by_cases hjw : j = wn
            · subst hjw
              simp only [ne_eq, not_true_eq_false, decide_false, Bool.false_and, Bool.not_false, Bool.true_and] at q4
              repeat' first | simp (config := { maxSteps := 2000000 }) (disch := omega) only [go_sem, *, Try.results15] | (first | apply EvG_ndec | apply EvC_ndec | apply EvG_dec | apply EvC_dec | apply EvC_nbool | apply EvC_bool | apply EvG_nbool | apply EvG_bool) <;> intro _
              refine ih (W.length - (j + 1)) _ _ _ (by omega) ⟨j + 1, by omega, rfl, ?_⟩
              rw [hci]
              clear ih
              simp (config := { maxSteps := 2000000 }) (disch := omega) only [go_sem, *]
              exact ⟨WfH.set' (by omega) (q1.set (by omega) (by omega)), by omega, Kept.set' w3 (by omega) (Kept.set' w3 (by omega) q3)⟩
            · have hjw' : ¬ (j : Int) = wn := by omega
              simp only [ne_eq, hjw', not_false_eq_true, decide_true, Bool.true_and] at q4
              clear hjw
              by_cases hmm : meets (x1, sv, x3, x4) fr (th, v, f2, to) = true
              · rw [hmm] at q4
                simp only [Bool.not_true, Bool.false_and] at q4
                subst q4
                clear ih
                rcases meets_yes (e := 0) hmm with ⟨c1, c2⟩ | ⟨c1, c2, c3⟩ | ⟨c1, c2, c3⟩ | ⟨c1, c2, c3, c4⟩
                · repeat' first | simp (config := { maxSteps := 2000000 }) (disch := omega) only [go_sem, *, Try.results15] | (first | apply EvG_ndec | apply EvC_ndec | apply EvG_dec | apply EvC_dec | apply EvC_nbool | apply EvC_bool | apply EvG_nbool | apply EvG_bool) <;> intro _
                  exact Kept.trans k03 (Kept.set' w3 (by omega) (Kept.set' w3 (by omega) q3))
                · repeat' first | simp (config := { maxSteps := 2000000 }) (disch := omega) only [go_sem, *, Try.results15] | (first | apply EvG_ndec | apply EvC_ndec | apply EvG_dec | apply EvC_dec | apply EvC_nbool | apply EvC_bool | apply EvG_nbool | apply EvG_bool) <;> intro _
                  exact Kept.trans k03 (Kept.set' w3 (by omega) (Kept.set' w3 (by omega) q3))
                · repeat' first | simp (config := { maxSteps := 2000000 }) (disch := omega) only [go_sem, *, Try.results15] | (first | apply EvG_ndec | apply EvC_ndec | apply EvG_dec | apply EvC_dec | apply EvC_nbool | apply EvC_bool | apply EvG_nbool | apply EvG_bool) <;> intro _
                  exact Kept.trans k03 (Kept.set' w3 (by omega) (Kept.set' w3 (by omega) q3))
                · repeat' first | simp (config := { maxSteps := 2000000 }) (disch := omega) only [go_sem, *, Try.results15] | (first | apply EvG_ndec | apply EvC_ndec | apply EvG_dec | apply EvC_dec | apply EvC_nbool | apply EvC_bool | apply EvG_nbool | apply EvG_bool) <;> intro _
                  exact Kept.trans k03 (Kept.set' w3 (by omega) (Kept.set' w3 (by omega) q3))
              · have hm0 : meets (x1, sv, x3, x4) fr (th, v, f2, to) = false := by simpa using hmm
                rw [hm0] at q4
                simp only [Bool.not_false, Bool.true_and] at q4
                have hno := meets_no hmm
                clear hmm hm0
                rcases hno with ⟨c1, c2⟩ | ⟨c1, c2, c3⟩ | ⟨c1, c2, c3, c4⟩
                · repeat' first | simp (config := { maxSteps := 2000000 }) (disch := omega) only [go_sem, *, Try.results15] | (first | apply EvG_ndec | apply EvC_ndec | apply EvG_dec | apply EvC_dec | apply EvC_nbool | apply EvC_bool | apply EvG_nbool | apply EvG_bool) <;> intro _
                  refine ih (W.length - (j + 1)) _ _ _ (by omega) ⟨j + 1, by omega, rfl, ?_⟩
                  rw [hci]
                  clear ih
                  simp (config := { maxSteps := 2000000 }) (disch := omega) only [go_sem, *]
                  exact ⟨WfH.set' (by omega) (q1.set (by omega) (by omega)), by omega, Kept.set' w3 (by omega) (Kept.set' w3 (by omega) q3)⟩
                · repeat' first | simp (config := { maxSteps := 2000000 }) (disch := omega) only [go_sem, *, Try.results15] | (first | apply EvG_ndec | apply EvC_ndec | apply EvG_dec | apply EvC_dec | apply EvC_nbool | apply EvC_bool | apply EvG_nbool | apply EvG_bool) <;> intro _
                  refine ih (W.length - (j + 1)) _ _ _ (by omega) ⟨j + 1, by omega, rfl, ?_⟩
                  rw [hci]
                  clear ih
                  simp (config := { maxSteps := 2000000 }) (disch := omega) only [go_sem, *]
                  exact ⟨WfH.set' (by omega) (q1.set (by omega) (by omega)), by omega, Kept.set' w3 (by omega) (Kept.set' w3 (by omega) q3)⟩
                · repeat' first | simp (config := { maxSteps := 2000000 }) (disch := omega) only [go_sem, *, Try.results15] | (first | apply EvG_ndec | apply EvC_ndec | apply EvG_dec | apply EvC_dec | apply EvC_nbool | apply EvC_bool | apply EvG_nbool | apply EvG_bool) <;> intro _
                  refine ih (W.length - (j + 1)) _ _ _ (by omega) ⟨j + 1, by omega, rfl, ?_⟩
                  rw [hci]
                  clear ih
                  simp (config := { maxSteps := 2000000 }) (disch := omega) only [go_sem, *]
                  exact ⟨WfH.set' (by omega) (q1.set (by omega) (by omega)), by omega, Kept.set' w3 (by omega) (Kept.set' w3 (by omega) q3)⟩
          · have e7 : ¬ (j : Int) < W.length := by omega
            obtain rfl : j = W.length := by omega
            rw [List.drop_length] at q4
            simp only [qWt] at q4
            subst q4
            have k9 := k03.trans q3
            clear ih
            repeat' first | simp (config := { maxSteps := 2000000 }) (disch := omega) only [go_sem, *, Try.results15] | (first | apply EvG_ndec | apply EvC_ndec | apply EvG_dec | apply EvC_dec | apply EvC_nbool | apply EvC_bool | apply EvG_nbool | apply EvG_bool) <;> intro _
end Go.Proofs.Ythhohpbghfbkbaa

set_option linter.unusedVariables false
set_option linter.unusedSimpArgs false
namespace Go.Proofs.Ythhohpbghfbkbaa
open Go.Am

/-- Sections in a new row, or none. -/
def NewSecs (N : Nat) (h : PT ABlk) (s : Value) (E : List Sec) : Prop := (s = .slice none 0 0 ∧ E = []) ∨ ∃ b, N ≤ b ∧ E ≠ [] ∧ s = .slice (some ⟨b, 0, none⟩) E.length (capInf + 4) ∧ h.get b = some (.cells (PT.ofList .leaf 0 (secCs E)) false)
theorem NewSecs.is {N : Nat} {h : PT ABlk} {s : Value} {E : List Sec} (H : NewSecs N h s E) : IsSecs h s E := by
  rcases H with H | ⟨b, _, _, e, q⟩
  · exact .inl H
  · exact .inr ⟨b, e, q⟩
theorem NewSecs.low {N M : Nat} {h : PT ABlk} {s : Value} {E : List Sec} (H : NewSecs N h s E) (k : M ≤ N) : NewSecs M h s E := by
  rcases H with H | ⟨b, h1, e, q⟩
  · exact .inl H
  · exact .inr ⟨b, by omega, e, q⟩
def RblkV (N : Nat) (kd k wait step : Int) (E : List Ev) (v : Value) (h : PT ABlk) : Prop := (qerr kd k wait step E ≠ 0 ∧ v = .tuple ⟨[.slice none 0 0, .int .i64 (qerr kd k wait step E)]⟩) ∨ (qerr kd k wait step E = 0 ∧ ∃ sl, v = .tuple ⟨[sl, .int .i64 0]⟩ ∧ NewSecs N h sl (blkB kd k wait step E))
theorem snoc_ne {S : List Sec} {x : Sec} : S ++ [x] ≠ [] := by simp
set_option maxRecDepth 100000 in
set_option maxHeartbeats 4000000 in
theorem refBlockersB {O : Over} (H : RqO O) (kd k wait step : Int) (E : List Ev) (s : Value) (hv : okVals E) (hn : E.length ≤ 100000) (h : PT ABlk) (N : Nat) (hW : WfH h N) (hs : IsEvs h s E) :
    EvB Try.prog O 17 [.int .u8 kd, .int .i64 k, .int .i64 wait, .int .i64 step, s] h N fun v h' n' => RblkV N kd k wait step E v h' ∧ Kept h h' := by
  unfold RblkV
  have o35 := H.o35
  have o37 := H.o37
  have o28 := H.o28
  refine EvB_run (N := 76) Try.func17 rfl rfl fun z hP hO hro hN hQ => ?_
  repeat' first | simp (config := { maxSteps := 2000000 }) (disch := omega) only [go_sem, *, Try.results17] | (first | apply EvG_ndec | apply EvC_ndec | apply EvG_dec | apply EvC_dec | apply EvC_nbool | apply EvC_bool | apply EvG_nbool | apply EvG_bool) <;> intro _ | (first | apply EvH_ndec | apply EvH_dec | apply EvH_nbool | apply EvH_bool) <;> intro _ | refine EvK_draw (id := 12) (L := [(0, 1), (0, 2), (1, 2), (0, 3), (1, 3), (0, 4), (1, 4), (2, 4), (3, 4), (0, 5), (1, 5), (2, 5), (3, 5), (4, 5), (0, 6), (1, 6), (2, 6), (3, 6), (0, 7), (1, 7), (2, 7), (3, 7), (0, 8), (1, 8), (2, 8), (3, 8)]) (by kernel_rfl) (by kernel_rfl) ?_
  refine EvQ_call ?_ ?_ (by rw [hP, hO]; exact (refCheckQ H.toStO kd k wait step E _ hn _ _ hW hs).wf hW) ?_
  · simp (config := { maxSteps := 2000000 }) (disch := omega) only [go_sem, *]
  · simp (config := { maxSteps := 2000000 }) (disch := omega) only [go_sem, *]
  rintro v h2 n2 ⟨⟨hf, k2⟩, hn2, w2⟩
  rcases hf with ⟨hq, rfl⟩ | ⟨hq, sl, wl, rfl, hI, hJ⟩
  · repeat' first | simp (config := { maxSteps := 2000000 }) (disch := omega) only [go_sem, *, Try.results17] | (first | apply EvG_ndec | apply EvC_ndec | apply EvG_dec | apply EvC_dec | apply EvC_nbool | apply EvC_bool | apply EvG_nbool | apply EvG_bool) <;> intro _ | (first | apply EvH_ndec | apply EvH_dec | apply EvH_nbool | apply EvH_bool) <;> intro _ | refine EvK_draw (id := 12) (L := [(0, 1), (0, 2), (1, 2), (0, 3), (1, 3), (0, 4), (1, 4), (2, 4), (3, 4), (0, 5), (1, 5), (2, 5), (3, 5), (4, 5), (0, 6), (1, 6), (2, 6), (3, 6), (0, 7), (1, 7), (2, 7), (3, 7), (0, 8), (1, 8), (2, 8), (3, 8)]) (by kernel_rfl) (by kernel_rfl) ?_
  · rw [hq] at hQ
    obtain ⟨hvl, hc, wn, hwl, rfl, hst⟩ := qerr_zero hq
    obtain ⟨kn, rfl⟩ := vld_nat hvl
    obtain ⟨sv, hsv, hsb⟩ := wait_nat hv (List.getElem_mem hwl)
    have hfr : 0 ≤ (refS 3 E)[wn].2.2.1 := refS_from (p := fun v => 0 ≤ v) (fun x hx => runs_nonneg E none T0 hc x hx) _ (List.getElem_mem hwl)
    rw [blkB_at hwl] at hQ
    have hA : ∀ x ∈ opn step (refS 1 E), ∃ v : Nat, x.2.1 = v ∧ v < 64 := opn_val (p := fun y => ∃ v : Nat, y = v ∧ v < 64) fun x hx => sec_nat hc hv hx
    obtain ⟨wa, wc, rfl, hrw⟩ := hJ.len
    clear hI hJ hv
    have hSl := refS_length 1 E
    generalize hWW : refS 3 E = W at *
    obtain ⟨wb, rfl, hwb⟩ := hrw wn hwl
    have hro4 := secCs_row hwl
    have hpl := secCs_length W
    obtain ⟨⟨x1, x2, x3, x4⟩, hx⟩ : ∃ x, W[wn] = x := ⟨_, rfl⟩
    rw [hx] at hro4 hQ hsv hst hfr
    simp only [secC] at hro4 hsv hst hfr
    subst hsv
    have hw' : ¬ (wn : Int) < 0 := by omega
    have hw3 : (wn : Int) < (W.length : Int) := by omega
    have hwbN := w2.lt hwb
    clear hx hrw
    by_cases hd : x4 < 0 ∨ step < x4
    · rw [blk_in hd] at hQ
      have hst2 : ¬ step < -1 := by omega
      have hd3 : x4 < 0 ∨ (0 ≤ x4 ∧ ¬ x4 ≤ step) := by omega
      clear hst hfr hd
      rcases hd3 with hd | ⟨hd, hd3⟩
      · have hd0 : ¬ 0 ≤ x4 := by omega
        repeat' first | simp (config := { maxSteps := 2000000 }) (disch := omega) only [go_sem, *, Try.results17] | (first | apply EvG_ndec | apply EvC_ndec | apply EvG_dec | apply EvC_dec | apply EvC_nbool | apply EvC_bool | apply EvG_nbool | apply EvG_bool) <;> intro _ | (first | apply EvH_ndec | apply EvH_dec | apply EvH_nbool | apply EvH_bool) <;> intro _ | refine EvK_draw (id := 12) (L := [(0, 1), (0, 2), (1, 2), (0, 3), (1, 3), (0, 4), (1, 4), (2, 4), (3, 4), (0, 5), (1, 5), (2, 5), (3, 5), (4, 5), (0, 6), (1, 6), (2, 6), (3, 6), (0, 7), (1, 7), (2, 7), (3, 7), (0, 8), (1, 8), (2, 8), (3, 8)]) (by kernel_rfl) (by kernel_rfl) ?_
        generalize hh3 : PT.set (PT.set h2 n2 _) n2 _ = h3
        have e2 : h3.get n2 = some (.cells (PT.ofList .leaf 0 [.int .i64 x1, .int .u64 sv, .int .i64 x3, .int .i64 x4]) false) := by rw [← hh3]; exact heap_same
        have k3 : Kept h2 h3 := by rw [← hh3]; exact Kept.set' w2 (by omega) (w2.kept (Nat.le_refl _))
        have w3 : WfH h3 (n2 + 1) := by rw [← hh3]; exact WfH.set' (by omega) (w2.set (by omega) (by omega))
        clear hh3
        have k03 := k2.trans k3
        refine EvQ_call ?_ ?_ (by rw [hP, hO]; exact (refOpenB H.toEvO E _ step hn _ _ w3 (hs.keep k03)).wf w3) ?_
        · simp (config := { maxSteps := 2000000 }) (disch := omega) only [go_sem, *]
        · simp (config := { maxSteps := 2000000 }) (disch := omega) only [go_sem, *]
        rintro v h5 n5 ⟨⟨ho, k4⟩, hn4, w5⟩
        unfold OpenV at ho
        rcases ho with ⟨hc', -⟩ | ⟨-, hlt, -⟩ | ⟨-, -, ol, rfl, hO4⟩
        · rw [hc] at hc'; cases hc'
        · exact absurd hlt hst2
        obtain ⟨oa, oc, rfl, hrow'⟩ := hO4.len
        have hSo : (opn step (refS 1 E)).length ≤ 100000 := by
          have h1 := List.length_filter_le (opnP step) (refS 1 E)
          unfold opn
          rw [List.length_map]
          omega
        generalize opn step (refS 1 E) = A at *
        have f2 := k4 _ _ e2
        have k05 := k03.trans k4
        have hNn : N ≤ n5 := by omega
        have hn5 : n2 + 1 ≤ n5 := hn4
        clear hs k2 e2 k3 k03 k4 w3 hwb hO4 hq hc hSl hn w2 hst2 hwbN hro4 hpl hw3 hw' hwl hn2 hn4
        obtain ⟨F, hF⟩ : ∃ q, A.filter (con kd kn (x1, sv, x3, x4)) = q := ⟨_, rfl⟩
        rw [hF] at hQ
        repeat' first | simp (config := { maxSteps := 2000000 }) (disch := omega) only [go_sem, *, Try.results17] | (first | apply EvG_ndec | apply EvC_ndec | apply EvG_dec | apply EvC_dec | apply EvC_nbool | apply EvC_bool | apply EvG_nbool | apply EvG_bool) <;> intro _ | (first | apply EvH_ndec | apply EvH_dec | apply EvH_nbool | apply EvH_bool) <;> intro _ | refine EvK_draw (id := 12) (L := [(0, 1), (0, 2), (1, 2), (0, 3), (1, 3), (0, 4), (1, 4), (2, 4), (3, 4), (0, 5), (1, 5), (2, 5), (3, 5), (4, 5), (0, 6), (1, 6), (2, 6), (3, 6), (0, 7), (1, 7), (2, 7), (3, 7), (0, 8), (1, 8), (2, 8), (3, 8)]) (by kernel_rfl) (by kernel_rfl) ?_
        refine ind_loop (fun t m h' n' => ∃ (i : Nat) (ov : Value) (S : List Sec), i ≤ A.length ∧ t = A.length - i ∧ m.n = 76 ∧ m.dfs = [] ∧ m.get 0 = .int .u8 kd ∧ m.get 1 = .int .i64 kn ∧ m.get 15 = .pointer (some ⟨n2, 0, none⟩) ∧ m.get 16 = .slice oa A.length oc ∧ m.get 18 = ov ∧
          m.get 19 = .int .i64 i ∧ WfH h' n' ∧ n5 ≤ n' ∧ Kept h5 h' ∧ NewSecs n5 h' ov S ∧ S.length ≤ i ∧ S ++ (A.drop i).filter (con kd kn (x1, sv, x3, x4)) = F) A.length ?_ ?_
        · refine ⟨0, .slice none 0 0, [], by omega, by omega, ?_⟩
          have how : NewSecs n5 h5 (.slice none 0 0) [] := .inl ⟨rfl, rfl⟩
          simp (config := { maxSteps := 2000000 }) (disch := omega) only [go_sem, *]
          exact ⟨Nat.le_refl _, Kept.refl _⟩
        · clear hF
          rintro t m h' n' ih ⟨i, ov, S, hi, rfl, m1, m2, m3, m4, m5, m6, m7, m8, q1, q2, q3, q4, q5, q6⟩
          rcases Nat.lt_or_ge i A.length with hlt | hge
          · have e7 : (i : Int) < A.length := by omega
            obtain ⟨b, rfl, hb0⟩ := hrow' i hlt
            rw [filt_at hlt] at q6
            have hb := q3 _ _ hb0
            have hbN := q1.lt hb
            have hb5 := w5.lt hb0
            have he2 := q3 _ _ f2
            have he2N : n2 < n' := by omega
            have hplA : (secCs A).length = A.length * 4 := secCs_length A
            have hro4 := secCs_row hlt
            have hc1 := secCs_cell (j := 1) hlt (by omega)
            have hci : ((i + 1 : Nat) : Int) = (i : Int) + 1 := by omega
            obtain ⟨v, hv, hvb⟩ := hA A[i] (List.getElem_mem hlt)
            obtain ⟨⟨th, val, fr, to⟩, hx⟩ : ∃ x, A[i] = x := ⟨_, rfl⟩
            rw [hx] at hro4 q6 hv hc1
            simp only [secC, List.getElem?_cons_zero, List.getElem?_cons_succ] at hro4 hv hc1
            subst hv
            rw [con_nat] at q6
            have hS4 : (secCs S).length = S.length * 4 := secCs_length S
            have hcs := conS_eq (s := sv) (v := v) hvl hsb hvb
            clear hrow' hb0 hx hA hQ k05 f2
            cases hcv : conV kd kn sv v with
            | false =>
              rw [hcv, if_neg (by simp)] at q6
              rw [hcv] at hcs
              clear hcv
              repeat' first | simp (config := { maxSteps := 2000000 }) (disch := omega) only [go_sem, *, Try.results17] | (first | apply EvG_ndec | apply EvC_ndec | apply EvG_dec | apply EvC_dec | apply EvC_nbool | apply EvC_bool | apply EvG_nbool | apply EvG_bool) <;> intro _ | (first | apply EvH_ndec | apply EvH_dec | apply EvH_nbool | apply EvH_bool) <;> intro _ | refine EvK_draw (id := 12) (L := [(0, 1), (0, 2), (1, 2), (0, 3), (1, 3), (0, 4), (1, 4), (2, 4), (3, 4), (0, 5), (1, 5), (2, 5), (3, 5), (4, 5), (0, 6), (1, 6), (2, 6), (3, 6), (0, 7), (1, 7), (2, 7), (3, 7), (0, 8), (1, 8), (2, 8), (3, 8)]) (by kernel_rfl) (by kernel_rfl) ?_
              refine ih (A.length - (i + 1)) _ _ _ (by omega) ⟨i + 1, ov, S, by omega, rfl, ?_⟩
              rw [hci]
              clear ih
              simp (config := { maxSteps := 2000000 }) (disch := omega) only [go_sem, *]
              exact Nat.le_succ_of_le q5
            | true =>
              rw [hcv, if_pos rfl] at q6
              rw [hcv] at hcs
              have hlen : (S ++ [(th, (v : Int), fr, to)]).length = S.length + 1 := by simp
              have q7 : (S ++ [(th, (v : Int), fr, to)]) ++ (A.drop (i + 1)).filter (con kd kn (x1, sv, x3, x4)) = F := by rw [List.append_assoc]; exact q6
              clear q6 hcv
              rcases q4 with ⟨rfl, rfl⟩ | ⟨g, hgN, hne, rfl, hgr⟩
              · repeat' first | simp (config := { maxSteps := 2000000 }) (disch := omega) only [go_sem, *, Try.results17] | (first | apply EvG_ndec | apply EvC_ndec | apply EvG_dec | apply EvC_dec | apply EvC_nbool | apply EvC_bool | apply EvG_nbool | apply EvG_bool) <;> intro _ | (first | apply EvH_ndec | apply EvH_dec | apply EvH_nbool | apply EvH_bool) <;> intro _ | refine EvK_draw (id := 12) (L := [(0, 1), (0, 2), (1, 2), (0, 3), (1, 3), (0, 4), (1, 4), (2, 4), (3, 4), (0, 5), (1, 5), (2, 5), (3, 5), (4, 5), (0, 6), (1, 6), (2, 6), (3, 6), (0, 7), (1, 7), (2, 7), (3, 7), (0, 8), (1, 8), (2, 8), (3, 8)]) (by kernel_rfl) (by kernel_rfl) ?_
                refine ih (A.length - (i + 1)) _ _ _ (by omega) ⟨i + 1, .slice (some ⟨n' + 1, 0, none⟩) 1 (capInf + 4), [(th, (v : Int), fr, to)], by omega, rfl, ?_⟩
                rw [hci]
                clear ih
                simp (config := { maxSteps := 2000000 }) (disch := omega) only [go_sem, *]
                refine ⟨WfH.set' (by omega) (q1.set (by omega) (by omega)), by omega, Kept.set' w5 (by omega) (Kept.set' w5 (by omega) q3), .inr ⟨n' + 1, by omega, List.cons_ne_nil _ _, rfl, heap_same⟩, q7⟩
              · have hgn := q1.lt hgr
                have htk : (secCs S).take (S.length * 4) = secCs S := by rw [← hS4]; exact List.take_length
                have hbq : (S.length * 4).beq (S.length * 4) = true := Nat.beq_refl _
                have hble : (S.length + 1).ble 1048576 = true := Nat.ble_eq_true_of_le (by omega)
                have hsn : secCs S ++ [.int .i64 th, .int .u64 v, .int .i64 fr, .int .i64 to] = secCs (S ++ [(th, (v : Int), fr, to)]) := (secCs_snoc S (th, (v : Int), fr, to)).symm
                clear hne
                repeat' first | simp (config := { maxSteps := 2000000 }) (disch := omega) only [go_sem, *, Try.results17] | (first | apply EvG_ndec | apply EvC_ndec | apply EvG_dec | apply EvC_dec | apply EvC_nbool | apply EvC_bool | apply EvG_nbool | apply EvG_bool) <;> intro _ | (first | apply EvH_ndec | apply EvH_dec | apply EvH_nbool | apply EvH_bool) <;> intro _ | refine EvK_draw (id := 12) (L := [(0, 1), (0, 2), (1, 2), (0, 3), (1, 3), (0, 4), (1, 4), (2, 4), (3, 4), (0, 5), (1, 5), (2, 5), (3, 5), (4, 5), (0, 6), (1, 6), (2, 6), (3, 6), (0, 7), (1, 7), (2, 7), (3, 7), (0, 8), (1, 8), (2, 8), (3, 8)]) (by kernel_rfl) (by kernel_rfl) ?_
                refine ih (A.length - (i + 1)) _ _ _ (by omega) ⟨i + 1, .slice (some ⟨n' + 1, 0, none⟩) (S.length + 1) (capInf + 4), S ++ [(th, (v : Int), fr, to)], by omega, rfl, ?_⟩
                rw [hci]
                clear ih
                simp (config := { maxSteps := 2000000 }) (disch := omega) only [go_sem, *]
                refine ⟨WfH.set' (by omega) (WfH.set' (by omega) (q1.set (by omega) (by omega))), by omega, Kept.set' w5 (by omega) (Kept.set' w5 (by omega) (Kept.set' w5 (by omega) q3)), .inr ⟨n' + 1, by omega, snoc_ne, by rw [hlen], heap_same⟩⟩
          · have e7 : ¬ (i : Int) < A.length := by omega
            obtain rfl : i = A.length := by omega
            rw [List.drop_length] at q6
            have q7 : S = F := by rw [← q6]; simp
            subst q7
            have k9 := k05.trans q3
            clear ih hrow' hA q6
            repeat' first | simp (config := { maxSteps := 2000000 }) (disch := omega) only [go_sem, *, Try.results17] | (first | apply EvG_ndec | apply EvC_ndec | apply EvG_dec | apply EvC_dec | apply EvC_nbool | apply EvC_bool | apply EvG_nbool | apply EvG_bool) <;> intro _ | (first | apply EvH_ndec | apply EvH_dec | apply EvH_nbool | apply EvH_bool) <;> intro _ | refine EvK_draw (id := 12) (L := [(0, 1), (0, 2), (1, 2), (0, 3), (1, 3), (0, 4), (1, 4), (2, 4), (3, 4), (0, 5), (1, 5), (2, 5), (3, 5), (4, 5), (0, 6), (1, 6), (2, 6), (3, 6), (0, 7), (1, 7), (2, 7), (3, 7), (0, 8), (1, 8), (2, 8), (3, 8)]) (by kernel_rfl) (by kernel_rfl) ?_
            exact ⟨_, rfl, q4.low hNn⟩
      · repeat' first | simp (config := { maxSteps := 2000000 }) (disch := omega) only [go_sem, *, Try.results17] | (first | apply EvG_ndec | apply EvC_ndec | apply EvG_dec | apply EvC_dec | apply EvC_nbool | apply EvC_bool | apply EvG_nbool | apply EvG_bool) <;> intro _ | (first | apply EvH_ndec | apply EvH_dec | apply EvH_nbool | apply EvH_bool) <;> intro _ | refine EvK_draw (id := 12) (L := [(0, 1), (0, 2), (1, 2), (0, 3), (1, 3), (0, 4), (1, 4), (2, 4), (3, 4), (0, 5), (1, 5), (2, 5), (3, 5), (4, 5), (0, 6), (1, 6), (2, 6), (3, 6), (0, 7), (1, 7), (2, 7), (3, 7), (0, 8), (1, 8), (2, 8), (3, 8)]) (by kernel_rfl) (by kernel_rfl) ?_
        generalize hh3 : PT.set (PT.set h2 n2 _) n2 _ = h3
        have e2 : h3.get n2 = some (.cells (PT.ofList .leaf 0 [.int .i64 x1, .int .u64 sv, .int .i64 x3, .int .i64 x4]) false) := by rw [← hh3]; exact heap_same
        have k3 : Kept h2 h3 := by rw [← hh3]; exact Kept.set' w2 (by omega) (w2.kept (Nat.le_refl _))
        have w3 : WfH h3 (n2 + 1) := by rw [← hh3]; exact WfH.set' (by omega) (w2.set (by omega) (by omega))
        clear hh3
        have k03 := k2.trans k3
        refine EvQ_call ?_ ?_ (by rw [hP, hO]; exact (refOpenB H.toEvO E _ step hn _ _ w3 (hs.keep k03)).wf w3) ?_
        · simp (config := { maxSteps := 2000000 }) (disch := omega) only [go_sem, *]
        · simp (config := { maxSteps := 2000000 }) (disch := omega) only [go_sem, *]
        rintro v h5 n5 ⟨⟨ho, k4⟩, hn4, w5⟩
        unfold OpenV at ho
        rcases ho with ⟨hc', -⟩ | ⟨-, hlt, -⟩ | ⟨-, -, ol, rfl, hO4⟩
        · rw [hc] at hc'; cases hc'
        · exact absurd hlt hst2
        obtain ⟨oa, oc, rfl, hrow'⟩ := hO4.len
        have hSo : (opn step (refS 1 E)).length ≤ 100000 := by
          have h1 := List.length_filter_le (opnP step) (refS 1 E)
          unfold opn
          rw [List.length_map]
          omega
        generalize opn step (refS 1 E) = A at *
        have f2 := k4 _ _ e2
        have k05 := k03.trans k4
        have hNn : N ≤ n5 := by omega
        have hn5 : n2 + 1 ≤ n5 := hn4
        clear hs k2 e2 k3 k03 k4 w3 hwb hO4 hq hc hSl hn w2 hst2 hwbN hro4 hpl hw3 hw' hwl hn2 hn4
        obtain ⟨F, hF⟩ : ∃ q, A.filter (con kd kn (x1, sv, x3, x4)) = q := ⟨_, rfl⟩
        rw [hF] at hQ
        repeat' first | simp (config := { maxSteps := 2000000 }) (disch := omega) only [go_sem, *, Try.results17] | (first | apply EvG_ndec | apply EvC_ndec | apply EvG_dec | apply EvC_dec | apply EvC_nbool | apply EvC_bool | apply EvG_nbool | apply EvG_bool) <;> intro _ | (first | apply EvH_ndec | apply EvH_dec | apply EvH_nbool | apply EvH_bool) <;> intro _ | refine EvK_draw (id := 12) (L := [(0, 1), (0, 2), (1, 2), (0, 3), (1, 3), (0, 4), (1, 4), (2, 4), (3, 4), (0, 5), (1, 5), (2, 5), (3, 5), (4, 5), (0, 6), (1, 6), (2, 6), (3, 6), (0, 7), (1, 7), (2, 7), (3, 7), (0, 8), (1, 8), (2, 8), (3, 8)]) (by kernel_rfl) (by kernel_rfl) ?_
        refine ind_loop (fun t m h' n' => ∃ (i : Nat) (ov : Value) (S : List Sec), i ≤ A.length ∧ t = A.length - i ∧ m.n = 76 ∧ m.dfs = [] ∧ m.get 0 = .int .u8 kd ∧ m.get 1 = .int .i64 kn ∧ m.get 15 = .pointer (some ⟨n2, 0, none⟩) ∧ m.get 16 = .slice oa A.length oc ∧ m.get 18 = ov ∧
          m.get 19 = .int .i64 i ∧ WfH h' n' ∧ n5 ≤ n' ∧ Kept h5 h' ∧ NewSecs n5 h' ov S ∧ S.length ≤ i ∧ S ++ (A.drop i).filter (con kd kn (x1, sv, x3, x4)) = F) A.length ?_ ?_
        · refine ⟨0, .slice none 0 0, [], by omega, by omega, ?_⟩
          have how : NewSecs n5 h5 (.slice none 0 0) [] := .inl ⟨rfl, rfl⟩
          simp (config := { maxSteps := 2000000 }) (disch := omega) only [go_sem, *]
          exact ⟨Nat.le_refl _, Kept.refl _⟩
        · clear hF
          rintro t m h' n' ih ⟨i, ov, S, hi, rfl, m1, m2, m3, m4, m5, m6, m7, m8, q1, q2, q3, q4, q5, q6⟩
          rcases Nat.lt_or_ge i A.length with hlt | hge
          · have e7 : (i : Int) < A.length := by omega
            obtain ⟨b, rfl, hb0⟩ := hrow' i hlt
            rw [filt_at hlt] at q6
            have hb := q3 _ _ hb0
            have hbN := q1.lt hb
            have hb5 := w5.lt hb0
            have he2 := q3 _ _ f2
            have he2N : n2 < n' := by omega
            have hplA : (secCs A).length = A.length * 4 := secCs_length A
            have hro4 := secCs_row hlt
            have hc1 := secCs_cell (j := 1) hlt (by omega)
            have hci : ((i + 1 : Nat) : Int) = (i : Int) + 1 := by omega
            obtain ⟨v, hv, hvb⟩ := hA A[i] (List.getElem_mem hlt)
            obtain ⟨⟨th, val, fr, to⟩, hx⟩ : ∃ x, A[i] = x := ⟨_, rfl⟩
            rw [hx] at hro4 q6 hv hc1
            simp only [secC, List.getElem?_cons_zero, List.getElem?_cons_succ] at hro4 hv hc1
            subst hv
            rw [con_nat] at q6
            have hS4 : (secCs S).length = S.length * 4 := secCs_length S
            have hcs := conS_eq (s := sv) (v := v) hvl hsb hvb
            clear hrow' hb0 hx hA hQ k05 f2
            cases hcv : conV kd kn sv v with
            | false =>
              rw [hcv, if_neg (by simp)] at q6
              rw [hcv] at hcs
              clear hcv
              repeat' first | simp (config := { maxSteps := 2000000 }) (disch := omega) only [go_sem, *, Try.results17] | (first | apply EvG_ndec | apply EvC_ndec | apply EvG_dec | apply EvC_dec | apply EvC_nbool | apply EvC_bool | apply EvG_nbool | apply EvG_bool) <;> intro _ | (first | apply EvH_ndec | apply EvH_dec | apply EvH_nbool | apply EvH_bool) <;> intro _ | refine EvK_draw (id := 12) (L := [(0, 1), (0, 2), (1, 2), (0, 3), (1, 3), (0, 4), (1, 4), (2, 4), (3, 4), (0, 5), (1, 5), (2, 5), (3, 5), (4, 5), (0, 6), (1, 6), (2, 6), (3, 6), (0, 7), (1, 7), (2, 7), (3, 7), (0, 8), (1, 8), (2, 8), (3, 8)]) (by kernel_rfl) (by kernel_rfl) ?_
              refine ih (A.length - (i + 1)) _ _ _ (by omega) ⟨i + 1, ov, S, by omega, rfl, ?_⟩
              rw [hci]
              clear ih
              simp (config := { maxSteps := 2000000 }) (disch := omega) only [go_sem, *]
              exact Nat.le_succ_of_le q5
            | true =>
              rw [hcv, if_pos rfl] at q6
              rw [hcv] at hcs
              have hlen : (S ++ [(th, (v : Int), fr, to)]).length = S.length + 1 := by simp
              have q7 : (S ++ [(th, (v : Int), fr, to)]) ++ (A.drop (i + 1)).filter (con kd kn (x1, sv, x3, x4)) = F := by rw [List.append_assoc]; exact q6
              clear q6 hcv
              rcases q4 with ⟨rfl, rfl⟩ | ⟨g, hgN, hne, rfl, hgr⟩
              · repeat' first | simp (config := { maxSteps := 2000000 }) (disch := omega) only [go_sem, *, Try.results17] | (first | apply EvG_ndec | apply EvC_ndec | apply EvG_dec | apply EvC_dec | apply EvC_nbool | apply EvC_bool | apply EvG_nbool | apply EvG_bool) <;> intro _ | (first | apply EvH_ndec | apply EvH_dec | apply EvH_nbool | apply EvH_bool) <;> intro _ | refine EvK_draw (id := 12) (L := [(0, 1), (0, 2), (1, 2), (0, 3), (1, 3), (0, 4), (1, 4), (2, 4), (3, 4), (0, 5), (1, 5), (2, 5), (3, 5), (4, 5), (0, 6), (1, 6), (2, 6), (3, 6), (0, 7), (1, 7), (2, 7), (3, 7), (0, 8), (1, 8), (2, 8), (3, 8)]) (by kernel_rfl) (by kernel_rfl) ?_
                refine ih (A.length - (i + 1)) _ _ _ (by omega) ⟨i + 1, .slice (some ⟨n' + 1, 0, none⟩) 1 (capInf + 4), [(th, (v : Int), fr, to)], by omega, rfl, ?_⟩
                rw [hci]
                clear ih
                simp (config := { maxSteps := 2000000 }) (disch := omega) only [go_sem, *]
                refine ⟨WfH.set' (by omega) (q1.set (by omega) (by omega)), by omega, Kept.set' w5 (by omega) (Kept.set' w5 (by omega) q3), .inr ⟨n' + 1, by omega, List.cons_ne_nil _ _, rfl, heap_same⟩, q7⟩
              · have hgn := q1.lt hgr
                have htk : (secCs S).take (S.length * 4) = secCs S := by rw [← hS4]; exact List.take_length
                have hbq : (S.length * 4).beq (S.length * 4) = true := Nat.beq_refl _
                have hble : (S.length + 1).ble 1048576 = true := Nat.ble_eq_true_of_le (by omega)
                have hsn : secCs S ++ [.int .i64 th, .int .u64 v, .int .i64 fr, .int .i64 to] = secCs (S ++ [(th, (v : Int), fr, to)]) := (secCs_snoc S (th, (v : Int), fr, to)).symm
                clear hne
                repeat' first | simp (config := { maxSteps := 2000000 }) (disch := omega) only [go_sem, *, Try.results17] | (first | apply EvG_ndec | apply EvC_ndec | apply EvG_dec | apply EvC_dec | apply EvC_nbool | apply EvC_bool | apply EvG_nbool | apply EvG_bool) <;> intro _ | (first | apply EvH_ndec | apply EvH_dec | apply EvH_nbool | apply EvH_bool) <;> intro _ | refine EvK_draw (id := 12) (L := [(0, 1), (0, 2), (1, 2), (0, 3), (1, 3), (0, 4), (1, 4), (2, 4), (3, 4), (0, 5), (1, 5), (2, 5), (3, 5), (4, 5), (0, 6), (1, 6), (2, 6), (3, 6), (0, 7), (1, 7), (2, 7), (3, 7), (0, 8), (1, 8), (2, 8), (3, 8)]) (by kernel_rfl) (by kernel_rfl) ?_
                refine ih (A.length - (i + 1)) _ _ _ (by omega) ⟨i + 1, .slice (some ⟨n' + 1, 0, none⟩) (S.length + 1) (capInf + 4), S ++ [(th, (v : Int), fr, to)], by omega, rfl, ?_⟩
                rw [hci]
                clear ih
                simp (config := { maxSteps := 2000000 }) (disch := omega) only [go_sem, *]
                refine ⟨WfH.set' (by omega) (WfH.set' (by omega) (q1.set (by omega) (by omega))), by omega, Kept.set' w5 (by omega) (Kept.set' w5 (by omega) (Kept.set' w5 (by omega) q3)), .inr ⟨n' + 1, by omega, snoc_ne, by rw [hlen], heap_same⟩⟩
          · have e7 : ¬ (i : Int) < A.length := by omega
            obtain rfl : i = A.length := by omega
            rw [List.drop_length] at q6
            have q7 : S = F := by rw [← q6]; simp
            subst q7
            have k9 := k05.trans q3
            clear ih hrow' hA q6
            repeat' first | simp (config := { maxSteps := 2000000 }) (disch := omega) only [go_sem, *, Try.results17] | (first | apply EvG_ndec | apply EvC_ndec | apply EvG_dec | apply EvC_dec | apply EvC_nbool | apply EvC_bool | apply EvG_nbool | apply EvG_bool) <;> intro _ | (first | apply EvH_ndec | apply EvH_dec | apply EvH_nbool | apply EvH_bool) <;> intro _ | refine EvK_draw (id := 12) (L := [(0, 1), (0, 2), (1, 2), (0, 3), (1, 3), (0, 4), (1, 4), (2, 4), (3, 4), (0, 5), (1, 5), (2, 5), (3, 5), (4, 5), (0, 6), (1, 6), (2, 6), (3, 6), (0, 7), (1, 7), (2, 7), (3, 7), (0, 8), (1, 8), (2, 8), (3, 8)]) (by kernel_rfl) (by kernel_rfl) ?_
            exact ⟨_, rfl, q4.low hNn⟩
    · have hd1 : ¬ x4 < 0 := by omega
      have hd3 : 0 ≤ x4 := by omega
      have hd2 : x4 ≤ step := by omega
      rw [blk_out hd1 hd2] at hQ
      clear hd
      repeat' first | simp (config := { maxSteps := 2000000 }) (disch := omega) only [go_sem, *, Try.results17] | (first | apply EvG_ndec | apply EvC_ndec | apply EvG_dec | apply EvC_dec | apply EvC_nbool | apply EvC_bool | apply EvG_nbool | apply EvG_bool) <;> intro _ | (first | apply EvH_ndec | apply EvH_dec | apply EvH_nbool | apply EvH_bool) <;> intro _ | refine EvK_draw (id := 12) (L := [(0, 1), (0, 2), (1, 2), (0, 3), (1, 3), (0, 4), (1, 4), (2, 4), (3, 4), (0, 5), (1, 5), (2, 5), (3, 5), (4, 5), (0, 6), (1, 6), (2, 6), (3, 6), (0, 7), (1, 7), (2, 7), (3, 7), (0, 8), (1, 8), (2, 8), (3, 8)]) (by kernel_rfl) (by kernel_rfl) ?_
      exact ⟨⟨_, rfl, .inl ⟨rfl, rfl⟩⟩, Kept.set' hW (by omega) (Kept.set' hW (by omega) k2)⟩
end Go.Proofs.Ythhohpbghfbkbaa

set_option linter.unusedVariables false
set_option linter.unusedSimpArgs false
namespace Go.Proofs.Ythhohpbghfbkbaa
open Go.Am

theorem evCs_int {E : List Ev} {u : Value} (h : u ∈ evCs E) : ∃ k n, u = .int k n := by
  obtain ⟨x, _, hx⟩ := List.mem_flatMap.1 h
  simp only [evC, List.mem_cons, List.not_mem_nil, or_false] at hx
  rcases hx with rfl | rfl | rfl | rfl <;> exact ⟨_, _, rfl⟩
theorem secCs_int {A : List Sec} {u : Value} (h : u ∈ secCs A) : ∃ k n, u = .int k n := by
  obtain ⟨x, _, hx⟩ := List.mem_flatMap.1 h
  simp only [secC, List.mem_cons, List.not_mem_nil, or_false] at hx
  rcases hx with rfl | rfl | rfl | rfl <;> exact ⟨_, _, rfl⟩
noncomputable def rdEv1 (n : Nat) (ok : Bool → Prop) (L : List Value) (ro : Bool) : AP (List Ev) := AP.opt "" (decEvs L) fun E => cond (@decide (E.length = n ∧ ok ro) (Classical.propDecidable _)) (.pure E) (.fail "")
theorem rdEv1_reads (n : Nat) (ok : Bool → Prop) (L : List Value) (ro : Bool) : Reads (rdEv1 n ok L ro) := .opt fun _ => .cond (.pure _) (.fail _)
theorem rdEv1_look {n : Nat} {ok : Bool → Prop} {L : List Value} {ro : Bool} {h : PT ABlk} {E : List Ev} (e : (rdEv1 n ok L ro).look h = some E) : L = evCs E ∧ E.length = n ∧ ok ro := by
  unfold rdEv1 at e
  cases hd : decEvs L with
  | none => rw [hd] at e; simp [AP.opt, AP.look] at e
  | some F =>
    rw [hd] at e
    obtain ⟨h1, h2⟩ := look_cond (p := AP.pure F) (w := "") (b := @decide (F.length = n ∧ ok ro) (Classical.propDecidable _)) e
    rw [look_pure] at h2
    obtain rfl := Option.some.inj h2
    exact ⟨decEvs_eq _ _ hd, @of_decide_eq_true _ (Classical.propDecidable _) h1⟩
theorem rdEv1_eq {n : Nat} {ok : Bool → Prop} {ro : Bool} {E : List Ev} (h1 : E.length = n) (h2 : ok ro) : rdEv1 n ok (evCs E) ro = .pure E := by
  unfold rdEv1
  rw [decEvs_ev]
  show cond _ _ _ = _
  rw [@decide_eq_true _ (Classical.propDecidable _) ⟨h1, h2⟩]
  rfl
noncomputable def rdEv2 (off n cap : Nat) (L : List Value) (_ : Bool) : AP (List Ev) := AP.opt "" (decEvs ((L.drop off).take (n * 4))) fun E => cond (decide (E.length = n ∧ n ≤ cap ∧ cap < 4611686018427387904 ∧ off + n * 4 ≤ L.length)) (.pure E) (.fail "")
theorem rdEv2_reads (off n cap : Nat) (L : List Value) (ro : Bool) : Reads (rdEv2 off n cap L ro) := .opt fun _ => .cond (.pure _) (.fail _)
theorem rdEv2_look {off n cap : Nat} {L : List Value} {ro : Bool} {h : PT ABlk} {E : List Ev} (e : (rdEv2 off n cap L ro).look h = some E) : (L.drop off).take (n * 4) = evCs E ∧ E.length = n ∧ n ≤ cap ∧ cap < 4611686018427387904 ∧ off + n * 4 ≤ L.length := by
  unfold rdEv2 at e
  cases hd : decEvs ((L.drop off).take (n * 4)) with
  | none => rw [hd] at e; simp [AP.opt, AP.look] at e
  | some F =>
    rw [hd] at e
    obtain ⟨h1, h2⟩ := look_cond (p := AP.pure F) (w := "") (b := decide (F.length = n ∧ n ≤ cap ∧ cap < 4611686018427387904 ∧ off + n * 4 ≤ L.length)) e
    rw [look_pure] at h2
    obtain rfl := Option.some.inj h2
    exact ⟨decEvs_eq _ _ hd, of_decide_eq_true h1⟩
theorem rdEv2_eq {off n cap : Nat} {L : List Value} {ro : Bool} {E : List Ev} (h0 : (L.drop off).take (n * 4) = evCs E) (h1 : E.length = n) (h2 : n ≤ cap) (h3 : cap < 4611686018427387904) (h4 : off + n * 4 ≤ L.length) : rdEv2 off n cap L ro = .pure E := by
  unfold rdEv2
  rw [h0, decEvs_ev]
  show cond _ _ _ = _
  rw [decide_eq_true ⟨h1, h2, h3, h4⟩]
  rfl
/-- Read events. -/
noncomputable def rdEvs : Value → AP (List Ev)
  | .slice none 0 0 => .pure []
  | .slice (some ⟨b, 0, none⟩) n _ => .row b (rdEv1 n fun ro => ro = false)
  | _ => .fail ""
/-- Read the events of an argument. -/
noncomputable def rdArg : Value → AP (List Ev)
  | .slice none 0 0 => .pure []
  | .slice (some ⟨b, off, none⟩) n cap => .row b (rdEv2 off n cap)
  | _ => .fail ""
theorem rdEvs_reads (s : Value) : Reads (rdEvs s) := by
  unfold rdEvs
  split
  · exact .pure _
  · exact row_reads fun L ro => rdEv1_reads _ _ L ro
  · exact .fail _
theorem rdArg_reads (s : Value) : Reads (rdArg s) := by
  unfold rdArg
  split
  · exact .pure _
  · exact row_reads fun L ro => rdEv2_reads _ _ _ L ro
  · exact .fail _
theorem rdEvs_look {s : Value} {h : PT ABlk} {E : List Ev} (e : (rdEvs s).look h = some E) : IsEvs h s E := by
  unfold rdEvs at e
  split at e
  · rw [look_pure] at e
    obtain rfl := Option.some.inj e
    exact .inl ⟨rfl, rfl⟩
  · obtain ⟨L, ro, h1, h2⟩ := look_row e
    obtain ⟨rfl, rfl, rfl⟩ := rdEv1_look h2
    exact .inr ⟨_, _, rfl, h1⟩
  · simp [AP.look] at e
theorem rdArg_look {s : Value} {h : PT ABlk} {E : List Ev} (e : (rdArg s).look h = some E) : ArgEvs h s E := by
  unfold rdArg at e
  split at e
  · rw [look_pure] at e
    obtain rfl := Option.some.inj e
    exact .inl ⟨rfl, rfl⟩
  · obtain ⟨L, ro, h1, h2⟩ := look_row e
    obtain ⟨h3, rfl, h4, h5, h6⟩ := rdEv2_look h2
    exact .inr ⟨_, _, _, _, _, rfl, h4, h5, h6, h3, h1⟩
  · simp [AP.look] at e
theorem IsEvs.look {s : Value} {h : PT ABlk} {E : List Ev} (H : IsEvs h s E) : (rdEvs s).look h = some E := by
  rcases H with ⟨rfl, rfl⟩ | ⟨b, cap, rfl, q⟩
  · rfl
  · show (AP.row b _).look h = _
    rw [row_eq, look_get, q]
    simp only [rowB_row, rdEv1_eq (ok := fun ro => ro = false) rfl rfl, look_pure]
theorem ArgEvs.look {s : Value} {h : PT ABlk} {E : List Ev} (H : ArgEvs h s E) : (rdArg s).look h = some E := by
  rcases H with ⟨rfl, rfl⟩ | ⟨b, off, cap, L, ro, rfl, q1, q2, q3, q4, q⟩
  · rfl
  · show (AP.row b _).look h = _
    rw [row_eq, look_get, q]
    simp only [rowB_row, rdEv2_eq q4 rfl q1 q2 q3, look_pure]
theorem run_bind_reads {α β : Type} {p : AP α} {f : α → AP β} {h : PT ABlk} {n : Nat} {v : β} {s' : HS} (hp : Reads p) (e : (p.bind f).run 0 (S0 h n) = .ok v s') : ∃ a, p.look h = some a ∧ (f a).run 0 (S0 h n) = .ok v s' := by
  rw [AP.run_bind] at e
  cases hr : p.run 0 (S0 h n) with
  | fail w => rw [hr] at e; simp [bnd] at e
  | ok a s1 =>
    rw [hr] at e
    obtain ⟨rfl, hl⟩ := hp.run hr
    exact ⟨a, hl, e⟩

/-! ### few -/
noncomputable def fewM : List Ev → AP Value
  | [] => .pure (.slice none 0 0)
  | x :: E => .newRow (evCs ((x :: E).take 80)) fun g => .pure (.slice (some ⟨g, 0, none⟩) ((x :: E).take 80).length (capInf + 4))
noncomputable def fewS : List Value → Option (AP Value)
  | [s] => some ((rdArg s).bind fewM)
  | _ => none
theorem ren_plain {h h2 : PT ABlk} {n N : Nat} {Old : Value → Prop} {OldId : Nat → Prop} {v : Value} (hp : Plain v) (hk : Kept h h2) : Ren h n n N Old OldId v h v h2 :=
  ⟨fun _ => N, fun i q1 q2 => by omega, fun i j q1 q2 q3 q4 _ => by omega, hp.ren, fun i B e => .inl ⟨e, hk i B e⟩⟩
theorem ren_new {h h2 : PT ABlk} {n N g : Nat} {Old : Value → Prop} {OldId : Nat → Prop} {L : List Value} {v v2 : Value} (hL : ∀ u ∈ L, ∃ k m, u = .int k m) (hg : N ≤ g) (hk : Kept h h2) (h2g : h2.get g = some (.cells (PT.ofList .leaf 0 L) false))
    (hv : IdR OldId n (n + 1) (fun _ => g) n g → VRen (IdR OldId n (n + 1) fun _ => g) Old v v2) : Ren h n (n + 1) N Old OldId v (h.set n (some (.cells (PT.ofList .leaf 0 L) false))) v2 h2 := by
  have hnew : IdR OldId n (n + 1) (fun _ => g) n g := .inr ⟨Nat.le_refl _, Nat.lt_succ_self _, rfl⟩
  refine ⟨fun _ => g, fun i q1 q2 => hg, fun i j q1 q2 q3 q4 _ => by omega, hv hnew, fun i B e => ?_⟩
  rw [PT.get_set] at e
  split at e
  · rename_i hi; subst hi
    obtain rfl := Option.some.inj e
    refine .inr ⟨_, ?_, .cells _ _ _ (VRens.refl _ fun u hu => ?_)⟩
    · rw [sg_new (by omega)]
      exact h2g
    · obtain ⟨k, m, rfl⟩ := hL u hu
      exact .int _ _
  · exact .inl ⟨e, hk _ _ e⟩
theorem fewF : SoundF Try.prog 13 fewS := by
  refine soundF (O := tabO []) (tab_sound .nil) orders ?_
  intro args m hm h n N Old OldId v h1 n1 hr hold hid hN
  unfold fewS at hm
  split at hm
  · rename_i s
    simp only [Option.some.injEq] at hm
    subst hm
    obtain ⟨E, hl, hr⟩ := run_bind_reads (rdArg_reads _) hr
    have hA := rdArg_look hl
    have hW : WfH h N := WfH.of_lt fun i B e => (hid i (hold.id i B e)).1
    refine (fewN (O := tabO []) rfl E s h N hW hA).mono ?_
    rintro v2 h2 n2 ⟨hnv, hk⟩
    cases E with
    | nil =>
      obtain ⟨hs, rfl⟩ := run_pure hr
      have e1 : h1 = h := congrArg HS.heap hs
      have e2 : n1 = n := congrArg HS.next hs
      subst e1 e2
      rcases hnv with ⟨rfl, _⟩ | ⟨g, _, hne, _⟩
      · exact ren_plain (.nilslice _ _) hk
      · simp at hne
    | cons x E =>
      replace hr := run_new hr
      obtain ⟨hs, rfl⟩ := run_pure hr
      have e1 : h1 = _ := congrArg HS.heap hs
      have e2 : n1 = _ := congrArg HS.next hs
      simp only [S0] at e1 e2
      subst e1 e2
      rcases hnv with ⟨_, hne⟩ | ⟨g, hg, _, rfl, h2g⟩
      · simp at hne
      · exact ren_new (fun u hu => evCs_int hu) hg hk h2g fun hnew => .slice n 0 _ _ g hnew
  · simp at hm

/-! ### The reference's Quiet and Blockers -/
noncomputable abbrev Orq : Over := tabO [(78, thS enterT), (79, thS exitT), (80, thS waitT), (81, thS doneT), (52, endS), (49, endS), (54, endsS), (29, conS)]
theorem Orqok : SoundO Try.prog Orq := tab_sound (.cons enterF (.cons exitF (.cons waitF (.cons doneF (.cons endW (.cons endE (.cons endsF (.cons conF .nil))))))))
theorem Orqq : RqO Orq where
  fol := ⟨rfl, rfl, rfl, rfl⟩
  o57 := rfl
  o47 := rfl
  o39 := rfl
  o53 := rfl
  o40 := rfl
  o54 := rfl
  o38 := rfl
  o52 := rfl
  o20 := rfl
  o44 := rfl
  o55 := rfl
  o61 := rfl
  o56 := rfl
  o45 := rfl
  o46 := rfl
  o36 := rfl
  o37 := rfl
  o21 := rfl
  o25 := rfl
  o33 := rfl
  o35 := rfl
  o34 := rfl
  o28 := rfl
def EvsOk (E : List Ev) : Prop := okVals E ∧ E.length ≤ 100000
noncomputable def rqS : List Value → Option (AP Value)
  | [.int .u8 kd, .int .i64 k, .int .i64 wait, .int .i64 fr, s] => some ((rdEvs s).bind fun E => cond (@decide (EvsOk E) (Classical.propDecidable _)) (.pure (quietV kd k wait fr E)) (.fail ""))
  | _ => none
theorem quietV_plain {kd k wait fr : Int} {E : List Ev} : Plain (quietV kd k wait fr E) := by
  unfold quietV
  split <;> exact .tuple _ (by simp; exact ⟨.bool _, .int _ _⟩)
theorem rqF : SoundF Try.prog 15 rqS := by
  refine soundF (O := Orq) Orqok orders ?_
  intro args m hm h n N Old OldId v h1 n1 hr hold hid hN
  unfold rqS at hm
  split at hm
  · rename_i kd k wait fr s
    simp only [Option.some.injEq] at hm
    subst hm
    obtain ⟨E, hl, hr⟩ := run_bind_reads (rdEvs_reads _) hr
    have hA := rdEvs_look hl
    have hW : WfH h N := WfH.of_lt fun i B e => (hid i (hold.id i B e)).1
    obtain ⟨hc, hr⟩ := run_cond hr
    obtain ⟨hv, hn⟩ : EvsOk E := @of_decide_eq_true _ (Classical.propDecidable _) hc
    obtain ⟨hs, rfl⟩ := run_pure hr
    have e1 : h1 = h := congrArg HS.heap hs
    have e2 : n1 = n := congrArg HS.next hs
    subst e1 e2
    refine (refQuietB Orqq kd k wait fr E s hv hn _ N hW hA).mono ?_
    rintro v2 h2 n2 ⟨rfl, hk⟩
    exact ren_plain quietV_plain hk
  · simp at hm
noncomputable def blkM (e : Int) : List Sec → AP Value
  | [] => .pure (.tuple ⟨[.slice none 0 0, .int .i64 e]⟩)
  | x :: A => .newRow (secCs (x :: A)) fun g => .pure (.tuple ⟨[.slice (some ⟨g, 0, none⟩) (x :: A).length (capInf + 4), .int .i64 e]⟩)
/-- The sections that Blockers gives. -/
def blkR (kd k wait step : Int) (E : List Ev) : List Sec := if qerr kd k wait step E = 0 then blkB kd k wait step E else []
noncomputable def rbS : List Value → Option (AP Value)
  | [.int .u8 kd, .int .i64 k, .int .i64 wait, .int .i64 step, s] => some ((rdEvs s).bind fun E => cond (@decide (EvsOk E) (Classical.propDecidable _)) (blkM (qerr kd k wait step E) (blkR kd k wait step E)) (.fail ""))
  | _ => none
theorem rblk {N : Nat} {kd k wait step : Int} {E : List Ev} {v : Value} {h : PT ABlk} (H : RblkV N kd k wait step E v h) : ∃ sl, v = .tuple ⟨[sl, .int .i64 (qerr kd k wait step E)]⟩ ∧ NewSecs N h sl (blkR kd k wait step E) := by
  unfold blkR
  rcases H with ⟨hq, rfl⟩ | ⟨hq, sl, rfl, hS⟩
  · rw [if_neg hq]
    exact ⟨_, rfl, .inl ⟨rfl, rfl⟩⟩
  · rw [if_pos hq, hq]
    exact ⟨_, rfl, hS⟩
theorem pblk {kd k wait step : Int} {E : List Ev} {v : Value} {h : PT ABlk} (H : BlkV kd k wait step E v h) : ∃ sl, v = .tuple ⟨[sl, .int .i64 (qerr kd k wait step E)]⟩ ∧ IsSecs h sl (blkR kd k wait step E) := by
  unfold blkR
  rcases H with ⟨hq, rfl⟩ | ⟨hq, sl, rfl, hS⟩
  · rw [if_neg hq]
    exact ⟨_, rfl, .inl ⟨rfl, rfl⟩⟩
  · rw [if_pos hq, hq]
    exact ⟨_, rfl, hS⟩
theorem rbF : SoundF Try.prog 17 rbS := by
  refine soundF (O := Orq) Orqok orders ?_
  intro args m hm h n N Old OldId v h1 n1 hr hold hid hN
  unfold rbS at hm
  split at hm
  · rename_i kd k wait fr s
    simp only [Option.some.injEq] at hm
    subst hm
    obtain ⟨E, hl, hr⟩ := run_bind_reads (rdEvs_reads _) hr
    have hA := rdEvs_look hl
    have hW : WfH h N := WfH.of_lt fun i B e => (hid i (hold.id i B e)).1
    obtain ⟨hc, hr⟩ := run_cond hr
    obtain ⟨hv, hn⟩ : EvsOk E := @of_decide_eq_true _ (Classical.propDecidable _) hc
    refine (refBlockersB Orqq kd k wait fr E s hv hn _ N hW hA).mono ?_
    rintro v2 h2 n2 ⟨hb, hk⟩
    obtain ⟨sl, rfl, hS⟩ := rblk hb
    clear hb hc
    generalize blkR kd k wait fr E = A at *
    cases A with
    | nil =>
      obtain ⟨hs, rfl⟩ := run_pure hr
      have e1 : h1 = h := congrArg HS.heap hs
      have e2 : n1 = n := congrArg HS.next hs
      subst e1 e2
      rcases hS with ⟨rfl, _⟩ | ⟨g, _, hne, _⟩
      · exact ren_plain (.tuple _ (by simp; exact ⟨.nilslice _ _, .int _ _⟩)) hk
      · simp at hne
    | cons x A =>
      replace hr := run_new hr
      obtain ⟨hs, rfl⟩ := run_pure hr
      have e1 : h1 = _ := congrArg HS.heap hs
      have e2 : n1 = _ := congrArg HS.next hs
      simp only [S0] at e1 e2
      subst e1 e2
      rcases hS with ⟨_, hne⟩ | ⟨g, hg, _, rfl, h2g⟩
      · simp at hne
      · exact ren_new (fun u hu => secCs_int hu) hg hk h2g fun hnew => .tuple _ _ (.cons _ _ _ _ (.slice n 0 _ _ g hnew) (.cons _ _ _ _ (.int _ _) .nil))
  · simp at hm
end Go.Proofs.Ythhohpbghfbkbaa
