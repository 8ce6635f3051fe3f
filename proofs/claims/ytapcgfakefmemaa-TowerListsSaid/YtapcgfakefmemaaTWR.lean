/-
  A part of the proof: contracts of inner functions.
-/
import Derived.Test.YtapcgfakefmemaaTWQ
set_option linter.unusedVariables false
set_option linter.unusedSimpArgs false
namespace Go.Proofs.Ytapcgfakefmemaa
open Go.Am

theorem tow_ok {n m0 m1 m2 m3 m4 m5 : Int} (hn : 1 ≤ n ∧ n ≤ 4) (h0 : 0 ≤ m0 ∧ m0 ≤ 12) (h1 : 0 ≤ m1 ∧ m1 ≤ 12) (h2 : 0 ≤ m2 ∧ m2 ≤ 12) (h3 : 0 ≤ m3 ∧ m3 ≤ 12) (h4 : 0 ≤ m4 ∧ m4 ≤ 12) (h5 : 0 ≤ m5 ∧ m5 ≤ 12) : cfgOk 4 2 1 0 2 n m0 m1 m2 m3 m4 m5 2 3 0 [] = true := by
  have hd : domOk 2 n [] = true := by
    have : n = 1 ∨ n = 2 ∨ n = 3 ∨ n = 4 := by omega
    rcases this with rfl | rfl | rfl | rfl <;> decide
  unfold cfgOk
  rw [hd]
  simp (disch := omega) only [decide_eq_true, decide_eq_false, Bool.or_self, Bool.not_false, Bool.and_self, Bool.or_false, Bool.false_or]
  simp
theorem tow_count {n : Int} (hn : 1 ≤ n ∧ n ≤ 4) : domCount 2 n [] = n := by
  have : n = 1 ∨ n = 2 ∨ n = 3 ∨ n = 4 := by omega
  rcases this with rfl | rfl | rfl | rfl <;> decide
theorem isInts_nil_len {k : IntKind} {h : PT ABlk} {lo : Nat} {s : Value} {xs : List Int} (H : GrowInts k h lo s xs) : ∃ a c, s = .slice a xs.length c := by
  rcases H with ⟨rfl, rfl⟩ | ⟨b, rfl, _⟩
  · exact ⟨_, _, rfl⟩
  · exact ⟨_, _, rfl⟩

theorem tower_next {l : LayV} {V : Int} {sz : Nat} (hn : NumL l V sz) {lv r : Int} (l0 : 0 ≤ lv) (hr : lv < hgtA l.H r) : nxtE l r lv = 0 := by
  unfold hgtA at hr
  split at hr
  · rename_i hc
    have hb := hn.ini.bd (r - 1).toNat (by omega)
    have hw : IntKind.i64.wrap (l.H.getD (r - 1).toNat 0 - 1) = l.H.getD (r - 1).toNat 0 - 1 := wrap_i64 (by omega) (by omega)
    unfold nxtE
    have hh : ¬ (isHead l r ∧ (0 ≤ lv ∧ lv ≤ 5)) := fun q => by have := q.1.1; omega
    rw [if_neg hh, if_pos]
    refine ⟨hc, l0, ?_⟩
    rw [hw]; omega
  · omega
theorem chain_length (l : LayV) (W : List Int) (lv : Int) : ∀ (f : Nat) (S : List Bool) (r : Int), (chain l W lv f S r).length ≤ f
  | 0, _, _ => by simp [chain]
  | f + 1, S, r => by
    rw [chain]
    split
    · have := chain_length l W lv f (S.set r.toNat true) (aft l W r lv)
      simp only [List.length_cons]; omega
    · simp
theorem lst_length (l : LayV) (W : List Int) (v lv : Int) : (lst l W v lv).length ≤ l.H.length + 1 := chain_length ..
theorem sm_lst0 (S : List Value) : lst ⟨S, hts 1 [2, 1, 0, 0, 0, 0], adr (p7Of 2 2 0 1 (hts 1 [2, 1, 0, 0, 0, 0]) + domCount 2 2 [] * 7) (hts 1 [2, 1, 0, 0, 0, 0]), placesOf 2 2 0 1 (domCount 2 2 []) (hts 1 [2, 1, 0, 0, 0, 0]), domCount 2 2 []⟩ (smW 10) 0 0 = [1, 3] := by kernel_rfl
theorem sm_lst {h : PT ABlk} {lb gb : Nat} {l : LayV} {cv : Value} (H : NewL 1 2 2 0 2 2 2 1 0 0 0 0 1 1 0 [] h lb l gb cv) : lst l (smW 10) 0 0 = [1, 3] := by
  obtain ⟨S, H', T, P, V⟩ := l
  have e1 := H.H
  have e2 := H.P
  have e3 := H.T
  have e4 := H.V
  simp only at e1 e2 e3 e4
  subst e1 e2 e3 e4
  exact sm_lst0 S
set_option maxHeartbeats 1000000 in
theorem listLawB (tb mb lb wb : Nat) (l : LayV) (W : List Int) (lg : Value) (v lv : Int) (want : Value) (ws : List Int) (h : PT ABlk) (N : Nat) (hW : WfH h N)
    (ht : h.get tb = some (.cells (PT.ofList .leaf 0 [.pointer (some ⟨mb, 0, none⟩), .pointer (some ⟨lb, 0, none⟩)]) false)) (hM : IsMem h mb wb W lg) (hl : (rdL (.pointer (some ⟨lb, 0, none⟩))).look h = some l) (hu : ∀ x ∈ W, 0 ≤ x ∧ x < 18446744073709551616) (hH : l.H.length ≤ 2000) (hv : 0 ≤ v ∧ v ≤ 1000) (he : nxtE l (-1 - v) lv = 0) (hw : IsInts .i64 h want ws) (hwl : ws.length < 1000000) (hll : (lst l W v lv).length < 1000000) :
    EvB Try.prog OT 14 [.pointer (some ⟨tb, 0, none⟩), .int .i64 v, .int .i64 lv, want] h N fun r h' n' => r = .bool (decide (lst l W v lv = ws)) ∧ Kept h h' := by
  have hlst := (listB (O := OT) rfl rfl rfl rfl rfl rfl rfl rfl rfl tb mb lb wb l W lg v lv h N hW ht hM hl hu hH hv he).wf hW
  generalize lst l W v lv = C at *
  clear ht hM hl hu hH hv he
  refine EvB_run (N := 25) Try.func14 rfl rfl fun z hP hO hro hN hQ => ?_
  repeat' first | simp (config := { maxSteps := 2000000 }) (disch := first | omega | (repeat first | assumption | exact Kept.refl _ | refine Kept.set' (by assumption) ?_ ?_ | refine Kept.set (by assumption) ?_ ?_ | omega)) only [go_sem, *, Try.results14] | (first | apply EvG_ndec | apply EvC_ndec | apply EvG_dec | apply EvC_dec | apply EvC_nbool | apply EvC_bool | apply EvG_nbool | apply EvG_bool) <;> intro _
  refine EvQ_call ?_ ?_ (by rw [hP, hO]; exact hlst) ?_
  · simp (config := { maxSteps := 2000000 }) (disch := first | omega | (repeat first | assumption | exact Kept.refl _ | refine Kept.set' (by assumption) ?_ ?_ | refine Kept.set (by assumption) ?_ ?_ | omega)) only [go_sem, *]
  · simp (config := { maxSteps := 2000000 }) (disch := first | omega | (repeat first | assumption | exact Kept.refl _ | refine Kept.set' (by assumption) ?_ ?_ | refine Kept.set (by assumption) ?_ ?_ | omega)) only [go_sem, *]
  rintro v h5 n5 ⟨⟨s, rfl, hs, k5⟩, hn5, hW5⟩
  have he := equalInts (O := OT) C ws s want h5 n5 hs.isInts (hw.keep k5) hll hwl
  clear hlst hs hw
  repeat' first | simp (config := { maxSteps := 2000000 }) (disch := first | omega | (repeat first | assumption | exact Kept.refl _ | refine Kept.set' (by assumption) ?_ ?_ | refine Kept.set (by assumption) ?_ ?_ | omega)) only [go_sem, *, Try.results14] | (first | apply EvG_ndec | apply EvC_ndec | apply EvG_dec | apply EvC_dec | apply EvC_nbool | apply EvC_bool | apply EvG_nbool | apply EvG_bool) <;> intro _
  refine EvQ_call ?_ ?_ (by rw [hP, hO]; exact he) ?_
  · simp (config := { maxSteps := 2000000 }) (disch := first | omega | (repeat first | assumption | exact Kept.refl _ | refine Kept.set' (by assumption) ?_ ?_ | refine Kept.set (by assumption) ?_ ?_ | omega)) only [go_sem, *]
  · simp (config := { maxSteps := 2000000 }) (disch := first | omega | (repeat first | assumption | exact Kept.refl _ | refine Kept.set' (by assumption) ?_ ?_ | refine Kept.set (by assumption) ?_ ?_ | omega)) only [go_sem, *]
  rintro v h6 n6 ⟨rfl, hh, hn⟩
  subst hh hn
  repeat' first | simp (config := { maxSteps := 2000000 }) (disch := first | omega | (repeat first | assumption | exact Kept.refl _ | refine Kept.set' (by assumption) ?_ ?_ | refine Kept.set (by assumption) ?_ ?_ | omega)) only [go_sem, *, Try.results14] | (first | apply EvG_ndec | apply EvC_ndec | apply EvG_dec | apply EvC_dec | apply EvC_nbool | apply EvC_bool | apply EvG_nbool | apply EvG_bool) <;> intro _

set_option maxRecDepth 100000 in
set_option maxHeartbeats 8000000 in
theorem lists (n t0 t1 t2 t3 t4 t5 : Int) (pv : Value) (ps : List (Int × Int)) (lv0 : Int) (h : PT ABlk) (N : Nat) (hW : WfH h N) (hps : IsPuts h pv ps) (b0 : 0 ≤ t0) (b1 : 0 ≤ t1) (b2 : 0 ≤ t2) (b3 : 0 ≤ t3) (b4 : 0 ≤ t4) (b5 : 0 ≤ t5) :
    EvB Try.prog OT 3 [.int .i64 n, .agg ⟨[.int .u8 t0, .int .u8 t1, .int .u8 t2, .int .u8 t3, .int .u8 t4, .int .u8 t5]⟩, pv, .int .i64 lv0] h N fun v h' n' => v = .bool true := by
  have hps0 := hps
  obtain ⟨pa, pc, rfl, -⟩ := hps
  have hnr := nOf_range n
  refine EvB_run (N := 126) Try.func3 rfl rfl fun z hP hO hro hN hQ => ?_
  repeat' first | simp (config := { maxSteps := 2000000 }) (disch := first | omega | (repeat first | assumption | exact Kept.refl _ | refine Kept.set' (by assumption) ?_ ?_ | refine Kept.set (by assumption) ?_ ?_ | omega)) only [go_sem, *, Try.results3] | (first | apply EvG_ndec | apply EvC_ndec | apply EvG_dec | apply EvC_dec | apply EvC_nbool | apply EvC_bool | apply EvG_nbool | apply EvG_bool) <;> intro _
  rename_i hpl
  generalize hh1 : h.set N _ = h1
  have hW1 : WfH h1 (N + 1) := by rw [← hh1]; exact hW.set (by omega) (by omega)
  have k1 : Kept h h1 := by rw [← hh1]; exact hW.kept (Nat.le_refl _)
  clear hh1
  refine EvQ_call ?_ ?_ (by rw [hP, hO]; exact (configB n t0 t1 t2 t3 t4 t5 h1 _ hW1 b0 b1 b2 b3 b4 b5).wf hW1) ?_
  · simp (config := { maxSteps := 2000000 }) (disch := first | omega | (repeat first | assumption | exact Kept.refl _ | refine Kept.set' (by assumption) ?_ ?_ | refine Kept.set (by assumption) ?_ ?_ | omega)) only [go_sem, *]
  · simp (config := { maxSteps := 2000000 }) (disch := first | omega | (repeat first | assumption | exact Kept.refl _ | refine Kept.set' (by assumption) ?_ ?_ | refine Kept.set (by assumption) ?_ ?_ | omega)) only [go_sem, *]
  rintro v h2 n2 ⟨⟨rfl, k2⟩, hn2, hW2⟩
  have d0 := tmod13 b0
  have d1 := tmod13 b1
  have d2 := tmod13 b2
  have d3 := tmod13 b3
  have d4 := tmod13 b4
  have d5 := tmod13 b5
  have hok := tow_ok hnr d0 d1 d2 d3 d4 d5
  have hcn := tow_count hnr
  generalize t0.tmod 13 = m0 at *
  generalize t1.tmod 13 = m1 at *
  generalize t2.tmod 13 = m2 at *
  generalize t3.tmod 13 = m3 at *
  generalize t4.tmod 13 = m4 at *
  generalize t5.tmod 13 = m5 at *
  generalize nOf n = V at *
  clear b0 b1 b2 b3 b4 b5 d0 d1 d2 d3 d4 d5
  repeat' first | simp (config := { maxSteps := 2000000 }) (disch := first | omega | (repeat first | assumption | exact Kept.refl _ | refine Kept.set' (by assumption) ?_ ?_ | refine Kept.set (by assumption) ?_ ?_ | omega)) only [go_sem, *, Try.results3] | (first | apply EvG_ndec | apply EvC_ndec | apply EvG_dec | apply EvC_dec | apply EvC_nbool | apply EvC_bool | apply EvG_nbool | apply EvG_bool) <;> intro _
  generalize hh3 : (h2.set n2 _).set n2 _ = h3
  have e3 := get_of_set hh3
  have hW3 : WfH h3 (n2 + 1) := by rw [← hh3]; exact WfH.set' (by omega) (hW2.set (by omega) (by omega))
  have k3 : Kept h2 h3 := by rw [← hh3]; exact Kept.set' hW2 (by omega) (hW2.kept (Nat.le_refl _))
  have k03 := k1.trans (k2.trans k3)
  clear hh3 k1 k2 k3 hW1 hW2
  refine EvQ_call ?_ ?_ (by rw [hP, hO]; exact (beginB 4 2 1 0 2 V m0 m1 m2 m3 m4 m5 2 3 0 _ ps h3 _ hW3 (hps0.keep k03) (by omega) hok).wf hW3) ?_
  · simp (config := { maxSteps := 2000000 }) (disch := first | omega | (repeat first | assumption | exact Kept.refl _ | refine Kept.set' (by assumption) ?_ ?_ | refine Kept.set (by assumption) ?_ ?_ | omega)) only [go_sem, *]
  · simp (config := { maxSteps := 2000000 }) (disch := first | omega | (repeat first | assumption | exact Kept.refl _ | refine Kept.set' (by assumption) ?_ ?_ | refine Kept.set (by assumption) ?_ ?_ | omega)) only [go_sem, *]
  rintro v h4 n4 ⟨⟨xb, lb, mb, wb, tb, l, gb, cv, W, lg, sz, rfl, hL, hnum, ⟨⟨zb, rb, rt, hx⟩, ht, hM, hu⟩, hlg, hwl, -, k4, o1, o2, o3, o4, o5⟩, hn4, hW4⟩
  have e4 := k4 _ _ e3
  have k04 := k03.trans k4
  rw [hcn] at hnum
  obtain ⟨i0, i1⟩ := idx_range (i := lv0) (n := 6) (by omega)
  have hix := idxS_eq (i := lv0) (n := 6) (by omega) (by omega)
  generalize idx lv0 6 = lv at *
  have hlk := hL.look
  have hH : l.H.length ≤ 2000 := by have := hnum.ini.len; omega
  have hrl := fun h' hk z f d ops r K m n => @EvV_look _ _ _ _ h' hlk z f d ops r K m n hk
  have hnx := fun v v0 v1 => head_next (v := v) (lv := lv) hnum v0 v1 i0 (by omega)
  clear hok hcn hL hlg hwl hps0 e3 k03 k04 k4 hW3
  have hxn := hW4.lt hx
  repeat' first | simp (config := { maxSteps := 2000000 }) (disch := first | omega | (repeat first | assumption | exact Kept.refl _ | refine Kept.set' (by assumption) ?_ ?_ | refine Kept.set (by assumption) ?_ ?_ | omega)) only [go_sem, *, Try.results3] | (first | apply EvG_ndec | apply EvC_ndec | apply EvG_dec | apply EvC_dec | apply EvC_nbool | apply EvC_bool | apply EvG_nbool | apply EvG_bool) <;> intro _
  refine ind_loop (fun t m h' n' => ∃ v : Nat, v ≤ V ∧ t = V.toNat - v ∧ m.n = 126 ∧ m.dfs = [] ∧ m.get 3 = .int .i64 lv ∧ m.get 9 = .pointer (some ⟨n2, 0, none⟩) ∧ m.get 10 = .pointer (some ⟨xb, 0, none⟩) ∧ m.get 11 = .int .i64 v ∧ Kept h4 h' ∧ WfH h' n' ∧ n4 ≤ n') V.toNat ?_ ?_
  · refine ⟨0, by omega, by omega, ?_⟩
    clear hnum hrl hnx hlk
    simp (config := { maxSteps := 2000000 }) (disch := first | omega | (repeat first | assumption | exact Kept.refl _ | refine Kept.set' (by assumption) ?_ ?_ | refine Kept.set (by assumption) ?_ ?_ | omega)) only [go_sem, *]
    exact ⟨Kept.refl _, Nat.le_refl _⟩
  · rintro t m h' n' ih ⟨v, hv, rfl, m1, m2, m3, m4, m5, m6, q1, q2, q3⟩
    have e5 := q1 _ _ e4
    have hx5 := q1 _ _ hx
    by_cases hlt : (v : Int) < V
    · have hv0 : 0 ≤ (v : Int) := by omega
      have hnxv := hnx v hv0 hlt
      have hlst := (listB (O := OT) rfl rfl rfl rfl rfl rfl rfl rfl rfl tb mb lb wb l W lg v lv h' n' q2 (q1 _ _ ht) (hM.keep q1) (look_keep q1 hlk) hu hH ⟨hv0, by omega⟩ hnxv).wf q2
      have hwk := walks_lst (l := l) (W := W) (v := v) (lv := lv) hu
      repeat' first | simp (config := { maxSteps := 2000000 }) (disch := first | omega | (repeat first | assumption | exact Kept.refl _ | refine Kept.set' (by assumption) ?_ ?_ | refine Kept.set (by assumption) ?_ ?_ | omega)) only [go_sem, *, Try.results3] | (first | apply EvG_ndec | apply EvC_ndec | apply EvG_dec | apply EvC_dec | apply EvC_nbool | apply EvC_bool | apply EvG_nbool | apply EvG_bool) <;> intro _
      refine EvQ_call ?_ ?_ (by rw [hP, hO]; exact hlst) ?_
      · simp (config := { maxSteps := 2000000 }) (disch := first | omega | (repeat first | assumption | exact Kept.refl _ | refine Kept.set' (by assumption) ?_ ?_ | refine Kept.set (by assumption) ?_ ?_ | omega)) only [go_sem, *]
      · simp (config := { maxSteps := 2000000 }) (disch := first | omega | (repeat first | assumption | exact Kept.refl _ | refine Kept.set' (by assumption) ?_ ?_ | refine Kept.set (by assumption) ?_ ?_ | omega)) only [go_sem, *]
      rintro v5 h5 n5 ⟨⟨s, rfl, hs, k5⟩, hn5, hW5⟩
      have q5 := q1.trans k5
      obtain ⟨sa, sc, rfl, hsa⟩ := hs.isInts.len
      have hCl := lst_length l W v lv
      generalize lst l W v lv = C at *
      clear hlst q1 q2 e5 hx5 hs k5
      have e5 := q5 _ _ e4
      have hx5 := q5 _ _ hx
      repeat' first | simp (config := { maxSteps := 2000000 }) (disch := first | omega | (repeat first | assumption | exact Kept.refl _ | refine Kept.set' (by assumption) ?_ ?_ | refine Kept.set (by assumption) ?_ ?_ | omega)) only [go_sem, *, Try.results3] | (first | apply EvG_ndec | apply EvC_ndec | apply EvG_dec | apply EvC_dec | apply EvC_nbool | apply EvC_bool | apply EvG_nbool | apply EvG_bool) <;> intro _
      refine ind_loop (fun t m h' n' => ∃ (i : Nat) (r : Int) (es : List (Value × Value × Nat)) (c : Nat), i ≤ C.length + 1 ∧ t = C.length + 1 - i ∧ m.n = 126 ∧ m.dfs = [] ∧ m.get 3 = .int .i64 lv ∧ m.get 9 = .pointer (some ⟨n2, 0, none⟩) ∧ m.get 10 = .pointer (some ⟨xb, 0, none⟩) ∧ m.get 11 = .int .i64 v ∧ m.get 12 = .slice sa C.length sc ∧ m.get 14 = .map (some n5) ∧ m.get 15 = .int .i64 r ∧ m.get 16 = .int .i64 i ∧
        Kept h5 h' ∧ WfH h' n' ∧ n5 + 1 ≤ n' ∧ h'.get n5 = some (.map es c) ∧ ((nxtE l r lv = 0 ∧ ∃ seen C2, seen ++ C2 = C ∧ i = seen.length ∧ es = ments 0 seen ∧ c = seen.length ∧ Walks l W lv seen r C2) ∨ C.length + 1 ≤ i)) (C.length + 1) ?_ ?_
      · refine ⟨0, -1 - v, [], 0, by omega, by omega, ?_⟩
        clear ih hrl hnx hlk hsa
        simp (config := { maxSteps := 2000000 }) (disch := first | omega | (repeat first | assumption | exact Kept.refl _ | refine Kept.set' (by assumption) ?_ ?_ | refine Kept.set (by assumption) ?_ ?_ | omega)) only [go_sem, *]
        exact ⟨hW5.kept (Nat.le_refl _), hW5.set (by omega) (by omega), Nat.le_refl _, ⟨[], C, rfl, rfl, rfl, rfl, hwk⟩⟩
      · clear hwk hnxv
        rintro t m2 h6 n6 ih2 ⟨i, r, es, c, hi, rfl, m1, m2, m3, m4, m5, m6, m7, m8, m9, m10, q1, q2, q3, q4, hcase⟩
        have ci : ((i + 1 : Nat) : Int) = (i : Int) + 1 := by omega
        have e6 := q1 _ _ e5
        have hx6 := q1 _ _ hx5
        rcases hcase with ⟨hnr, seen, C2, hC, rfl, rfl, rfl, hwk⟩ | hend
        · have hle : (seen.length : Int) ≤ (C.length : Int) := by rw [← hC, List.length_append]; omega
          have hsl : seen.length ≤ 2001 := by omega
          have k6 := q5.trans q1
          have haf := afterB (O := OT) rfl rfl rfl tb mb lb wb l W lg r lv h6 n6 (k6 _ _ ht) (hM.keep k6) (look_keep k6 hlk) hu hH
          rw [hnr] at haf
          cases C2 with
          | cons c C3 =>
            obtain ⟨w1, ⟨w2, w3, w4⟩, w5⟩ := hwk
            rw [w1] at haf
            have hlt2 : (seen.length : Int) < (C.length : Int) := by rw [← hC, List.length_append, List.length_cons]; omega
            have hnc := tower_next hnum i0 w3
            obtain ⟨b, off, sp, L, ro, rfl, hb, hbi⟩ := hsa seen.length (by omega)
            have hgD : C.getD seen.length 0 = c := by rw [← hC]; simp [List.getD]
            rw [hgD] at hbi
            have hb6 := q1 _ _ hb
            have hmu := muB46 (r := n5) w4
            have hlkb := lkB46 (x := c) (ws := seen) (c := seen.length)
            rw [decide_eq_false w4] at hlkb
            clear hb hsa
            repeat' first | simp (config := { maxSteps := 2000000 }) (disch := first | omega | (repeat first | assumption | exact Kept.refl _ | refine Kept.set' (by assumption) ?_ ?_ | refine Kept.set (by assumption) ?_ ?_ | omega)) only [go_sem, *, Try.results3] | (first | apply EvG_ndec | apply EvC_ndec | apply EvG_dec | apply EvC_dec | apply EvC_nbool | apply EvC_bool | apply EvG_nbool | apply EvG_bool) <;> intro _
            refine EvQ_call ?_ ?_ (by rw [hP, hO]; exact haf) ?_
            · simp (config := { maxSteps := 2000000 }) (disch := first | omega | (repeat first | assumption | exact Kept.refl _ | refine Kept.set' (by assumption) ?_ ?_ | refine Kept.set (by assumption) ?_ ?_ | omega)) only [go_sem, *]
            · simp (config := { maxSteps := 2000000 }) (disch := first | omega | (repeat first | assumption | exact Kept.refl _ | refine Kept.set' (by assumption) ?_ ?_ | refine Kept.set (by assumption) ?_ ?_ | omega)) only [go_sem, *]
            rintro v7 h7 n7 ⟨rfl, hh, hn⟩
            subst hh hn
            clear haf hnr w1
            repeat' first | simp (config := { maxSteps := 2000000 }) (disch := first | omega | (repeat first | assumption | exact Kept.refl _ | refine Kept.set' (by assumption) ?_ ?_ | refine Kept.set (by assumption) ?_ ?_ | omega)) only [go_sem, *, Try.results3, heightS, heightV, lk46, mu46, beq_self_eq_true, Bool.xor_self] | (first | apply EvG_ndec | apply EvC_ndec | apply EvG_dec | apply EvC_dec | apply EvC_nbool | apply EvC_bool | apply EvG_nbool | apply EvG_bool) <;> intro _
            refine ih2 (C.length + 1 - (seen.length + 1)) _ _ _ (by omega) ⟨seen.length + 1, c, ments 0 (seen ++ [c]), seen.length + 1, by omega, rfl, ?_⟩
            rw [ci]
            clear ih ih2 hmu hlkb hrl hlk
            simp (config := { maxSteps := 2000000 }) (disch := first | omega | (repeat first | assumption | exact Kept.refl _ | refine Kept.set' (by assumption) ?_ ?_ | refine Kept.set (by assumption) ?_ ?_ | omega)) only [go_sem, *]
            exact ⟨Kept.set' hW5 (Nat.le_refl _) q1, WfH.set' (by omega) q2, .inl ⟨seen ++ [c], C3, by rw [List.append_assoc]; exact hC, by rw [List.length_append]; rfl, rfl, by rw [List.length_append]; rfl, w5⟩⟩
          | nil =>
            have hwk2 : ¬ Goes l lv seen (aft l W r lv) := hwk
            obtain ⟨a0, a1⟩ := @aft_range l W r lv hu
            generalize aft l W r lv = x at *
            obtain ⟨es2, c2, hmu⟩ := muB46' (r := n5) (x := x) (ws := seen)
            have hlkb := lkB46 (x := x) (ws := seen) (c := seen.length)
            rw [List.append_nil] at hC
            subst hC
            have hlt2 : ¬ (seen.length : Int) < (seen.length : Int) := by omega
            clear hsa hwk
            repeat' first | simp (config := { maxSteps := 2000000 }) (disch := first | omega | (repeat first | assumption | exact Kept.refl _ | refine Kept.set' (by assumption) ?_ ?_ | refine Kept.set (by assumption) ?_ ?_ | omega)) only [go_sem, *, Try.results3] | (first | apply EvG_ndec | apply EvC_ndec | apply EvG_dec | apply EvC_dec | apply EvC_nbool | apply EvC_bool | apply EvG_nbool | apply EvG_bool) <;> intro _
            refine EvQ_call ?_ ?_ (by rw [hP, hO]; exact haf) ?_
            · simp (config := { maxSteps := 2000000 }) (disch := first | omega | (repeat first | assumption | exact Kept.refl _ | refine Kept.set' (by assumption) ?_ ?_ | refine Kept.set (by assumption) ?_ ?_ | omega)) only [go_sem, *]
            · simp (config := { maxSteps := 2000000 }) (disch := first | omega | (repeat first | assumption | exact Kept.refl _ | refine Kept.set' (by assumption) ?_ ?_ | refine Kept.set (by assumption) ?_ ?_ | omega)) only [go_sem, *]
            rintro v7 h7 n7 ⟨rfl, hh, hn⟩
            subst hh hn
            clear haf hnr
            unfold Goes at hwk2
            by_cases w2 : x = 0
            · subst w2
              clear hwk2
              repeat' first | simp (config := { maxSteps := 2000000 }) (disch := first | omega | (repeat first | assumption | exact Kept.refl _ | refine Kept.set' (by assumption) ?_ ?_ | refine Kept.set (by assumption) ?_ ?_ | omega)) only [go_sem, *, Try.results3, heightS, heightV, lk46, mu46, beq_self_eq_true, Bool.xor_self] | (first | apply EvG_ndec | apply EvC_ndec | apply EvG_dec | apply EvC_dec | apply EvC_nbool | apply EvC_bool | apply EvG_nbool | apply EvG_bool) <;> intro _
              refine ih2 (seen.length + 1 - (seen.length + 1)) _ _ _ (by omega) ⟨seen.length + 1, 0, es2, c2, by omega, rfl, ?_⟩
              rw [ci]
              clear ih ih2 hmu hlkb hrl hlk
              simp (config := { maxSteps := 2000000 }) (disch := first | omega | (repeat first | assumption | exact Kept.refl _ | refine Kept.set' (by assumption) ?_ ?_ | refine Kept.set (by assumption) ?_ ?_ | omega)) only [go_sem, *]
              exact ⟨Kept.set' hW5 (Nat.le_refl _) q1, WfH.set' (by omega) q2, .inr (Nat.le_refl _)⟩
            · by_cases w3 : lv < hgtA l.H x
              · have w4 : x ∈ seen := Classical.byContradiction fun q => hwk2 ⟨w2, w3, q⟩
                clear hwk2
                rw [decide_eq_true w4] at hlkb
                repeat' first | simp (config := { maxSteps := 2000000 }) (disch := first | omega | (repeat first | assumption | exact Kept.refl _ | refine Kept.set' (by assumption) ?_ ?_ | refine Kept.set (by assumption) ?_ ?_ | omega)) only [go_sem, *, Try.results3, heightS, heightV, lk46, mu46, beq_self_eq_true, Bool.xor_self] | (first | apply EvG_ndec | apply EvC_ndec | apply EvG_dec | apply EvC_dec | apply EvC_nbool | apply EvC_bool | apply EvG_nbool | apply EvG_bool) <;> intro _
                refine ih2 (seen.length + 1 - (seen.length + 1)) _ _ _ (by omega) ⟨seen.length + 1, x, es2, c2, by omega, rfl, ?_⟩
                rw [ci]
                clear ih ih2 hmu hlkb hrl hlk
                simp (config := { maxSteps := 2000000 }) (disch := first | omega | (repeat first | assumption | exact Kept.refl _ | refine Kept.set' (by assumption) ?_ ?_ | refine Kept.set (by assumption) ?_ ?_ | omega)) only [go_sem, *]
                exact ⟨Kept.set' hW5 (Nat.le_refl _) q1, WfH.set' (by omega) q2, .inr (Nat.le_refl _)⟩
              · clear hwk2
                repeat' first | simp (config := { maxSteps := 2000000 }) (disch := first | omega | (repeat first | assumption | exact Kept.refl _ | refine Kept.set' (by assumption) ?_ ?_ | refine Kept.set (by assumption) ?_ ?_ | omega)) only [go_sem, *, Try.results3, heightS, heightV, lk46, mu46, beq_self_eq_true, Bool.xor_self] | (first | apply EvG_ndec | apply EvC_ndec | apply EvG_dec | apply EvC_dec | apply EvC_nbool | apply EvC_bool | apply EvG_nbool | apply EvG_bool) <;> intro _
                refine ih2 (seen.length + 1 - (seen.length + 1)) _ _ _ (by omega) ⟨seen.length + 1, x, es2, c2, by omega, rfl, ?_⟩
                rw [ci]
                clear ih ih2 hmu hlkb hrl hlk
                simp (config := { maxSteps := 2000000 }) (disch := first | omega | (repeat first | assumption | exact Kept.refl _ | refine Kept.set' (by assumption) ?_ ?_ | refine Kept.set (by assumption) ?_ ?_ | omega)) only [go_sem, *]
                exact ⟨Kept.set' hW5 (Nat.le_refl _) q1, WfH.set' (by omega) q2, .inr (Nat.le_refl _)⟩
        · have hnle : ¬ (i : Int) ≤ (C.length : Int) := by omega
          have q55 := q5.trans q1
          clear ih2 hsa
          repeat' first | simp (config := { maxSteps := 2000000 }) (disch := first | omega | (repeat first | assumption | exact Kept.refl _ | refine Kept.set' (by assumption) ?_ ?_ | refine Kept.set (by assumption) ?_ ?_ | omega)) only [go_sem, *, Try.results3] | (first | apply EvG_ndec | apply EvC_ndec | apply EvG_dec | apply EvC_dec | apply EvC_nbool | apply EvC_bool | apply EvG_nbool | apply EvG_bool) <;> intro _
          refine ih (V.toNat - (v + 1)) _ _ _ (by omega) ⟨v + 1, by omega, rfl, ?_⟩
          have cv1 : ((v + 1 : Nat) : Int) = (v : Int) + 1 := by omega
          rw [cv1]
          clear ih hrl hlk
          simp (config := { maxSteps := 2000000 }) (disch := first | omega | (repeat first | assumption | exact Kept.refl _ | refine Kept.set' (by assumption) ?_ ?_ | refine Kept.set (by assumption) ?_ ?_ | omega)) only [go_sem, *]
          omega
    · clear ih hnum hrl hnx hlk
      repeat' first | simp (config := { maxSteps := 2000000 }) (disch := first | omega | (repeat first | assumption | exact Kept.refl _ | refine Kept.set' (by assumption) ?_ ?_ | refine Kept.set (by assumption) ?_ ?_ | omega)) only [go_sem, *, Try.results3] | (first | apply EvG_ndec | apply EvC_ndec | apply EvG_dec | apply EvC_dec | apply EvC_nbool | apply EvC_bool | apply EvG_nbool | apply EvG_bool) <;> intro _
      refine EvQ_call ?_ ?_ (by rw [hP, hO]; exact (smallB _ _ q2).wf q2) ?_
      · simp (config := { maxSteps := 2000000 }) (disch := first | omega | (repeat first | assumption | exact Kept.refl _ | refine Kept.set' (by assumption) ?_ ?_ | refine Kept.set (by assumption) ?_ ?_ | omega)) only [go_sem, *]
      · simp (config := { maxSteps := 2000000 }) (disch := first | omega | (repeat first | assumption | exact Kept.refl _ | refine Kept.set' (by assumption) ?_ ?_ | refine Kept.set (by assumption) ?_ ?_ | omega)) only [go_sem, *]
      rintro v5 h5 n5 ⟨⟨lb2, mb2, wb2, tb2, l2, gb2, cv2, lg2, rfl, hL2, ht2, hM2, k5⟩, hn5, hW5⟩
      obtain ⟨sz2, hn2⟩ := newL_num hL2
      rw [sm_count] at hn2
      have hl2 := hL2.look
      have hlst := sm_lst hL2
      have hH2 : l2.H.length ≤ 2000 := by have := hn2.ini.len; omega
      have hnx := head_next (v := 0) (lv := 0) hn2 (by omega) (by omega) (by omega) (by omega)
      clear hL2 hn2
      repeat' first | simp (config := { maxSteps := 2000000 }) (disch := first | omega | (repeat first | assumption | exact Kept.refl _ | refine Kept.set' (by assumption) ?_ ?_ | refine Kept.set (by assumption) ?_ ?_ | omega)) only [go_sem, *, Try.results3] | (first | apply EvG_ndec | apply EvC_ndec | apply EvG_dec | apply EvC_dec | apply EvC_nbool | apply EvC_bool | apply EvG_nbool | apply EvG_bool) <;> intro _
      generalize hh6 : h5.set n5 _ = h6
      have e6 := get_of_set hh6
      have k6 : Kept h5 h6 := by rw [← hh6]; exact hW5.kept (Nat.le_refl _)
      have hW6 : WfH h6 (n5 + 1) := by rw [← hh6]; exact hW5.set (by omega) (by omega)
      clear hh6
      have hI : IsInts .i64 h6 (.slice (some ⟨n5, 0, none⟩) 2 2) [1, 3] := .inr ⟨n5, 0, none, 2, _, _, rfl, e6, rfl, rfl⟩
      refine EvQ_call ?_ ?_ (by rw [hP, hO]; exact listLawB tb2 mb2 lb2 wb2 l2 (smW 10) lg2 0 0 _ [1, 3] h6 _ hW6 (k6 _ _ ht2) (hM2.keep k6) (look_keep k6 hl2) smW_u64 hH2 (by omega) hnx hI (by decide) (by rw [hlst]; decide)) ?_
      · simp (config := { maxSteps := 2000000 }) (disch := first | omega | (repeat first | assumption | exact Kept.refl _ | refine Kept.set' (by assumption) ?_ ?_ | refine Kept.set (by assumption) ?_ ?_ | omega)) only [go_sem, *]
      · simp (config := { maxSteps := 2000000 }) (disch := first | omega | (repeat first | assumption | exact Kept.refl _ | refine Kept.set' (by assumption) ?_ ?_ | refine Kept.set (by assumption) ?_ ?_ | omega)) only [go_sem, *]
      rintro v h7 n7 ⟨rfl, k7⟩
      rw [hlst]
      clear hl2 hlst hnx hM2 hM
      repeat' first | simp (config := { maxSteps := 2000000 }) (disch := first | omega | (repeat first | assumption | exact Kept.refl _ | refine Kept.set' (by assumption) ?_ ?_ | refine Kept.set (by assumption) ?_ ?_ | omega)) only [go_sem, *, Try.results3] | (first | apply EvG_ndec | apply EvC_ndec | apply EvG_dec | apply EvC_dec | apply EvC_nbool | apply EvC_bool | apply EvG_nbool | apply EvG_bool) <;> intro _
end Go.Proofs.Ytapcgfakefmemaa
