/-
  A part of the proof: contracts of inner functions.
-/
import Derived.Test.YtapcgfakefmemaaTXC
set_option linter.unusedVariables false
set_option linter.unusedSimpArgs false
namespace Go.Proofs.Ytapcgfakefmemaa
open Go.Am
noncomputable abbrev OT : Over := tabO [(57, layCheckS), (61, engineS), (59, valuesS), (60, placeS), (62, refCheckS), (63, refValuesS), (64, groupS), (31, iniS), (19, storeS), (36, rstoreS), (9, idxS), (27, placesS), (40, towersS), (12, heightS), (18, nextS), (24, wordS), (72, peekS), (39, towPeekS), (46, cmpS), (49, samS), (21, writeS), (22, stateS), (56, wrAtS)]
theorem OTok : SoundO Try.prog OT := tab_sound (.cons layCheckF (.cons engineF (.cons valuesF (.cons placeF (.cons refCheckF (.cons refValuesF (.cons groupF (.cons iniF (.cons storeF (.cons rstoreF (.cons idxF (.cons placesF (.cons towersF (.cons heightF (.cons nextF (.cons wordF (.cons peekF (.cons towPeekF (.cons cmpF (.cons samF (.cons writeF (.cons stateF (.cons wrAtF .nil)))))))))))))))))))))))
theorem what_len {sl en bu lo V : Int} {H : List Int} (h1 : 0 ≤ sl) (h2 : 0 ≤ engW en sl bu) (h3 : 0 ≤ lo) (h4 : 0 ≤ V) (hb : ∀ i, i < H.length → 1 ≤ H.getD i 0) :
    ((whatOf sl en bu lo V H).length : Int) = adrEnd (p7Of sl en bu lo H + V * 7) H := by
  rw [twrs_end H 1 _ hb]
  unfold whatOf p7Of
  simp only [List.length_append, grp_length]
  omega
theorem rdL_get {h : PT ABlk} {lb : Nat} {l : LayV} (e : (rdL (.pointer (some ⟨lb, 0, none⟩))).look h = some l) : ∃ L ro, h.get lb = some (.cells (PT.ofList .leaf 0 L) ro) := by
  unfold rdL at e
  obtain ⟨L, ro, hb, _⟩ := look_row e
  exact ⟨L, ro, hb⟩
set_option maxRecDepth 100000 in
set_option maxHeartbeats 8000000 in
theorem beginB2 (th sl en bu kd dn t0 t1 t2 t3 t4 t5 lo tr ba : Int) (pv : Value) (ps : List (Int × Int)) (h : PT ABlk) (N : Nat) (hW : WfH h N) (hps : IsPuts h pv ps) (hpl : ps.length ≤ 300) (hok : cfgOk th sl en bu kd dn t0 t1 t2 t3 t4 t5 lo tr ba [] = true) :
    EvB Try.prog OT 8 [.agg ⟨[.int .i64 th, .int .i64 sl, .int .u8 en, .int .i64 bu, .int .u8 kd, .int .i64 dn, .slice none 0 0, .int .i64 t0, .int .i64 t1, .int .i64 t2, .int .i64 t3, .int .i64 t4, .int .i64 t5, .int .i64 lo, .int .i64 tr, .int .i64 ba]⟩, pv] h N
      fun v h' n' => ∃ xb lb mb wb tb l gb cv W lg sz hB nB, v = .pointer (some ⟨xb, 0, none⟩) ∧ NewL th sl en bu kd dn t0 t1 t2 t3 t4 t5 lo tr ba [] h' lb l gb cv ∧ NumL l (domCount kd dn []) sz ∧ IsWorld h' xb lb mb wb tb l W lg ∧ IsLog h' (tb + 1) lg ps.length ∧ W.length = sz ∧ (ps = [] → W = iniW l) ∧ Kept h h' ∧ N ≤ lb ∧ lb < wb ∧ wb < mb ∧ mb < tb ∧ tb < xb ∧ Kept hB h' ∧ WfH hB nB ∧ nB ≤ wb ∧ lb < nB ∧ NewL th sl en bu kd dn t0 t1 t2 t3 t4 t5 lo tr ba [] hB lb l gb cv ∧ Kept h hB := by
  obtain ⟨pa, pc, rfl, hps⟩ := hps
  have hnil : IsInts .u64 h (.slice none 0 0) [] := .inl ⟨rfl, rfl⟩
  refine EvB_run (N := 115) Try.func8 rfl rfl fun z hP hO hro hN hQ => ?_
  repeat' first | simp (maxSteps := 2000000) (disch := first | omega | assumption | exact Kept.refl _) only [go_sem, *, Try.results8] | (first | apply xg1 | apply xc1 | apply xg2 | apply xc2 | apply xc3 | apply xc4 | apply xg3 | apply xg4) <;> intro _ | (first | apply xh1 | apply xh2 | apply xh3 | apply xh4) <;> intro _ | refine EvK_draw (id := 16) (L := w8_16) (by kernel_rfl) (by kernel_rfl) ?_ | refine EvK_draw (id := 17) (L := w8_17) (by kernel_rfl) (by kernel_rfl) ?_
  generalize hh1 : h.set N _ = h1
  have e1 := get_of_set hh1
  have hW1 : WfH h1 (N + 1) := by rw [← hh1]; exact hW.set (by omega) (by omega)
  have k1 : Kept h h1 := by rw [← hh1]; exact hW.kept (Nat.le_refl _)
  clear hh1
  repeat' first | simp (maxSteps := 2000000) (disch := first | omega | assumption | exact Kept.refl _) only [go_sem, *, Try.results8] | (first | apply xg1 | apply xc1 | apply xg2 | apply xc2 | apply xc3 | apply xc4 | apply xg3 | apply xg4) <;> intro _ | (first | apply xh1 | apply xh2 | apply xh3 | apply xh4) <;> intro _ | refine EvK_draw (id := 16) (L := w8_16) (by kernel_rfl) (by kernel_rfl) ?_ | refine EvK_draw (id := 17) (L := w8_17) (by kernel_rfl) (by kernel_rfl) ?_
  refine EvQ_call ?_ ?_ (by rw [hP, hO]; exact (layNewL (O := OT) rfl rfl rfl rfl (fun _ => rfl) th sl en bu kd dn t0 t1 t2 t3 t4 t5 lo tr ba _ [] _ _ hW1 (hnil.keep k1) (by simp)).wf hW1) ?_
  · simp (maxSteps := 2000000) (disch := first | omega | assumption | exact Kept.refl _) only [go_sem, *]
  · simp (maxSteps := 2000000) (disch := first | omega | assumption | exact Kept.refl _) only [go_sem, *]
  rintro v h2 n2 ⟨⟨c1, _⟩ | ⟨lb, l, gb, cv, rfl, k2, hlb, hL⟩, hn2, hW2⟩
  · rw [hok] at c1; simp at c1
  have e2 := k2 N _ e1
  have k02 := k1.trans k2
  clear e1
  repeat' first | simp (maxSteps := 2000000) (disch := first | omega | assumption | exact Kept.refl _) only [go_sem, *, Try.results8] | (first | apply xg1 | apply xc1 | apply xg2 | apply xc2 | apply xc3 | apply xc4 | apply xg3 | apply xg4) <;> intro _ | (first | apply xh1 | apply xh2 | apply xh3 | apply xh4) <;> intro _ | refine EvK_draw (id := 16) (L := w8_16) (by kernel_rfl) (by kernel_rfl) ?_ | refine EvK_draw (id := 17) (L := w8_17) (by kernel_rfl) (by kernel_rfl) ?_
  refine EvQ_call ?_ ?_ (by rw [hP, hO]; exact (refNew (O := OT) rfl rfl rfl th sl en bu kd dn t0 t1 t2 t3 t4 t5 lo tr ba _ [] _ _ hW2 (hnil.keep k02) rfl).wf hW2) ?_
  · simp (maxSteps := 2000000) (disch := first | omega | assumption | exact Kept.refl _) only [go_sem, *]
  · simp (maxSteps := 2000000) (disch := first | omega | assumption | exact Kept.refl _) only [go_sem, *]
  rintro v h3 n3 ⟨⟨c2, _⟩ | ⟨c2, zb, cv2, hv2, wv, rfl, k3, hzb, hb3, hcv2, hH2, hw2⟩, hn3, hW3⟩
  · rw [hok] at c2; simp at c2
  have e3 := k3 N _ e2
  have k03 := k02.trans k3
  replace hL := hL.keep k3
  clear e2 hnil
  obtain ⟨sz, hnum⟩ := newL_num hL
  have hini2 : @decide (IniOk l) (Classical.propDecidable _) = true := @decide_eq_true _ (Classical.propDecidable _) hnum.ini
  have hsz9 : (l.P.getD 9 0).toNat = sz := by rw [hnum.p9]; omega
  have hlk := hL.look
  have hlbn := hW3.lt (show h3.get zb = _ from hb3)
  have hrl := fun h' hk z f d ops r K m n => @EvV_look _ _ _ _ h' hlk z f d ops r K m n hk
  have hWu : ∀ x ∈ iniW l, 0 ≤ x ∧ x < 18446744073709551616 := iniL_u64 hnum.ini.len
  have hWl : (iniW l).length = sz := by unfold iniW; rw [iniL_length]; exact hsz9
  -- the reference's numbers
  obtain ⟨hva, hvc, rfl, -⟩ := hH2.len
  have hf := cfgOk_facts hok
  have hlen6 := hts_length6 ⟨hf.2.2.2.2.2.1, hf.2.2.2.2.2.2.1⟩
  obtain ⟨-, ⟨f2, f2'⟩, ⟨f3, f3'⟩, ⟨f4, f4'⟩, ⟨f5, f5'⟩, -, -, -⟩ := hf
  have hE := engW_bound (en := en) f3 f3' f4 f4'
  have hbd : ∀ i, i < (hts 1 [t0, t1, t2, t3, t4, t5]).length → 1 ≤ (hts 1 [t0, t1, t2, t3, t4, t5]).getD i 0 ∧ (hts 1 [t0, t1, t2, t3, t4, t5]).getD i 0 ≤ 6 := fun i hi => by
    have := hts_bound [t0, t1, t2, t3, t4, t5] 1 1 6 (by omega) (by simp) ((hts 1 [t0, t1, t2, t3, t4, t5]).getD i 0) (by simp [List.getD, hi])
    exact this
  have hlw := what_len (sl := sl) (en := en) (bu := bu) (lo := lo) (V := domCount kd dn []) (H := hts 1 [t0, t1, t2, t3, t4, t5]) (by omega) hE.1 (by omega) (by have := hnum.V1; omega) fun i hi => (hbd i hi).1
  have hp7e : p7Of sl en bu lo (hts 1 [t0, t1, t2, t3, t4, t5]) = 0 + sl * 1 + 1 * engW en sl bu + 1 + lo * 3 + lo * 1 + 6 + ((hts 1 [t0, t1, t2, t3, t4, t5]).length : Int) * 1 := rfl
  have hpe : adrEnd (p7Of sl en bu lo (hts 1 [t0, t1, t2, t3, t4, t5]) + domCount kd dn [] * 7) (hts 1 [t0, t1, t2, t3, t4, t5]) = sz := by
    have := hnum.p9
    rw [hL.P] at this
    simpa only [placesOf, List.getD_cons_succ, List.getD_cons_zero] using this
  have hll := hL.H
  have hp5l : l.P.getD 5 0 = 0 + sl * 1 + 1 * engW en sl bu + 1 + lo * 3 + lo * 1 := by rw [hL.P]; simp only [placesOf, List.getD_cons_succ, List.getD_cons_zero]
  have hp6l : l.P.getD 6 0 = 0 + sl * 1 + 1 * engW en sl bu + 1 + lo * 3 + lo * 1 + 6 := by rw [hL.P]; simp only [placesOf, List.getD_cons_succ, List.getD_cons_zero]
  have n1 := hnum.sz1
  have n2' := hnum.sz2
  have n7 := hnum.p7
  have n7' := hnum.p7'
  have n9 := hnum.ini.p9
  have n9' := hnum.p9
  rw [hpe] at hlw
  rw [← hll] at hb3 hH2 hbd hw2 hlw hp7e hlen6 hpe
  rcases hw2 with ⟨_, _, hk0⟩ | ⟨wb2, rfl, -, -⟩
  · exfalso; rw [hk0] at hlw; omega
  obtain rfl : (whatOf sl en bu lo (domCount kd dn []) l.H).length = sz := by omega
  generalize hszz : (whatOf sl en bu lo (domCount kd dn []) l.H).length = sz at *
  obtain ⟨p5, hp5⟩ : ∃ p5 : Nat, 0 + sl * 1 + 1 * engW en sl bu + 1 + lo * 3 + lo * 1 = (p5 : Int) := ⟨(0 + sl * 1 + 1 * engW en sl bu + 1 + lo * 3 + lo * 1).toNat, by omega⟩
  have hp6 : (p5 : Int) + 6 = ((p5 + 6 : Nat) : Int) := by omega
  rw [hp5, hp6] at hb3
  have hWr : iniL p5 (p5 + 6) sz l.H 0 = iniW l := by
    unfold iniW
    rw [hsz9, show (l.P.getD 5 0).toNat = p5 by omega, show (l.P.getD 6 0).toNat = p5 + 6 by omega]
  have hs6 : p5 + 6 + l.H.length ≤ sz := by omega
  have hir := fun h4 N4 (hW4 : WfH h4 N4) (k : Kept h3 h4) => refIni (O := OT) _ _ _ _ _ _ _ _ _ _ _ _ _ _ _ _ _ _ _ _ _ _ _ _ p5 (p5 + 6) sz _ _ _ _ l.H zb false h4 N4 hW4 (k _ _ hb3) (hH2.keep k) hbd rfl hs6 (by omega)
  rw [hWr] at hir
  generalize hWW : iniW l = W0 at *
  have hzP : ∀ h4, Kept h3 h4 → ∃ S, h4.get zb = some (.cells (PT.ofList .leaf 0 S) false) ∧ S[25]? = some (.int .i64 (sz : Int)) := fun h4 k => ⟨_, k _ _ hb3, by rw [hpe]; rfl⟩
  clear hb3 hH2 hbd hWr hs6 hp5 hp6 hp5l hp6l hlw hp7e hpe hll hlen6 f2 f2' f3 f3' f4 f4' f5 f5' hE n7 n7' n9 n9' hcv2
  repeat' first | simp (maxSteps := 2000000) (disch := first | omega | assumption | exact Kept.refl _) only [go_sem, *, Try.results8, iniS] | (first | apply xg1 | apply xc1 | apply xg2 | apply xc2 | apply xc3 | apply xc4 | apply xg3 | apply xg4) <;> intro _ | (first | apply xh1 | apply xh2 | apply xh3 | apply xh4) <;> intro _ | refine EvK_draw (id := 16) (L := w8_16) (by kernel_rfl) (by kernel_rfl) ?_ | refine EvK_draw (id := 17) (L := w8_17) (by kernel_rfl) (by kernel_rfl) ?_
  generalize hh4 : h3.set n3 _ = h4
  have e4 := get_of_set hh4
  have hW4 : WfH h4 (n3 + 1) := by rw [← hh4]; exact hW3.set (by omega) (by omega)
  have k34 : Kept h3 h4 := by rw [← hh4]; exact hW3.kept (Nat.le_refl _)
  have hmn := memNewB (O := OT) rfl rfl n3 sz W0 false h4 (n3 + 1) hW4 e4 (by omega) (by omega)
  rw [hWl] at hmn
  clear hh4
  repeat' first | simp (maxSteps := 2000000) (disch := first | omega | assumption | exact Kept.refl _) only [go_sem, *, Try.results8, iniS] | (first | apply xg1 | apply xc1 | apply xg2 | apply xc2 | apply xc3 | apply xc4 | apply xg3 | apply xg4) <;> intro _ | (first | apply xh1 | apply xh2 | apply xh3 | apply xh4) <;> intro _ | refine EvK_draw (id := 16) (L := w8_16) (by kernel_rfl) (by kernel_rfl) ?_ | refine EvK_draw (id := 17) (L := w8_17) (by kernel_rfl) (by kernel_rfl) ?_
  refine EvQ_call ?_ ?_ (by rw [hP, hO]; exact hmn.wf hW4) ?_
  · simp (maxSteps := 2000000) (disch := first | omega | assumption | exact Kept.refl _) only [go_sem, *]
  · simp (maxSteps := 2000000) (disch := first | omega | assumption | exact Kept.refl _) only [go_sem, *]
  rintro v h5 n5 ⟨⟨rfl, rfl, hm5, hw5, k45⟩, hn5, hW5⟩
  have k35 := k34.trans k45
  clear hmn e4 k34 k45 hW4
  have e5 := k35 _ _ e3
  repeat' first | simp (maxSteps := 2000000) (disch := first | omega | assumption | exact Kept.refl _) only [go_sem, *, Try.results8] | (first | apply xg1 | apply xc1 | apply xg2 | apply xc2 | apply xc3 | apply xc4 | apply xg3 | apply xg4) <;> intro _ | (first | apply xh1 | apply xh2 | apply xh3 | apply xh4) <;> intro _ | refine EvK_draw (id := 16) (L := w8_16) (by kernel_rfl) (by kernel_rfl) ?_ | refine EvK_draw (id := 17) (L := w8_17) (by kernel_rfl) (by kernel_rfl) ?_
  refine EvQ_call ?_ ?_ (by rw [hP, hO]; exact (hir _ _ hW5 k35).wf hW5) ?_
  · simp (maxSteps := 2000000) (disch := first | omega | assumption | exact Kept.refl _) only [go_sem, *]
  · simp (maxSteps := 2000000) (disch := first | omega | assumption | exact Kept.refl _) only [go_sem, *]
  rintro v h6 n6 ⟨⟨rfl, k56, rfl, hr6⟩, hn6, hW6⟩
  have k36 := k35.trans k56
  have hmr := rmemNewB (O := OT) _ sz W0 false h6 _ hW6 hr6 (by omega) (by omega)
  rw [hWl] at hmr
  have hm6 := k56 _ _ hm5
  have hw6 := k56 _ _ hw5
  clear hir hr6 hm5 hw5 k56 k35
  repeat' first | simp (maxSteps := 2000000) (disch := first | omega | assumption | exact Kept.refl _) only [go_sem, *, Try.results8] | (first | apply xg1 | apply xc1 | apply xg2 | apply xc2 | apply xc3 | apply xc4 | apply xg3 | apply xg4) <;> intro _ | (first | apply xh1 | apply xh2 | apply xh3 | apply xh4) <;> intro _ | refine EvK_draw (id := 16) (L := w8_16) (by kernel_rfl) (by kernel_rfl) ?_ | refine EvK_draw (id := 17) (L := w8_17) (by kernel_rfl) (by kernel_rfl) ?_
  refine EvQ_call ?_ ?_ (by rw [hP, hO]; exact hmr.wf hW6) ?_
  · simp (maxSteps := 2000000) (disch := first | omega | assumption | exact Kept.refl _) only [go_sem, *]
  · simp (maxSteps := 2000000) (disch := first | omega | assumption | exact Kept.refl _) only [go_sem, *]
  rintro v h7 n7 ⟨⟨rfl, rfl, hm7, hw7, k67⟩, hn7, hW7⟩
  have k37 := k36.trans k67
  have hm6' := k67 _ _ hm6
  have hw6' := k67 _ _ hw6
  have hMem : IsMem h7 (n3 + 1 + 1) (n3 + 1) W0 (.slice none 0 0) := ⟨by rw [hWl]; exact hm6', hw6'⟩
  obtain ⟨q0, q1, q2, q3, q4, q5, q6, q7, q8, hPL⟩ := hnum.PL
  have htn := towNewB (O := OT) rfl rfl rfl (n3 + 1 + 1) (n3 + 1) lb l W0 (.slice none 0 0) q0 q1 q2 q3 q4 q5 q6 q7 q8 h7 _ hW7 hMem (look_keep k37 hlk) (by rw [hWl]; exact hPL) (by omega)
  clear hm6 hw6 k67 k36 hmr hPL
  repeat' first | simp (maxSteps := 2000000) (disch := first | omega | assumption | exact Kept.refl _) only [go_sem, *, Try.results8] | (first | apply xg1 | apply xc1 | apply xg2 | apply xc2 | apply xc3 | apply xc4 | apply xg3 | apply xg4) <;> intro _ | (first | apply xh1 | apply xh2 | apply xh3 | apply xh4) <;> intro _ | refine EvK_draw (id := 16) (L := w8_16) (by kernel_rfl) (by kernel_rfl) ?_ | refine EvK_draw (id := 17) (L := w8_17) (by kernel_rfl) (by kernel_rfl) ?_
  refine EvQ_call ?_ ?_ (by rw [hP, hO]; exact htn.wf hW7) ?_
  · simp (maxSteps := 2000000) (disch := first | omega | assumption | exact Kept.refl _) only [go_sem, *]
  · simp (maxSteps := 2000000) (disch := first | omega | assumption | exact Kept.refl _) only [go_sem, *]
  rintro v h8 n8 ⟨⟨rfl, rfl, ht8, k78⟩, hn8, hW8⟩
  have k38 := k37.trans k78
  have hm8 := k78 _ _ hm7
  have hw8 := k78 _ _ hw7
  have hm8' := k78 _ _ hm6'
  have hw8' := k78 _ _ hw6'
  obtain ⟨S, hz8, hS⟩ := hzP _ k38
  have hrt := rtowNewB (O := OT) _ zb _ sz _ _ S h8 _ hW8 hm8 hz8 hS
  clear hm7 hw7 hm6' hw6' hMem htn k78 k37 hzP
  repeat' first | simp (maxSteps := 2000000) (disch := first | omega | assumption | exact Kept.refl _) only [go_sem, *, Try.results8] | (first | apply xg1 | apply xc1 | apply xg2 | apply xc2 | apply xc3 | apply xc4 | apply xg3 | apply xg4) <;> intro _ | (first | apply xh1 | apply xh2 | apply xh3 | apply xh4) <;> intro _ | refine EvK_draw (id := 16) (L := w8_16) (by kernel_rfl) (by kernel_rfl) ?_ | refine EvK_draw (id := 17) (L := w8_17) (by kernel_rfl) (by kernel_rfl) ?_
  refine EvQ_call ?_ ?_ (by rw [hP, hO]; exact hrt.wf hW8) ?_
  · simp (maxSteps := 2000000) (disch := first | omega | assumption | exact Kept.refl _) only [go_sem, *]
  · simp (maxSteps := 2000000) (disch := first | omega | assumption | exact Kept.refl _) only [go_sem, *]
  rintro v h9 n9 ⟨⟨rfl, rfl, k89⟩, hn9, hW9⟩
  have k39 := k38.trans k89
  have hm9 := k89 _ _ hm8
  have hw9 := k89 _ _ hw8
  have hm9' := k89 _ _ hm8'
  have hw9' := k89 _ _ hw8'
  have ht9 := k89 _ _ ht8
  clear hm8 hw8 hm8' hw8' ht8 hrt k89 k38 hz8 hS
  repeat' first | simp (maxSteps := 2000000) (disch := first | omega | assumption | exact Kept.refl _) only [go_sem, *, Try.results8] | (first | apply xg1 | apply xc1 | apply xg2 | apply xc2 | apply xc3 | apply xc4 | apply xg3 | apply xg4) <;> intro _ | (first | apply xh1 | apply xh2 | apply xh3 | apply xh4) <;> intro _ | refine EvK_draw (id := 16) (L := w8_16) (by kernel_rfl) (by kernel_rfl) ?_ | refine EvK_draw (id := 17) (L := w8_17) (by kernel_rfl) (by kernel_rfl) ?_
  have hst := hnum.sz1
  clear hn5 hW5 e5 hn6 hW6 hn7 hW7 hn8 hW8 hn9 hini2 hrl hva hvc hsz9 c2 hlbn
  generalize gN : n3 + 1 + 2 + 1 + 3 + 2 + 1 = Nb at *
  generalize gt : n3 + 1 + 2 + 1 + 3 + 1 = tb at *
  generalize gr : n3 + 1 + 2 + 1 + 3 + 2 = rt at *
  generalize grb : n3 + 1 + 2 + 1 + 2 = rb at *
  generalize grw : n3 + 1 + 2 + 1 + 1 = rwb at *
  generalize gmb : n3 + 1 + 1 = mb at *
  generalize gwb : n3 + 1 = wb at *
  have ord : n3 < wb ∧ wb < mb ∧ mb < rwb ∧ rwb < rb ∧ rb < tb ∧ tb < rt ∧ rt < Nb := by omega
  clear gN gt gr grb grw gmb gwb
  refine ind_loop (fun t m h' n' => ∃ (i : Nat) (W : List Int) (lg lg2 : Value), i ≤ ps.length ∧ t = ps.length - i ∧ W.length = sz ∧ (∀ x ∈ W, 0 ≤ x ∧ x < 18446744073709551616) ∧ (i = 0 → W = W0) ∧
    ((i ≤ 0 ∧ lg = .slice none 0 0 ∧ lg2 = .slice none 0 0) ∨ ∃ g g2 G G2, 0 < i ∧ lg = .slice (some ⟨g, 0, none⟩) i (capInf + 6) ∧ lg2 = .slice (some ⟨g2, 0, none⟩) i (capInf + 6) ∧ h'.get g = some (.cells (PT.ofList .leaf 0 G) false) ∧ h'.get g2 = some (.cells (PT.ofList .leaf 0 G2) false) ∧ G.length = i * 6 ∧ G2.length = i * 6 ∧ Nb ≤ g ∧ Nb ≤ g2 ∧ g ≠ g2) ∧
    m.n = 115 ∧ m.dfs = [] ∧ m.get 1 = .slice pa ps.length pc ∧ m.get 5 = .pointer (some ⟨lb, 0, none⟩) ∧ m.get 7 = .pointer (some ⟨zb, 0, none⟩) ∧ m.get 9 = .pointer (some ⟨mb, 0, none⟩) ∧ m.get 10 = .pointer (some ⟨rb, 0, none⟩) ∧ m.get 12 = .pointer (some ⟨tb, 0, none⟩) ∧ m.get 13 = .pointer (some ⟨rt, 0, none⟩) ∧ m.get 15 = .int .i64 i ∧
    h'.get mb = some (.cells (PT.ofList .leaf 0 [.slice (some ⟨wb, 0, none⟩) sz sz, lg]) false) ∧ h'.get wb = some (.cells (PT.ofList .leaf 0 (W.map (.int .u64))) false) ∧ h'.get rb = some (.cells (PT.ofList .leaf 0 [.slice (some ⟨rwb, 0, none⟩) sz (capInf + 1), lg2]) false) ∧ h'.get rwb = some (.cells (PT.ofList .leaf 0 (W.map (.int .u64))) false) ∧
    h'.get tb = some (.cells (PT.ofList .leaf 0 [.pointer (some ⟨mb, 0, none⟩), .pointer (some ⟨lb, 0, none⟩)]) false) ∧ Kept h3 h' ∧ WfH h' n' ∧ Nb ≤ n') ps.length ?_ ?_
  · refine ⟨0, W0, .slice none 0 0, .slice none 0 0, by omega, by omega, hWl, hWu, fun _ => rfl, .inl ⟨Nat.le_refl _, rfl, rfl⟩, ?_⟩
    clear hL hnum hlk
    simp (maxSteps := 2000000) (disch := first | omega | assumption | exact Kept.refl _) only [go_sem, *]
    try exact Nat.le_refl _
  · rintro t m h' n' ih ⟨i, W, lg, lg2, hi, rfl, wl, wu, w0, hlg, m1, m2, m3, m4, m5, m6, m7, m8, m9, m10, q1, q2, q3, q4, q5, q6, q7, q8⟩
    rcases Nat.lt_or_ge i ps.length with hlt | hge
    · have e7 : (i : Int) < ps.length := by omega
      obtain ⟨b, off, sp, L, ro, x, y, rfl, hb, hL1, hL2, hy0, hy1⟩ := hps i hlt
      have hbN := hW.lt hb
      have hbN3 := hW3.lt (k03 _ _ hb)
      have hb' := (k03.trans q6) _ _ hb
      obtain ⟨a0, a1⟩ := idx_range (i := x) (n := (sz : Int)) (by omega)
      have hix := idxS_eq (i := x) (n := (sz : Int)) (by omega) (by omega)
      obtain ⟨an, han⟩ : ∃ an : Nat, idx x sz = an := ⟨(idx x sz).toNat, by omega⟩
      rw [han] at a0 a1 hix
      have hal : an < W.length := by omega
      have hg := mapW_get hal
      have hms : (W.map (Value.int .u64)).set an (.int .u64 y) = (W.set an y).map (.int .u64) := by rw [List.map_set]
      have hci : ((i + 1 : Nat) : Int) = (i : Int) + 1 := by omega
      have hwu2 : ∀ v ∈ W.set an y, 0 ≤ v ∧ v < 18446744073709551616 := fun v hv => by
        rcases List.mem_or_eq_of_mem_set hv with q | rfl
        · exact wu v q
        · exact ⟨hy0, hy1⟩
      have hwl2 : (W.set an y).length = sz := by rw [List.length_set]; exact wl
      generalize W[an] = old at *
      generalize W.set an y = W2 at *
      clear hL hnum hlk hps hb wu w0 hWu hWl hok hm9 hw9 hm9' hw9' ht9 k39 e3 hW9
      have hne1 : ¬ wb = mb := by omega
      have hne2 : ¬ rwb = rb := by omega
      rcases hlg with ⟨hi0, rfl, rfl⟩ | ⟨g, g2, G, G2, hi0, rfl, rfl, g1, g2', g3, g4, g5, g6, g7⟩
      · repeat' first | simp (maxSteps := 2000000) (disch := first | omega | assumption | exact Kept.refl _) only [go_sem, *, Try.results8, storeS, rstoreS, stM, Int.toNat_natCast] | (first | apply xg1 | apply xc1 | apply xg2 | apply xc2 | apply xc3 | apply xc4 | apply xg3 | apply xg4) <;> intro _ | (first | apply xh1 | apply xh2 | apply xh3 | apply xh4) <;> intro _ | refine EvK_draw (id := 16) (L := w8_16) (by kernel_rfl) (by kernel_rfl) ?_ | refine EvK_draw (id := 17) (L := w8_17) (by kernel_rfl) (by kernel_rfl) ?_
        obtain rfl : i = 0 := by omega
        refine ih (ps.length - (0 + 1)) _ _ _ (by omega) ⟨0 + 1, W2, .slice (some ⟨n', 0, none⟩) (0 + 1) (capInf + 6), .slice (some ⟨n' + 1, 0, none⟩) (0 + 1) (capInf + 6), by omega, rfl, hwl2, hwu2, fun q => by omega, .inr ⟨n', n' + 1, acc 0 an old y, acc 0 an old y, by omega, rfl, rfl, ?_, ?_, rfl, rfl, by omega, by omega, by omega⟩, ?_⟩
        · clear ih; simp (maxSteps := 2000000) (disch := first | omega | assumption | exact Kept.refl _) only [go_sem, *]
        · clear ih; simp (maxSteps := 2000000) (disch := first | omega | assumption | exact Kept.refl _) only [go_sem, *]
        · rw [hci]
          clear ih
          simp (maxSteps := 2000000) (disch := first | omega | assumption | exact Kept.refl _) only [go_sem, *]
          refine ⟨?_, ?_, by omega⟩
          · repeat first | assumption | refine Kept.set' hW3 (by omega) ?_
          · exact WfH.set' (by omega) (WfH.set' (by omega) (WfH.set' (by omega) (WfH.set' (by omega) (WfH.set' (by omega) (q7.set (by omega) (by omega))))))
      · have hg1 : g ≠ mb ∧ g ≠ wb ∧ g ≠ rb ∧ g ≠ rwb ∧ g ≠ b ∧ g ≠ tb := by omega
        have hg2 : g2 ≠ mb ∧ g2 ≠ wb ∧ g2 ≠ rb ∧ g2 ≠ rwb ∧ g2 ≠ b ∧ g2 ≠ tb := by omega
        have hik : i ≤ 1000000 := by omega
        have hgn := q7.lt g1
        have hg2n := q7.lt g2'
        repeat' first | simp (maxSteps := 2000000) (disch := first | omega | assumption | exact Kept.refl _) only [go_sem, *, Try.results8, storeS, rstoreS, stM, Int.toNat_natCast] | (first | apply xg1 | apply xc1 | apply xg2 | apply xc2 | apply xc3 | apply xc4 | apply xg3 | apply xg4) <;> intro _ | (first | apply xh1 | apply xh2 | apply xh3 | apply xh4) <;> intro _ | refine EvK_draw (id := 16) (L := w8_16) (by kernel_rfl) (by kernel_rfl) ?_ | refine EvK_draw (id := 17) (L := w8_17) (by kernel_rfl) (by kernel_rfl) ?_
        refine ih (ps.length - (i + 1)) _ _ _ (by omega) ⟨i + 1, W2, .slice (some ⟨n', 0, none⟩) (i + 1) (capInf + 6), .slice (some ⟨n' + 1, 0, none⟩) (i + 1) (capInf + 6), by omega, rfl, hwl2, hwu2, fun q => by omega, .inr ⟨n', n' + 1, G ++ acc 0 an old y, G2 ++ acc 0 an old y, by omega, rfl, rfl, ?_, ?_, by rw [List.length_append, g3]; simp only [acc, List.length_cons, List.length_nil]; omega, by rw [List.length_append, g4]; simp only [acc, List.length_cons, List.length_nil]; omega, by omega, by omega, by omega⟩, ?_⟩
        · clear ih; simp (maxSteps := 2000000) (disch := first | omega | assumption | exact Kept.refl _) only [go_sem, *]
        · clear ih; simp (maxSteps := 2000000) (disch := first | omega | assumption | exact Kept.refl _) only [go_sem, *]
        · rw [hci]
          clear ih
          simp (maxSteps := 2000000) (disch := first | omega | assumption | exact Kept.refl _) only [go_sem, *]
          refine ⟨?_, ?_, by omega⟩
          · repeat first | assumption | refine Kept.set' hW3 (by omega) ?_
          · repeat refine WfH.set' (by omega) ?_
            exact q7.mono (by omega)
    · have e7 : ¬ (i : Int) < ps.length := by omega
      obtain rfl : i = ps.length := by omega
      have hL' := (hL.keep q6).keep (q7.kept (Nat.le_refl _) (b := some (.cells (PT.ofList .leaf 0 [.pointer (some ⟨lb, 0, none⟩), .pointer (some ⟨mb, 0, none⟩), .pointer (some ⟨tb, 0, none⟩), .pointer (some ⟨zb, 0, none⟩), .pointer (some ⟨rb, 0, none⟩), .pointer (some ⟨rt, 0, none⟩)]) false)))
      obtain ⟨_, _, hlbr⟩ := rdL_get hlk
      have hlbn := hW3.lt hlbr
      clear ih hps hlk
      repeat' first | simp (maxSteps := 2000000) (disch := first | omega | assumption | exact Kept.refl _) only [go_sem, *, Try.results8] | (first | apply xg1 | apply xc1 | apply xg2 | apply xc2 | apply xc3 | apply xc4 | apply xg3 | apply xg4) <;> intro _ | (first | apply xh1 | apply xh2 | apply xh3 | apply xh4) <;> intro _ | refine EvK_draw (id := 16) (L := w8_16) (by kernel_rfl) (by kernel_rfl) ?_ | refine EvK_draw (id := 17) (L := w8_17) (by kernel_rfl) (by kernel_rfl) ?_
      refine ⟨n', lb, mb, wb, tb, l, gb, cv, W, lg, sz, h3, n3, rfl, hL', hnum, ⟨⟨zb, rb, rt, heap_same⟩, by rw [heap_ne (by omega)]; exact q5, ⟨by rw [heap_ne (by omega), wl]; exact q1, by rw [heap_ne (by omega)]; exact q2⟩, wu⟩, ?_, wl, fun e => by rw [w0 (by rw [e]; rfl), hWW], Kept.set' hW (by omega) (k03.trans q6), by omega, by omega, by omega, by omega, by omega, Kept.set' hW3 (by omega) q6, hW3, by omega, hlbn, hL, k03⟩
      rcases hlg with ⟨hi0, rfl, rfl⟩ | ⟨g, g2, G, G2, hi0, rfl, rfl, g1, g2', g3, g4, g5, g6, g7⟩
      · exact .inl ⟨by omega, rfl⟩
      · have hgn := q7.lt g1
        exact .inr ⟨g, G, rfl, by rw [heap_ne (by omega)]; exact g1, g3, by omega, hi0⟩
theorem beginB (th sl en bu kd dn t0 t1 t2 t3 t4 t5 lo tr ba : Int) (pv : Value) (ps : List (Int × Int)) (h : PT ABlk) (N : Nat) (hW : WfH h N) (hps : IsPuts h pv ps) (hpl : ps.length ≤ 300) (hok : cfgOk th sl en bu kd dn t0 t1 t2 t3 t4 t5 lo tr ba [] = true) :
    EvB Try.prog OT 8 [.agg ⟨[.int .i64 th, .int .i64 sl, .int .u8 en, .int .i64 bu, .int .u8 kd, .int .i64 dn, .slice none 0 0, .int .i64 t0, .int .i64 t1, .int .i64 t2, .int .i64 t3, .int .i64 t4, .int .i64 t5, .int .i64 lo, .int .i64 tr, .int .i64 ba]⟩, pv] h N
      fun v h' n' => ∃ xb lb mb wb tb l gb cv W lg sz, v = .pointer (some ⟨xb, 0, none⟩) ∧ NewL th sl en bu kd dn t0 t1 t2 t3 t4 t5 lo tr ba [] h' lb l gb cv ∧ NumL l (domCount kd dn []) sz ∧ IsWorld h' xb lb mb wb tb l W lg ∧ IsLog h' (tb + 1) lg ps.length ∧ W.length = sz ∧ (ps = [] → W = iniW l) ∧ Kept h h' ∧ N ≤ lb ∧ lb < wb ∧ wb < mb ∧ mb < tb ∧ tb < xb :=
  (beginB2 th sl en bu kd dn t0 t1 t2 t3 t4 t5 lo tr ba pv ps h N hW hps hpl hok).mono fun v h' n' ⟨xb, lb, mb, wb, tb, l, gb, cv, W, lg, sz, hB, nB, a1, a2, a3, a4, a5, a6, a7, a8, a9, b1, b2, b3, b4, b5⟩ => ⟨xb, lb, mb, wb, tb, l, gb, cv, W, lg, sz, a1, a2, a3, a4, a5, a6, a7, a8, a9, b1, b2, b3, b4⟩
end Go.Proofs.Ytapcgfakefmemaa
