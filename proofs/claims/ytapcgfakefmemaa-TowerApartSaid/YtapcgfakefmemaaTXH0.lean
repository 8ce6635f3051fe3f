/-
  A part of the proof: contracts of inner functions.
-/
import Derived.Test.YtapcgfakefmemaaTXF
import Derived.Test.YtapcgfakefmemaaAmU5
set_option linter.unusedVariables false
set_option linter.unusedSimpArgs false
namespace Go.Proofs.Ytapcgfakefmemaa
open Go.Am
theorem layCfg : ∀ n : Nat, n < 42 → cfgOk 4 2 1 0 1 0 n 0 0 0 0 0 2 3 0 [] = true := by decide
theorem layHts : ∀ n : Nat, n < 42 → hts 1 [(n : Int), 0, 0, 0, 0, 0] = List.replicate n 1 := by decide
def stW (W : List Int) (a0 a1 a4 : Nat) (x0 x1 x4 : Int) : Nat → List Int
  | 0 => W
  | 1 => W.set a0 x0
  | 2 => (W.set a0 x0).set a1 x1
  | _ => ((W.set a0 x0).set a1 x1).set a4 x4
theorem stW_len (W : List Int) (a0 a1 a4 : Nat) (x0 x1 x4 : Int) : ∀ j, (stW W a0 a1 a4 x0 x1 x4 j).length = W.length
  | 0 => rfl
  | 1 => by simp only [stW, List.length_set]
  | 2 => by simp only [stW, List.length_set]
  | j + 3 => by simp only [stW, List.length_set]
theorem WrS.keep {hB h h' : PT ABlk} {nB xb lb mb wb tb zb rb rt k : Nat} {l : LayV} {W : List Int} (S : WrS hB nB xb lb mb wb tb zb rb rt l W k h) (q : Kept h h') : WrS hB nB xb lb mb wb tb zb rb rt l W k h' := by
  obtain ⟨s1, s2, s3, ⟨lg, hM, hlg⟩, s5⟩ := S
  refine ⟨s1.trans q, q _ _ s2, q _ _ s3, ⟨lg, hM.keep q, ?_⟩, s5⟩
  rcases hlg with e | ⟨g, G, e1, e2, e3⟩
  · exact .inl e
  · exact .inr ⟨g, G, e1, q _ _ e2, e3⟩
theorem OpS.keep {mb tb b4 b3 p1 p2 off j : Nat} {th n : Int} {L : List Value} {h h' : PT ABlk} (Q : OpS mb tb b4 b3 p1 p2 th n L off j h) (q : Kept h h') : OpS mb tb b4 b3 p1 p2 th n L off j h' := ⟨q _ _ Q.obj, q _ _ Q.left, q _ _ Q.cap1, q _ _ Q.cap2⟩
theorem wr_step {l : LayV} {n : Int} {k v st : Int} {W : List Int} {a0 a1 a4 sz : Nat} (e0 : wrdA l n 0 = a0) (e1 : wrdA l n 1 = a1) (e4 : wrdA l n 4 = a4) (h0 : a0 < sz) (h1 : a1 < sz) (h4 : a4 < sz) : ∀ j, j < 3 → ∃ pc w x a, ((wrL k v st).drop (min (3 * j) 6)).take 3 = [.int .u8 pc, .int .i64 w, .int .u64 x] ∧ wrdA l n w = (a : Nat) ∧ a < sz ∧ stW W a0 a1 a4 k v st (j + 1) = (stW W a0 a1 a4 k v st j).set a x
  | 0, _ => ⟨9, 0, k, a0, rfl, e0, h0, rfl⟩
  | 1, _ => ⟨10, 1, v, a1, rfl, e1, h1, rfl⟩
  | 2, _ => ⟨11, 4, st, a4, rfl, e4, h4, rfl⟩
  | j + 3, h => by omega
set_option maxRecDepth 100000 in
set_option maxHeartbeats 8000000 in
theorem layB (s : Value) (C : List CellT) (h : PT ABlk) (N : Nat) (hW : WfH h N) (hs : IsCells h s C) (hn : C.length < 42) (hC : ∀ j, j < C.length → CellOk (cel C j)) :
    EvB Try.prog OT 17 [s] h N fun v h' n' => ∃ xb lb mb wb tb zb rb rt l W gb cv hB nB sz, v = .pointer (some ⟨xb, 0, none⟩) ∧ NewL 4 2 1 0 1 0 C.length 0 0 0 0 0 2 3 0 [] hB lb l gb cv ∧ One l C.length sz ∧ WfH hB nB ∧ Kept h hB ∧ WrS hB nB xb lb mb wb tb zb rb rt l W (5 * C.length) h' ∧ Laid l W C C.length sz C.length ∧ l.P.getD 4 0 + 2 ≤ l.P.getD 5 0 := by
  obtain ⟨a, cap, rfl, hA⟩ := hs
  have hcl := celL_length C
  have hcfg := layCfg _ hn
  have hhts := layHts _ hn
  have hnil : ∀ h : PT ABlk, IsPuts h (.slice none 0 0) [] := fun h => ⟨none, 0, rfl, fun i hi => by simp at hi⟩
  refine EvB_run (N := 120) Try.func17 rfl rfl fun z hP hO hro hN hQ => ?_
  repeat' first | simp (maxSteps := 2000000) (disch := first | omega | (repeat first | assumption | exact Kept.refl _ | refine Kept.set' (by assumption) ?_ ?_ | refine Kept.set (by assumption) ?_ ?_ | omega)) only [go_sem, *, Try.results17] | (first | apply xg1 | apply xc1 | apply xg2 | apply xc2 | apply xc3 | apply xc4 | apply xg3 | apply xg4) <;> intro _ | (first | apply xh1 | apply xh2 | apply xh3 | apply xh4) <;> intro _ | refine EvK_draw (id := 10) (L := w17_10) (by kernel_rfl) (by kernel_rfl) ?_ | refine EvK_draw (id := 19) (L := w17_19) (by kernel_rfl) (by kernel_rfl) ?_
  generalize hh1 : ((h.set N _).set N _).set N _ = h1
  have hW1 : WfH h1 (N + 1) := by rw [← hh1]; exact WfH.set' (by omega) (WfH.set' (by omega) (hW.set (by omega) (by omega)))
  have k1 : Kept h h1 := by rw [← hh1]; exact Kept.set' hW (by omega) (Kept.set' hW (by omega) (hW.kept (Nat.le_refl _)))
  clear hh1
  refine EvQ_call ?_ ?_ (by rw [hP, hO]; exact (beginB2 4 2 1 0 1 0 C.length 0 0 0 0 0 2 3 0 _ [] _ _ hW1 (hnil _) (by decide) hcfg).wf hW1) ?_
  · simp (maxSteps := 2000000) (disch := first | omega | (repeat first | assumption | exact Kept.refl _ | refine Kept.set' (by assumption) ?_ ?_ | refine Kept.set (by assumption) ?_ ?_ | omega)) only [go_sem, *]
  · simp (maxSteps := 2000000) (disch := first | omega | (repeat first | assumption | exact Kept.refl _ | refine Kept.set' (by assumption) ?_ ?_ | refine Kept.set (by assumption) ?_ ?_ | omega)) only [go_sem, *]
  rintro v h2 n2 ⟨⟨xb, lb, mb, wb, tb, l, gb, cv, W, lg, sz, hB, nB, rfl, -, hnum, hw, hlg, hWl, hini, k2, o1, o2, o3, o4, o5, kB2, hWB, onB, olB, hLB, k1B⟩, hn2, hW2⟩
  obtain ⟨⟨zb, rb, rt, wr⟩, wt, wm, wu⟩ := hw
  obtain rfl := hini rfl
  obtain rfl : lg = .slice none 0 0 := by
    rcases hlg with ⟨_, e⟩ | ⟨_, _, _, _, _, _, e⟩
    · exact e
    · simp at e
  replace k1B := k1.trans k1B
  have hone : One l C.length sz := ⟨hnum, by rw [hLB.H, hhts]⟩
  have h45 : 0 ≤ l.P.getD 4 0 ∧ l.P.getD 4 0 + 2 ≤ l.P.getD 5 0 := by
    have hf := cfgOk_facts hLB.ok
    obtain ⟨-, ⟨f2, f2'⟩, ⟨f3, f3'⟩, ⟨f4, f4'⟩, ⟨f5, f5'⟩, -, -, -⟩ := hf
    have hE := engW_bound (en := 1) f3 f3' f4 f4'
    rw [hLB.P]; simp only [placesOf, List.getD_cons_succ, List.getD_cons_zero]; omega
  have S0 : WrS hB nB xb lb mb wb tb zb rb rt l (iniW l) 0 h2 := ⟨kB2, wr, wt, ⟨_, wm, .inl ⟨Nat.le_refl _, rfl⟩⟩, ⟨onB, o3, o4, o5⟩⟩
  have L0 := laid_zero hone h45.1 C
  have hlkB := hLB.look
  have hxb := hW2.lt wr
  clear hnil hcfg hhts hlg hini wm wt wu
  repeat' first | simp (maxSteps := 2000000) (disch := first | omega | (repeat first | assumption | exact Kept.refl _ | refine Kept.set' (by assumption) ?_ ?_ | refine Kept.set (by assumption) ?_ ?_ | omega)) only [go_sem, *, Try.results17] | (first | apply xg1 | apply xc1 | apply xg2 | apply xc2 | apply xc3 | apply xc4 | apply xg3 | apply xg4) <;> intro _ | (first | apply xh1 | apply xh2 | apply xh3 | apply xh4) <;> intro _ | refine EvK_draw (id := 10) (L := w17_10) (by kernel_rfl) (by kernel_rfl) ?_ | refine EvK_draw (id := 19) (L := w17_19) (by kernel_rfl) (by kernel_rfl) ?_
  refine ind_loop (fun t m h' n' => ∃ (i : Nat) (W : List Int) (bf : Int), i ≤ C.length ∧ t = C.length - i ∧ bf = (if i = 0 then -1 else (i : Int)) ∧ m.n = 120 ∧ m.dfs = [] ∧ m.get 0 = .slice a C.length cap ∧ m.get 4 = .pointer (some ⟨xb, 0, none⟩) ∧ m.get 5 = .int .i64 bf ∧ m.get 6 = .int .i64 i ∧ WrS hB nB xb lb mb wb tb zb rb rt l W (5 * i) h' ∧ Laid l W C C.length sz i ∧ WfH h' n' ∧ xb < n') C.length ?_ ?_
  · refine ⟨0, iniW l, -1, by omega, by omega, rfl, ?_⟩
    simp (maxSteps := 2000000) (disch := first | omega | (repeat first | assumption | exact Kept.refl _ | refine Kept.set' (by assumption) ?_ ?_ | refine Kept.set (by assumption) ?_ ?_ | omega)) only [go_sem, *]
  · clear S0 L0 hW2
    rintro t m h' n' ih ⟨i, W, bf, hi, rfl, hbf, m1, m2, m3, m4, m5, m6, S1, L1, q4, q5⟩
    by_cases hlt : i < C.length
    · obtain ⟨g, ro, rfl, hg⟩ := hA i hlt
      have hg' := (k1B.trans S1.kept) _ _ hg
      have hgB := k1B _ _ hg
      have hgN := hW.lt hg
      have e7 : (i : Int) < C.length := by omega
      have ci : ((i + 1 : Nat) : Int) = (i : Int) + 1 := by omega
      have w1 : IntKind.u64.wrap ((i : Int) + 1) = (i : Int) + 1 := wrap_u64 (by omega) (by omega)
      have w2 : IntKind.u64.wrap (10 * ((i : Int) + 1)) = 10 * ((i : Int) + 1) := wrap_u64 (by omega) (by omega)
      have c0 := celL_get C i 0 hlt (by omega)
      have c1 := celL_get C i 1 hlt (by omega)
      have cw := celL_at C i hlt
      have hble : Nat.ble (i * 5 + 5) (C.length * 5) = true := Nat.ble_eq_true_of_le (by omega)
      have hCi := hC i hlt
      have hLs := fun (W' : List Int) (L : Laid l W' C C.length sz i) {a0 a1 a2 a4 ab : Nat} e0 e1 e2 e4 eb => laid_step (a0 := a0) (a1 := a1) (a2 := a2) (a4 := a4) (ab := ab) hone (by omega) hCi L hlt e0 e1 e2 e4 eb
      have hlk := look_keep S1.kept hlkB
      have hrl := fun h' hk z L f d ops r K m n lo rd wr fs => @EvX_look _ _ _ _ h' hlk z L f d ops r K m n lo rd wr fs hk
      have s2 := S1.row
      have s3 := S1.tow
      have hl := hone.len
      unfold CellT.st at hLs
      generalize cel C i = c at *
      obtain ⟨v, al, k, e, gg⟩ := c
      obtain ⟨u1, u2, ⟨k0, _⟩, ⟨e0, _⟩, ⟨gg0, _⟩⟩ := hCi
      simp only at u1 u2 k0 e0 gg0 hLs
      obtain ⟨t1, t2, -⟩ := stOf_facts k0 e0 gg0
      have hdc : @decide (WrOk false 0 ((i : Int) + 1) l (stOf k e gg)) (Classical.propDecidable _) = true := @decide_eq_true _ (Classical.propDecidable _) ⟨rfl, by omega, by omega, t2, t1⟩
      simp only [celV, List.getElem?_cons_zero, List.getElem?_cons_succ] at c0 c1 cw
      rw [Nat.add_zero] at c0
      clear hA hC hg
      repeat' first | simp (maxSteps := 2000000) (disch := first | omega | (repeat first | assumption | exact Kept.refl _ | refine Kept.set' (by assumption) ?_ ?_ | refine Kept.set (by assumption) ?_ ?_ | omega)) only [go_sem, *, Try.results17, stateS, writeS] | (first | apply xg1 | apply xc1 | apply xg2 | apply xc2 | apply xc3 | apply xc4 | apply xg3 | apply xg4) <;> intro _ | (first | apply xh1 | apply xh2 | apply xh3 | apply xh4) <;> intro _ | refine EvK_draw (id := 10) (L := w17_10) (by kernel_rfl) (by kernel_rfl) ?_ | refine EvK_draw (id := 19) (L := w17_19) (by kernel_rfl) (by kernel_rfl) ?_
      generalize hh3 : (((h'.set n' _).set (n' + 1) _).set (n' + 1 + 1) _).set (n' + 1 + 1 + 1) _ = h3
      have k3 : Kept h' h3 := by rw [← hh3]; exact Kept.set' q4 (by omega) (Kept.set' q4 (by omega) (Kept.set' q4 (by omega) (q4.kept (Nat.le_refl _))))
      have W3 : WfH h3 (n' + 1 + 1 + 1 + 1) := by rw [← hh3]; exact WfH.set' (by omega) (WfH.set' (by omega) (WfH.set' (by omega) (q4.set (by omega) (by omega))))
      have Q3 : OpS mb tb (n' + 1 + 1 + 1) (n' + 1 + 1) n' (n' + 1) 0 ((i : Int) + 1) (wrL (10 * ((i : Int) + 1)) v (stOf k e gg)) 0 3 h3 := by
        rw [← hh3]
        exact ⟨by simp (disch := omega) only [heap_ne, heap_same], by simp (disch := omega) only [heap_ne, heap_same], by simp (disch := omega) only [heap_ne, heap_same], by simp (disch := omega) only [heap_ne, heap_same]⟩
      have S3 := S1.keep k3
      clear hh3 k3 S1 hlk hrl s2 s3 hdc hg' c0 cw
      have p8 := hone.p8
      have p7 := hone.p7
      have hend := hone.end
      have hsz := L1.len
      have hn1 := hone.n1
      obtain ⟨a0, ea0⟩ : ∃ a0 : Nat, l.P.getD 8 0 + 6 * (i : Int) = a0 := ⟨(l.P.getD 8 0 + 6 * (i : Int)).toNat, by omega⟩
      have f0 := (hone.wrd hlt (w := 0) (by omega) (by omega)).1
      have f1 := (hone.wrd hlt (w := 1) (by omega) (by omega)).1
      have f4 := (hone.wrd hlt (w := 4) (by omega) (by omega)).1
      obtain ⟨f2, f2'⟩ := hone.wrd hlt (w := 2) (by omega) (by omega)
      rw [ea0] at f0 f1 f2 f4
      have hws := @wr_step l ((i : Int) + 1) (10 * ((i : Int) + 1)) v (stOf k e gg) W a0 (a0 + 1) (a0 + 4) sz (by omega) (by omega) (by omega) (by omega) (by omega) (by omega)
      refine ind_loop (fun t m h' nn => ∃ j, j ≤ 3 ∧ t = 3 - j ∧ m.n = 120 ∧ m.dfs = [] ∧ m.get 0 = .slice (some ⟨g, 0, none⟩) C.length cap ∧ m.get 4 = .pointer (some ⟨xb, 0, none⟩) ∧ m.get 5 = .int .i64 bf ∧ m.get 6 = .int .i64 i ∧ m.get 7 = .pointer (some ⟨n' + 1 + 1 + 1, 0, none⟩) ∧ m.get 9 = .int .i64 j ∧ WrS hB nB xb lb mb wb tb zb rb rt l (stW W a0 (a0 + 1) (a0 + 4) (10 * ((i : Int) + 1)) v (stOf k e gg) j) (5 * i + j) h' ∧
        OpS mb tb (n' + 1 + 1 + 1) (n' + 1 + 1) n' (n' + 1) 0 ((i : Int) + 1) (wrL (10 * ((i : Int) + 1)) v (stOf k e gg)) (min (3 * j) 6) (3 - j) h' ∧ WfH h' nn ∧ xb < nn) 3 ?_ ?_
      · refine ⟨0, by omega, by omega, ?_⟩
        clear ih hLs hws
        simp (maxSteps := 2000000) (disch := first | omega | (repeat first | assumption | exact Kept.refl _ | refine Kept.set' (by assumption) ?_ ?_ | refine Kept.set (by assumption) ?_ ?_ | omega)) only [go_sem, *]
        first | exact ⟨S3, Q3, by omega⟩ | exact ⟨S3, Q3⟩
      · clear S3 Q3 W3 m1 m2 m3 m4 m5 m6
        rintro t m hx nx ih2 ⟨j, hj, rfl, m1, m2, m3, m4, m5, m6, m7, m8, S4, Q4, q6, q7⟩
        by_cases hj3 : j < 3
        · obtain ⟨pc, w, x, a, r1, r2, r3, r4⟩ := hws j hj3
          have e8 : (j : Int) < 3 := by omega
          have cj : ((j + 1 : Nat) : Int) = (j : Int) + 1 := by omega
          have hsl := stW_len W a0 (a0 + 1) (a0 + 4) (10 * ((i : Int) + 1)) v (stOf k e gg) j
          have hB3 := stepB (O := OT) rfl rfl hWB hlkB q6 S4 (by omega) Q4 (by omega) (by omega) (by omega) rfl pc w x r1 (by omega) a r2 (by omega)
          rw [← r4, show 3 - j - 1 = 3 - (j + 1) by omega, show (if 3 - j = 1 then min (3 * j) 6 else min (3 * j) 6 + 3) = min (3 * (j + 1)) 6 by split <;> omega] at hB3
          clear hws hLs ih
          repeat' first | simp (maxSteps := 2000000) (disch := first | omega | (repeat first | assumption | exact Kept.refl _ | refine Kept.set' (by assumption) ?_ ?_ | refine Kept.set (by assumption) ?_ ?_ | omega)) only [go_sem, *, Try.results17] | (first | apply xg1 | apply xc1 | apply xg2 | apply xc2 | apply xc3 | apply xc4 | apply xg3 | apply xg4) <;> intro _ | (first | apply xh1 | apply xh2 | apply xh3 | apply xh4) <;> intro _ | refine EvK_draw (id := 10) (L := w17_10) (by kernel_rfl) (by kernel_rfl) ?_ | refine EvK_draw (id := 19) (L := w17_19) (by kernel_rfl) (by kernel_rfl) ?_
          refine EvQ_call ?_ ?_ (by rw [hP, hO]; exact hB3) ?_
          · simp (maxSteps := 2000000) (disch := first | omega | (repeat first | assumption | exact Kept.refl _ | refine Kept.set' (by assumption) ?_ ?_ | refine Kept.set (by assumption) ?_ ?_ | omega)) only [go_sem, *]
          · simp (maxSteps := 2000000) (disch := first | omega | (repeat first | assumption | exact Kept.refl _ | refine Kept.set' (by assumption) ?_ ?_ | refine Kept.set (by assumption) ?_ ?_ | omega)) only [go_sem, *]
          clear S4 Q4 q6 hB3
          rintro r hy ny ⟨rfl, S4, Q4, q6, q8, -⟩
          repeat' first | simp (maxSteps := 2000000) (disch := first | omega | (repeat first | assumption | exact Kept.refl _ | refine Kept.set' (by assumption) ?_ ?_ | refine Kept.set (by assumption) ?_ ?_ | omega)) only [go_sem, *, Try.results17] | (first | apply xg1 | apply xc1 | apply xg2 | apply xc2 | apply xc3 | apply xc4 | apply xg3 | apply xg4) <;> intro _ | (first | apply xh1 | apply xh2 | apply xh3 | apply xh4) <;> intro _ | refine EvK_draw (id := 10) (L := w17_10) (by kernel_rfl) (by kernel_rfl) ?_ | refine EvK_draw (id := 19) (L := w17_19) (by kernel_rfl) (by kernel_rfl) ?_
          refine ih2 (3 - (j + 1)) _ _ _ (by omega) ⟨j + 1, by omega, rfl, ?_⟩
          rw [cj]
          clear ih2
          simp (maxSteps := 2000000) (disch := first | omega | (repeat first | assumption | exact Kept.refl _ | refine Kept.set' (by assumption) ?_ ?_ | refine Kept.set (by assumption) ?_ ?_ | omega)) only [go_sem, *]
          first | exact ⟨by rw [r4] at S4; exact S4, by omega⟩ | exact (by rw [r4] at S4; exact S4)
        · have e8 : ¬ (j : Int) < 3 := by omega
          obtain rfl : j = 3 := by omega
          have hsl := stW_len W a0 (a0 + 1) (a0 + 4) (10 * ((i : Int) + 1)) v (stOf k e gg) 3
          obtain ⟨ab, eab⟩ : ∃ ab : Nat, befA l i = ab := ⟨(befA l i).toNat, by unfold befA; split <;> omega⟩
          have hL5 := hLs W L1 (a0 := a0) (a1 := a0 + 1) (a2 := a0 + 2) (a4 := a0 + 4) (ab := ab) (by omega) (by omega) (by omega) (by omega) eab
          have hab : ab < sz := by unfold befA at eab; split at eab <;> omega
          obtain ⟨hnx, hnx'⟩ : nxtA l bf 0 = ab ∧ nxtE l bf 0 = 0 := by
            by_cases q : i = 0
            · subst q
              unfold befA at eab
              rw [if_pos rfl] at eab hbf
              subst hbf
              exact ⟨by rw [hone.hd.1, eab], hone.hd.2⟩
            · have q1 := hone.nxt (j := i - 1) (by omega)
              rw [show ((i - 1 : Nat) : Int) + 1 = i by omega, show ((i - 1 : Nat) : Int) = (i : Int) - 1 by omega] at q1
              unfold befA at eab
              rw [if_neg q] at eab hbf
              subst hbf
              exact ⟨by rw [q1.1, eab], q1.2⟩
          obtain ⟨s1, s2, s3, ⟨lg, ⟨hMr, hMw⟩, hlg⟩, s5⟩ := S4
          obtain ⟨g9, G, rfl, z1, z2, z3, z4⟩ : ∃ g9 G, lg = .slice (some ⟨g9, 0, none⟩) (5 * i + 3) (capInf + 6) ∧ hx.get g9 = some (.cells (PT.ofList .leaf 0 G) false) ∧ G.length = (5 * i + 3) * 6 ∧ 0 < 5 * i + 3 ∧ xb < g9 := by
            rcases hlg with ⟨q, _⟩ | q
            · omega
            · exact q
          have hgx := s1 _ _ hgB
          have hlk := look_keep s1 hlkB
          have hrl := fun h' hk z f d ops r K m n => @EvV_look _ _ _ _ h' hlk z f d ops r K m n hk
          have f2c : wrdA l ((i : Int) + 1) 2 = ((a0 + 2 : Nat) : Int) := by omega
          change Laid l (((stW W a0 (a0 + 1) (a0 + 4) (10 * ((i : Int) + 1)) v (stOf k e gg) 3).set (a0 + 2) al).set ab ((i : Int) + 1)) C C.length sz (i + 1) at hL5
          generalize stW W a0 (a0 + 1) (a0 + 4) (10 * ((i : Int) + 1)) v (stOf k e gg) 3 = Wj at *
          have hg1 := mapW_get (W := Wj) (i := a0 + 2) (by omega)
          have hm1 : (Wj.map (Value.int .u64)).set (a0 + 2) (.int .u64 al) = (Wj.set (a0 + 2) al).map (.int .u64) := by rw [List.map_set]
          have hl6 : (Wj.set (a0 + 2) al).length = Wj.length := List.length_set
          have hg2 := mapW_get (W := Wj.set (a0 + 2) al) (i := ab) (by omega)
          have hm2 : ((Wj.set (a0 + 2) al).map (Value.int .u64)).set ab (.int .u64 ((i : Int) + 1)) = ((Wj.set (a0 + 2) al).set ab ((i : Int) + 1)).map (.int .u64) := by simp only [List.map_set]
          have hl7 : ((Wj.set (a0 + 2) al).set ab ((i : Int) + 1)).length = Wj.length := by rw [List.length_set]; exact hl6
          generalize Wj[a0 + 2]'_ = old1 at *
          generalize (Wj.set (a0 + 2) al)[ab]'_ = old2 at *
          generalize (Wj.set (a0 + 2) al).set ab ((i : Int) + 1) = W7 at *
          generalize Wj.set (a0 + 2) al = W6 at *
          have y1 : (0 : Int) ≤ ((a0 + 2 : Nat) : Int) := by omega
          have y2 : ((a0 + 2 : Nat) : Int) < (Wj.length : Int) := by omega
          have y3 : (0 : Int) ≤ (ab : Int) := by omega
          have y4 : (ab : Int) < (Wj.length : Int) := by omega
          have y5 : 5 * i + 3 ≤ 1000000 := by omega
          have y6 : 5 * i + 3 + 1 ≤ 1000000 := by omega
          have d1 : g9 ≠ mb ∧ g9 ≠ wb := by omega
          have d3 : ¬ wb = mb := by omega
          have n9 := q6.lt z1
          have nm := q6.lt hMr
          have nw := q6.lt hMw
          clear f0 f1 f2 f4 hend p8 p7 ea0 eab hbf hn1 hsz L1 hsl
          generalize hA2 : a0 + 2 = A2 at *
          have v1 : 0 < 5 * i + 3 + 1 := by omega
          have v2 : (5 * i + 3) * 6 + (acc 0 (A2 : Int) old1 al).length = (5 * i + 3 + 1) * 6 := by simp only [acc, List.length_cons, List.length_nil]; omega
          have d5 : ¬ nx = mb := by omega
          have d6 : ¬ nx = wb := by omega
          clear ih2 hws Q4 hLs hA2
          repeat' first | simp (maxSteps := 2000000) (disch := first | omega | (repeat first | assumption | exact Kept.refl _ | refine Kept.set' (by assumption) ?_ ?_ | refine Kept.set (by assumption) ?_ ?_ | omega)) only [go_sem, *, Try.results17, storeS, stM, wordS, wordV, nextS, nextV, Int.toNat_natCast] | (first | apply xg1 | apply xc1 | apply xg2 | apply xc2 | apply xc3 | apply xc4 | apply xg3 | apply xg4) <;> intro _ | (first | apply xh1 | apply xh2 | apply xh3 | apply xh4) <;> intro _ | refine EvK_draw (id := 10) (L := w17_10) (by kernel_rfl) (by kernel_rfl) ?_ | refine EvK_draw (id := 19) (L := w17_19) (by kernel_rfl) (by kernel_rfl) ?_
          refine ih (C.length - (i + 1)) _ _ _ (by omega) ⟨i + 1, W7, (i : Int) + 1, by omega, rfl, by rw [if_neg (by omega)]; omega, ?_⟩
          rw [ci, show 5 * (i + 1) = 5 * i + 3 + 1 + 1 by omega]
          clear ih hrl hlk
          simp (maxSteps := 2000000) (disch := first | omega | (repeat first | assumption | exact Kept.refl _ | refine Kept.set' (by assumption) ?_ ?_ | refine Kept.set (by assumption) ?_ ?_ | omega)) only [go_sem, *]
          refine ⟨⟨by repeat (first | exact s1 | refine Kept.set' hWB (by omega) ?_), by simp (disch := omega) only [heap_ne]; exact s2, by simp (disch := omega) only [heap_ne]; exact s3, ⟨_, ⟨by rw [hl7]; exact heap_same, by simp (disch := omega) only [heap_ne, heap_same]⟩, .inr ⟨nx + 1, G ++ (acc 0 (A2 : Int) old1 al ++ acc 0 (ab : Int) old2 ((i : Int) + 1)), rfl, by simp (disch := omega) only [heap_ne, heap_same], by rw [List.length_append, List.length_append, z2]; simp only [acc, List.length_cons, List.length_nil]; omega, by omega, by omega⟩⟩, s5⟩, ?_⟩
          first | exact ⟨by repeat (first | exact q6.mono (by omega) | refine WfH.set' (by omega) ?_), by omega⟩ | (repeat (first | exact q6.mono (by omega) | refine WfH.set' (by omega) ?_))
    · have e7 : ¬ (i : Int) < C.length := by omega
      obtain rfl : i = C.length := by omega
      clear ih
      repeat' first | simp (maxSteps := 2000000) (disch := first | omega | (repeat first | assumption | exact Kept.refl _ | refine Kept.set' (by assumption) ?_ ?_ | refine Kept.set (by assumption) ?_ ?_ | omega)) only [go_sem, *, Try.results17] | (first | apply xg1 | apply xc1 | apply xg2 | apply xc2 | apply xc3 | apply xc4 | apply xg3 | apply xg4) <;> intro _ | (first | apply xh1 | apply xh2 | apply xh3 | apply xh4) <;> intro _ | refine EvK_draw (id := 10) (L := w17_10) (by kernel_rfl) (by kernel_rfl) ?_ | refine EvK_draw (id := 19) (L := w17_19) (by kernel_rfl) (by kernel_rfl) ?_
      exact ⟨xb, lb, mb, wb, tb, zb, rb, rt, l, W, gb, cv, hB, nB, sz, rfl, hLB, hone, hWB, k1B, S1, L1, h45.2⟩
end Go.Proofs.Ytapcgfakefmemaa
set_option linter.unusedVariables false
set_option linter.unusedSimpArgs false
namespace Go.Proofs.Ytapcgfakefmemaa
open Go.Am
theorem WrS.tow' {hB h : PT ABlk} {nB xb lb mb wb tb zb rb rt k gb sz : Nat} {l : LayV} {W : List Int} {n : Int} {cv : Value} (S : WrS hB nB xb lb mb wb tb zb rb rt l W k h) (hL : NewL 4 2 1 0 1 0 n 0 0 0 0 0 2 3 0 [] hB lb l gb cv) (hn : NumL l 1 sz) (hu : ∀ y ∈ W, 0 ≤ y ∧ y < 18446744073709551616) : ∃ lg, Tow h tb mb lb wb l W lg 2 := by
  obtain ⟨s1, s2, s3, ⟨lg, hM, -⟩, s5⟩ := S
  exact ⟨lg, tow_mk (hL.keep s1) hn s3 hM hu⟩
theorem prs_any {h : PT ABlk} {N : Nat} {s : Value} {ps : List (Int × Int)} (H : (s = .slice none 0 0 ∧ ps = []) ∨ ∃ g, s = .slice (some ⟨g, 0, none⟩) ps.length (capInf + 2) ∧ N ≤ g ∧ h.get g = some (.cells (PT.ofList .leaf 0 (prL ps)) false)) : IsPrs h s ps := by
  rcases H with q | ⟨g, e, _, e2⟩
  · exact .inl q
  · exact .inr ⟨g, _, _, e, e2⟩
end Go.Proofs.Ytapcgfakefmemaa
