/-
  A part of the proof: contracts of inner functions.
-/
import Derived.Test.YtapcgfakefmemaaTVK
import Derived.Test.YtapcgfakefmemaaTWQ
set_option linter.unusedVariables false
set_option linter.unusedSimpArgs false
namespace Go.Proofs.Ytapcgfakefmemaa
open Go.Am
theorem guardP : Try.prog.eqGuardType Try.prog.depth 63 = false := by kernel_rfl
def eqPr (x y : Int × Int) : AP Bool := cond (x.1 == y.1) (cond (x.2 == y.2) (.pure true) (.pure false)) (.pure false)
theorem aEqualP (x y : Int × Int) : aEqual Try.prog 12 63 (.agg ⟨prC x⟩) (.agg ⟨prC y⟩) = eqPr x y := by kernel_rfl
theorem eqPr_eq (x y : Int × Int) : eqPr x y = .pure (decide (x = y)) := by
  obtain ⟨a, b⟩ := x
  obtain ⟨a', b'⟩ := y
  have q : ∀ x y : Int, (x == y) = decide (x = y) := fun x y => rfl
  unfold eqPr
  by_cases h1 : a = a' <;> by_cases h2 : b = b' <;> simp [q, h1, h2]
theorem neP (a b a' b' : Int) (cx cy : Bool) : binV Try.prog .neq 63 cx cy (.agg ⟨[.int .u64 a, .int .u64 b]⟩) (.agg ⟨[.int .u64 a', .int .u64 b']⟩) = .pure (.value (.bool !(decide ((a, b) = (a', b'))))) := by
  have h := aEqualP (a, b) (a', b')
  simp only [prC] at h
  simp only [binV, aBinOp, eqGuardOk, guardP, Bool.not_false, cond_true, h, eqPr_eq, AP.bind]
def IsPrs (h : PT ABlk) (s : Value) (ps : List (Int × Int)) : Prop := (s = .slice none 0 0 ∧ ps = []) ∨ ∃ g cap ro, s = .slice (some ⟨g, 0, none⟩) ps.length cap ∧ h.get g = some (.cells (PT.ofList .leaf 0 (prL ps)) ro)
theorem IsPrs.keep {h h' : PT ABlk} {s : Value} {ps : List (Int × Int)} (H : IsPrs h s ps) (k : Kept h h') : IsPrs h' s ps := by
  rcases H with q | ⟨g, cap, ro, q1, q2⟩
  · exact .inl q
  · exact .inr ⟨g, cap, ro, q1, k _ _ q2⟩
theorem IsPrs.len {h : PT ABlk} {s : Value} {ps : List (Int × Int)} (H : IsPrs h s ps) : ∃ a cap, s = .slice a ps.length cap ∧ ∀ i, i < ps.length → ∃ g ro, a = some ⟨g, 0, none⟩ ∧ h.get g = some (.cells (PT.ofList .leaf 0 (prL ps)) ro) := by
  rcases H with ⟨rfl, rfl⟩ | ⟨g, cap, ro, rfl, q2⟩
  · exact ⟨none, 0, rfl, fun i hi => by simp at hi⟩
  · exact ⟨_, cap, rfl, fun i hi => ⟨g, ro, rfl, q2⟩⟩
theorem take_eq_succP {xs ys : List (Int × Int)} {i : Nat} (h1 : i < xs.length) (h2 : i < ys.length) (h : xs.take i = ys.take i) (e : xs.getD i (0, 0) = ys.getD i (0, 0)) : xs.take (i + 1) = ys.take (i + 1) := by
  rw [List.take_add_one, List.take_add_one, h]
  simp [List.getD, h1, h2] at e
  simp [h1, h2, e]
set_option maxRecDepth 100000 in
set_option maxHeartbeats 4000000 in
theorem equalPairsB {O : Over} (xs ys : List (Int × Int)) (s t : Value) (h : PT ABlk) (n : Nat) (hs : IsPrs h s xs) (ht : IsPrs h t ys) (hl : xs.length < 1000000) (hl2 : ys.length < 1000000) :
    EvB Try.prog O 25 [s, t] h n fun v h' n' => v = .bool (decide (xs = ys)) ∧ h' = h ∧ n' = n := by
  obtain ⟨a, cap, rfl, hA⟩ := hs.len
  obtain ⟨b, cap2, rfl, hB⟩ := ht.len
  clear hs ht
  have hlx := prL_length xs
  have hly := prL_length ys
  refine EvB_run (N := 26) Try.func25 rfl rfl fun z hP hO hro hN hQ => ?_
  by_cases hlen : xs.length = ys.length
  · have hle1 : (xs.length : Int) = ys.length := by omega
    repeat' first | simp (maxSteps := 2000000) (disch := omega) only [go_sem, *, Try.results25] | (first | apply xg1 | apply xc1 | apply xg2 | apply xc2 | apply xc3 | apply xc4 | apply xg3 | apply xg4) <;> intro _ | (first | apply xh1 | apply xh2 | apply xh3 | apply xh4) <;> intro _ | refine EvK_draw (id := 6) (L := w25_6) (by kernel_rfl) (by kernel_rfl) ?_
    refine ind_loop (fun t m h' n' => h' = h ∧ n' = n ∧ ∃ i : Nat, i ≤ xs.length ∧ t = xs.length - i ∧ xs.take i = ys.take i ∧ m.n = 26 ∧ m.dfs = [] ∧ m.get 0 = .slice a xs.length cap ∧ m.get 1 = .slice b ys.length cap2 ∧ m.get 5 = .int .i64 i) xs.length ?_ ?_
    · refine ⟨rfl, rfl, 0, by omega, by omega, rfl, ?_⟩
      simp (maxSteps := 2000000) (disch := omega) only [go_sem, *]
    · rintro t m h n ih ⟨rfl, rfl, i, hi, rfl, htk, m1, m2, m3, m4, m5⟩
      rcases Nat.lt_or_ge i xs.length with hlt | hge
      · obtain ⟨g, ro, rfl, hb⟩ := hA i hlt
        obtain ⟨g2, ro2, rfl, hb2⟩ := hB i (by omega)
        have e1 : (i : Int) < xs.length := by omega
        have e2 : (i : Int) < ys.length := by omega
        have p1 := prL_at xs i hlt
        have p2 := prL_at ys i (by omega)
        have hb1' : Nat.ble (i * 2 + 2) (xs.length * 2) = true := Nat.ble_eq_true_of_le (by omega)
        have hb2' : Nat.ble (i * 2 + 2) (ys.length * 2) = true := Nat.ble_eq_true_of_le (by omega)
        have ci : ((i + 1 : Nat) : Int) = (i : Int) + 1 := by omega
        clear hA hB
        by_cases e3 : xs.getD i (0, 0) = ys.getD i (0, 0)
        · have htk' := take_eq_succP hlt (by omega) htk e3
          have e4 : ((xs.getD i (0, 0)).1, (xs.getD i (0, 0)).2) = ((ys.getD i (0, 0)).1, (ys.getD i (0, 0)).2) := e3
          generalize (xs.getD i (0, 0)).1 = k1 at *
          generalize (xs.getD i (0, 0)).2 = x1 at *
          generalize (ys.getD i (0, 0)).1 = k2 at *
          generalize (ys.getD i (0, 0)).2 = x2 at *
          obtain ⟨rfl, rfl⟩ := Prod.mk.inj e4
          clear e3
          repeat' first | simp (maxSteps := 2000000) (disch := omega) only [go_sem, *, Try.results25, neP] | (first | apply xg1 | apply xc1 | apply xg2 | apply xc2 | apply xc3 | apply xc4 | apply xg3 | apply xg4) <;> intro _ | (first | apply xh1 | apply xh2 | apply xh3 | apply xh4) <;> intro _ | refine EvK_draw (id := 6) (L := w25_6) (by kernel_rfl) (by kernel_rfl) ?_
          refine ih (xs.length - (i + 1)) _ _ _ (by omega) ⟨rfl, rfl, i + 1, by omega, rfl, htk', ?_⟩
          rw [ci]
          clear ih
          simp (maxSteps := 2000000) (disch := omega) only [go_sem, *]
        · have hxy : ¬ xs = ys := fun e => e3 (by rw [e])
          have e4 : ¬ ((xs.getD i (0, 0)).1, (xs.getD i (0, 0)).2) = ((ys.getD i (0, 0)).1, (ys.getD i (0, 0)).2) := e3
          rw [decide_eq_false hxy] at hQ
          clear e3 hxy
          generalize (xs.getD i (0, 0)).1 = k1 at *
          generalize (xs.getD i (0, 0)).2 = x1 at *
          generalize (ys.getD i (0, 0)).1 = k2 at *
          generalize (ys.getD i (0, 0)).2 = x2 at *
          clear ih
          repeat' first | simp (maxSteps := 2000000) (disch := omega) only [go_sem, *, Try.results25, neP] | (first | apply xg1 | apply xc1 | apply xg2 | apply xc2 | apply xc3 | apply xc4 | apply xg3 | apply xg4) <;> intro _ | (first | apply xh1 | apply xh2 | apply xh3 | apply xh4) <;> intro _ | refine EvK_draw (id := 6) (L := w25_6) (by kernel_rfl) (by kernel_rfl) ?_
      · have e1 : ¬ (i : Int) < xs.length := by omega
        have e2 : ¬ (i : Int) < ys.length := by omega
        have hxy : xs = ys := by
          have := htk
          rwa [List.take_of_length_le hge, List.take_of_length_le (by omega)] at this
        rw [decide_eq_true hxy] at hQ
        clear hxy ih
        repeat' first | simp (maxSteps := 2000000) (disch := omega) only [go_sem, *, Try.results25] | (first | apply xg1 | apply xc1 | apply xg2 | apply xc2 | apply xc3 | apply xc4 | apply xg3 | apply xg4) <;> intro _ | (first | apply xh1 | apply xh2 | apply xh3 | apply xh4) <;> intro _ | refine EvK_draw (id := 6) (L := w25_6) (by kernel_rfl) (by kernel_rfl) ?_
  · have hle1 : ¬ (xs.length : Int) = ys.length := by omega
    have hxy : ¬ xs = ys := fun e => hlen (by rw [e])
    rw [decide_eq_false hxy] at hQ
    clear hxy
    repeat' first | simp (maxSteps := 2000000) (disch := omega) only [go_sem, *, Try.results25] | (first | apply xg1 | apply xc1 | apply xg2 | apply xc2 | apply xc3 | apply xc4 | apply xg3 | apply xg4) <;> intro _ | (first | apply xh1 | apply xh2 | apply xh3 | apply xh4) <;> intro _ | refine EvK_draw (id := 6) (L := w25_6) (by kernel_rfl) (by kernel_rfl) ?_
end Go.Proofs.Ytapcgfakefmemaa
set_option linter.unusedVariables false
set_option linter.unusedSimpArgs false
namespace Go.Proofs.Ytapcgfakefmemaa
open Go.Am
theorem OTpairs : PairsO OT := by
  refine ⟨rfl, rfl, rfl, rfl, rfl, rfl, rfl, rfl, rfl, fun f hf => ?_⟩
  simp only [List.mem_cons, List.not_mem_nil, or_false] at hf
  rcases hf with rfl | rfl | rfl | rfl | rfl | rfl | rfl | rfl | rfl | rfl | rfl | rfl | rfl | rfl | rfl | rfl | rfl | rfl | rfl | rfl | rfl | rfl <;> rfl
theorem tow_mk {th sl en bu kd dn t0 t1 t2 t3 t4 t5 lo tr ba : Int} {h : PT ABlk} {lb gb tb mb wb sz : Nat} {l : LayV} {cv lg : Value} {W : List Int} {V : Int} (H : NewL th sl en bu kd dn t0 t1 t2 t3 t4 t5 lo tr ba [] h lb l gb cv) (hn : NumL l V sz)
    (ht : h.get tb = some (.cells (PT.ofList .leaf 0 [.pointer (some ⟨mb, 0, none⟩), .pointer (some ⟨lb, 0, none⟩)]) false)) (hM : IsMem h mb wb W lg) (hu : ∀ x ∈ W, 0 ≤ x ∧ x < 18446744073709551616) : Tow h tb mb lb wb l W lg lo := by
  have hf := cfgOk_facts H.ok
  obtain ⟨-, ⟨f2, f2'⟩, ⟨f3, f3'⟩, ⟨f4, f4'⟩, ⟨f5, f5'⟩, -, -, -⟩ := hf
  have hE := engW_bound (en := en) f3 f3' f4 f4'
  obtain ⟨rest, hr⟩ := H.cells
  obtain ⟨q0, q1, q2, q3, q4, q5, q6, q7, q8, hPL⟩ := hn.PL
  refine ⟨ht, hM, H.look, hu, hn.ini.len, hn.ini.bd, ⟨th, sl, en, bu, kd, dn, cv, t0, t1, t2, t3, t4, t5, tr, ba, [], rest, hr, H.cuts, by simp⟩, ⟨q0, q1, q2, q3, q4, q5, q6, q7, q8, _, hPL⟩, ?_⟩
  rw [H.P]
  simp only [placesOf, List.getD_cons_succ, List.getD_cons_zero]
  omega
theorem nxtA_head {l : LayV} {V : Int} {sz : Nat} (hn : NumL l V sz) {v lv : Int} (v0 : 0 ≤ v) (v1 : v < V) (l0 : 0 ≤ lv) (l1 : lv ≤ 5) : nxtA l (-1 - v) lv = l.P.getD 7 0 + v * 7 + 1 + lv := by
  have h2 := hn.V2
  have h7 := hn.p7
  have hw : IntKind.i64.wrap (-1 - (-1 - v)) = v := by rw [wrap_i64 (by omega) (by omega)]; omega
  have hA : headA l (-1 - v) = l.P.getD 7 0 + v * 7 := by
    unfold headA
    rw [hw, wrap_i64 (x := v * 7) (by omega) (by omega), wrap_i64 (by omega) (by omega)]
  unfold nxtA
  rw [if_pos]
  · rw [hA, wrap_i64 (x := l.P.getD 7 0 + v * 7 + 1) (by omega) (by omega), wrap_i64 (by omega) (by omega)]
  · refine ⟨⟨by omega, ?_⟩, l0, l1⟩
    rw [hw, hn.eV]
    exact v1
theorem iniW_high {l : LayV} {V : Int} {sz : Nat} (hn : NumL l V sz) {a : Int} (h : l.P.getD 7 0 ≤ a) : wat (iniW l) a = 0 := by
  have h7 := hn.p7'
  have h6 := hn.ini.p6
  have h5 := hn.ini.p5
  have hlen : (iniW l).length = (l.P.getD 9 0).toNat := iniL_length _ _ _ _ _
  unfold wat
  split
  · rename_i hc
    unfold iniW iniL
    rw [map_range_getD (by omega)]
    unfold iniAt
    rw [if_neg (by omega), if_neg (by omega)]
  · rfl
theorem lst_ini {l : LayV} {V : Int} {sz : Nat} (hn : NumL l V sz) {v lv : Int} (v0 : 0 ≤ v) (v1 : v < V) (l0 : 0 ≤ lv) (l1 : lv ≤ 5) : lst l (iniW l) v lv = [] := by
  have ha := nxtA_head hn v0 v1 l0 l1
  have he := head_next hn v0 v1 l0 l1
  have h0 : aft l (iniW l) (-1 - v) lv = 0 := by
    unfold aft
    rw [if_pos he, iniW_high hn (by omega)]
    simp
  unfold lst
  rw [h0, chain, if_neg (by omega)]
theorem pairs_ini {l : LayV} {V : Nat} {sz : Nat} (hn : NumL l V sz) (lo : Int) : ∀ v, v ≤ V → pairsTo l (iniW l) lo v = []
  | 0, _ => rfl
  | v + 1, h => by
    rw [pairsTo, pairs_ini hn lo v (by omega)]
    unfold prsOf
    rw [lst_ini hn (by omega) (by omega) (by omega) (by omega)]
    rfl
theorem sm_prs0 (S : List Value) : pairsTo ⟨S, hts 1 [2, 1, 0, 0, 0, 0], adr (p7Of 2 2 0 1 (hts 1 [2, 1, 0, 0, 0, 0]) + domCount 2 2 [] * 7) (hts 1 [2, 1, 0, 0, 0, 0]), placesOf 2 2 0 1 (domCount 2 2 []) (hts 1 [2, 1, 0, 0, 0, 0]), domCount 2 2 []⟩ (smW 10) 1 2 = [(4, 40), (6, 60)] := by kernel_rfl
theorem sm_prs {h : PT ABlk} {lb gb : Nat} {l : LayV} {cv : Value} (H : NewL 1 2 2 0 2 2 2 1 0 0 0 0 1 1 0 [] h lb l gb cv) : pairsTo l (smW 10) 1 2 = [(4, 40), (6, 60)] := by
  obtain ⟨S, H', T, P, V⟩ := l
  have e1 := H.H
  have e2 := H.P
  have e3 := H.T
  have e4 := H.V
  simp only at e1 e2 e3 e4
  subst e1 e2 e3 e4
  exact sm_prs0 S
theorem inc2 {a b x y : Int} (h : a < b) : IncP [(a, x), (b, y)] := fun i j hij hj => by
  simp only [List.length_cons, List.length_nil] at hj
  obtain rfl : i = 0 := by omega
  obtain rfl : j = 1 := by omega
  exact h
set_option maxHeartbeats 1000000 in
theorem pairsLawB (tb mb lb wb : Nat) (l : LayV) (lg : Value) (six : Int) (h : PT ABlk) (N : Nat) (hW : WfH h N) (hT : Tow h tb mb lb wb l (smW 10) lg 1) (hV : l.V = (2 : Nat)) (hp : pairsTo l (smW 10) 1 2 = [(4, 40), (6, 60)]) :
    EvB Try.prog OT 16 [.pointer (some ⟨tb, 0, none⟩), .int .u64 60] h N fun r h' n' => r = .bool true ∧ Kept h h' := by
  have hB := (pairsB OTpairs tb mb lb wb l (smW 10) lg 1 2 hV (by omega) h N hW hT (by rw [hp]; exact inc2 (by omega))).wf hW
  rw [hp] at hB
  clear hT hp
  refine EvB_run (N := 22) Try.func16 rfl rfl fun z hP hO hro hN hQ => ?_
  repeat' first | simp (maxSteps := 2000000) (disch := omega) only [go_sem, *, Try.results16] | (first | apply xg1 | apply xc1 | apply xg2 | apply xc2 | apply xc3 | apply xc4 | apply xg3 | apply xg4) <;> intro _
  refine EvQ_call ?_ ?_ (by rw [hP, hO]; exact hB) ?_
  · simp (maxSteps := 2000000) (disch := omega) only [go_sem, *]
  · simp (maxSteps := 2000000) (disch := omega) only [go_sem, *]
  rintro v h5 n5 ⟨⟨s, rfl, hs, k5⟩, hn5, hW5⟩
  have hI : IsPrs h5 s [(4, 40), (6, 60)] := by
    rcases hs with ⟨e, e2⟩ | ⟨g, e, _, e2⟩
    · simp at e2
    · exact .inr ⟨g, _, _, e, e2⟩
  clear hB hs
  repeat' first | simp (maxSteps := 2000000) (disch := omega) only [go_sem, *, Try.results16] | (first | apply xg1 | apply xc1 | apply xg2 | apply xc2 | apply xc3 | apply xc4 | apply xg3 | apply xg4) <;> intro _
  generalize hh6 : h5.set n5 _ = h6
  have e6 := get_of_set hh6
  have k6 : Kept h5 h6 := by rw [← hh6]; exact hW5.kept (Nat.le_refl _)
  have hI2 : IsPrs h6 (.slice (some ⟨n5, 0, none⟩) 2 2) [(4, 40), (6, 60)] := .inr ⟨n5, 2, _, rfl, e6⟩
  have he := equalPairsB (O := OT) _ _ _ _ h6 (n5 + 1) (hI.keep k6) hI2 (by decide) (by decide)
  have k06 := k5.trans k6
  clear hh6 hI hI2 e6 k6
  rw [decide_eq_true rfl] at he
  refine EvQ_call ?_ ?_ (by rw [hP, hO]; exact he) ?_
  · simp (maxSteps := 2000000) (disch := omega) only [go_sem, *]
  · simp (maxSteps := 2000000) (disch := omega) only [go_sem, *]
  rintro v h7 n7 ⟨rfl, hh, hn⟩
  subst hh hn
  repeat' first | simp (maxSteps := 2000000) (disch := omega) only [go_sem, *, Try.results16] | (first | apply xg1 | apply xc1 | apply xg2 | apply xc2 | apply xc3 | apply xc4 | apply xg3 | apply xg4) <;> intro _
end Go.Proofs.Ytapcgfakefmemaa
