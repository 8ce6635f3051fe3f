/-
  A part of the proof: contracts of inner functions.
-/
import Derived.Test.YtapcgfakefmemaaTWL
import Derived.Test.YtapcgfakefmemaaT9ZD
set_option linter.unusedVariables false
set_option linter.unusedSimpArgs false
namespace Go.Proofs.Ytapcgfakefmemaa
open Go.Am
def ments : Nat → List Int → List (Value × Value × Nat)
  | _, [] => []
  | j, x :: r => (.int .i64 x, .bool true, j) :: ments (j + 1) r
theorem ments_snoc : ∀ (ws : List Int) (j : Nat) (x : Int), ments j ws ++ [(.int .i64 x, .bool true, j + ws.length)] = ments j (ws ++ [x])
  | [], j, x => rfl
  | y :: ws, j, x => by
    have := ments_snoc ws (j + 1) x
    simp only [List.cons_append, ments, List.length_cons, ← this]
    rw [show j + (ws.length + 1) = j + 1 + ws.length by omega]
theorem und46 : Try.prog.underlying 46 = some (.map 47 4) := by kernel_rfl
theorem und47 : Try.prog.underlying 47 = some (.int .i64) := by kernel_rfl
theorem keyOk47 (x : Int) : keyOk Try.prog 47 (.int .i64) (.int .i64 x) = true := rfl
theorem zero4 : zeroOf Try.prog 4 = some (.bool false) := by kernel_rfl
theorem findM_none {x : Int} : ∀ (ws : List Int) (j i : Nat), ¬ x ∈ ws → findPair (.int .i64) (.int .i64 x) (ments j ws) i = some none
  | [], j, i, _ => rfl
  | y :: ws, j, i, h => by
    simp only [List.mem_cons, not_or] at h
    rw [ments, findPair]
    have : Instr.sameNow (.int .i64) (.int .i64 x) (.int .i64 y) = some false := by
      simp only [Instr.sameNow]
      rw [if_pos trivial]
      simp [h.1]
    simp only [this]
    exact findM_none ws (j + 1) (i + 1) h.2
theorem findM_some {x : Int} : ∀ (ws : List Int) (j i : Nat), x ∈ ws → ∃ p, findPair (.int .i64) (.int .i64 x) (ments j ws) i = some (some (p, .bool true))
  | [], j, i, h => by simp at h
  | y :: ws, j, i, h => by
    rw [ments, findPair]
    by_cases e : x = y
    · subst e
      have : Instr.sameNow (.int .i64) (.int .i64 x) (.int .i64 x) = some true := by
        simp only [Instr.sameNow]
        rw [if_pos trivial]
        simp
      simp only [this]
      exact ⟨i, rfl⟩
    · have : Instr.sameNow (.int .i64) (.int .i64 x) (.int .i64 y) = some false := by
        simp only [Instr.sameNow]
        rw [if_pos trivial]
        simp [e]
      simp only [this]
      rcases List.mem_cons.1 h with q | q
      · exact absurd q e
      · exact findM_some ws (j + 1) (i + 1) q
theorem lk46 {r : Nat} {x : Int} : lkQ Try.prog 46 (.map (some r)) (.int .i64 x) false = .get r (lkB Try.prog (.int .i64) 4 (.int .i64 x) false) := lkQ_map und46 und47 (keyOk47 x)
theorem lkB46 {x : Int} {ws : List Int} {c : Nat} : lkB Try.prog (.int .i64) 4 (.int .i64 x) false (.map (ments 0 ws) c) = .pure (.value (.bool (decide (x ∈ ws)))) := by
  rw [lkB_map]
  show lkR Try.prog 4 false (findPair (.int .i64) (.int .i64 x) (ments 0 ws) 0) = _
  by_cases h : x ∈ ws
  · obtain ⟨p, hp⟩ := findM_some ws 0 0 h
    rw [hp, decide_eq_true h]; rfl
  · rw [findM_none ws 0 0 h, decide_eq_false h]
    unfold lkR
    simp only [zero4, cond_false]
theorem mu46 {r : Nat} {x : Int} {v : Value} : muQ Try.prog 46 (.map (some r)) (.int .i64 x) v = .get r (muB Try.prog r (.int .i64) (.int .i64 x) v) := muQ_map und46 und47 (keyOk47 x)
theorem muB46 {r : Nat} {x : Int} {ws : List Int} (h : ¬ x ∈ ws) : muB Try.prog r (.int .i64) (.int .i64 x) (.bool true) (.map (ments 0 ws) ws.length) = .set r (.map (ments 0 (ws ++ [x])) (ws.length + 1)) (.pure .skip) := by
  rw [muB_map]
  show muR r _ _ _ _ _ (findPair (.int .i64) (.int .i64 x) (ments 0 ws) 0) = _
  rw [findM_none ws 0 0 h]
  unfold muR
  have := ments_snoc ws 0 x
  rw [Nat.zero_add] at this
  simp only [← this]
theorem muB46' {r : Nat} {x : Int} {ws : List Int} : ∃ es c, muB Try.prog r (.int .i64) (.int .i64 x) (.bool true) (.map (ments 0 ws) ws.length) = .set r (.map es c) (.pure .skip) := by
  by_cases h : x ∈ ws
  · obtain ⟨p, hp⟩ := findM_some ws 0 0 h
    refine ⟨putEntry (.int .i64 x) (.bool true) (ments 0 ws) p, ws.length, ?_⟩
    rw [muB_map]
    show muR r _ _ _ _ _ (findPair (.int .i64) (.int .i64 x) (ments 0 ws) 0) = _
    rw [hp]
    rfl
  · exact ⟨_, _, muB46 h⟩
def nOf (n : Int) : Int := if 1 ≤ n ∧ n ≤ 4 then n else 1
theorem nOf_range (n : Int) : 1 ≤ nOf n ∧ nOf n ≤ 4 := by unfold nOf; split <;> omega
theorem tmod13 {t : Int} (h : 0 ≤ t) : 0 ≤ t.tmod 13 ∧ t.tmod 13 ≤ 12 := by
  have h1 := Int.tmod_nonneg 13 h
  have h2 := Int.tmod_lt_of_pos t (show (0 : Int) < 13 by omega)
  omega
set_option maxRecDepth 100000 in
set_option maxHeartbeats 1000000 in
theorem configB {O : Over} (n t0 t1 t2 t3 t4 t5 : Int) (h : PT ABlk) (N : Nat) (hW : WfH h N) (b0 : 0 ≤ t0) (b1 : 0 ≤ t1) (b2 : 0 ≤ t2) (b3 : 0 ≤ t3) (b4 : 0 ≤ t4) (b5 : 0 ≤ t5) :
    EvB Try.prog O 7 [.int .i64 n, .agg ⟨[.int .u8 t0, .int .u8 t1, .int .u8 t2, .int .u8 t3, .int .u8 t4, .int .u8 t5]⟩] h N fun v h' n' => v = .agg ⟨[.int .i64 4, .int .i64 2, .int .u8 1, .int .i64 0, .int .u8 2, .int .i64 (nOf n), .slice none 0 0, .int .i64 (t0.tmod 13), .int .i64 (t1.tmod 13), .int .i64 (t2.tmod 13), .int .i64 (t3.tmod 13), .int .i64 (t4.tmod 13), .int .i64 (t5.tmod 13), .int .i64 2, .int .i64 3, .int .i64 0]⟩ ∧ Kept h h' := by
  have d0 := tmod13 b0
  have d1 := tmod13 b1
  have d2 := tmod13 b2
  have d3 := tmod13 b3
  have d4 := tmod13 b4
  have d5 := tmod13 b5
  generalize hx0 : t0.tmod 13 = m0 at *
  generalize hx1 : t1.tmod 13 = m1 at *
  generalize hx2 : t2.tmod 13 = m2 at *
  generalize hx3 : t3.tmod 13 = m3 at *
  generalize hx4 : t4.tmod 13 = m4 at *
  generalize hx5 : t5.tmod 13 = m5 at *
  clear b0 b1 b2 b3 b4 b5
  refine EvB_run (N := 29) Try.func7 rfl rfl fun z hP hO hro hN hQ => ?_
  unfold nOf at hQ
  by_cases c1 : n < 1
  · rw [if_neg (by omega)] at hQ
    repeat' first | simp (maxSteps := 2000000) (disch := omega) only [go_sem, *, Try.results7, EvK_loop] | (first | apply xg1 | apply xc1 | apply xg2 | apply xc2 | apply xc3 | apply xc4 | apply xg3 | apply xg4) <;> intro _ | (first | apply xh1 | apply xh2 | apply xh3 | apply xh4) <;> intro _ | refine EvK_draw (by cbv) (by first | rfl | cbv) ?_
    repeat first | exact hW.kept (Nat.le_refl _) | refine Kept.set' hW (by omega) ?_
  · by_cases c2 : 4 < n
    · rw [if_neg (by omega)] at hQ
      repeat' first | simp (maxSteps := 2000000) (disch := omega) only [go_sem, *, Try.results7, EvK_loop] | (first | apply xg1 | apply xc1 | apply xg2 | apply xc2 | apply xc3 | apply xc4 | apply xg3 | apply xg4) <;> intro _ | (first | apply xh1 | apply xh2 | apply xh3 | apply xh4) <;> intro _ | refine EvK_draw (by cbv) (by first | rfl | cbv) ?_
      repeat first | exact hW.kept (Nat.le_refl _) | refine Kept.set' hW (by omega) ?_
    · rw [if_pos (by omega)] at hQ
      repeat' first | simp (maxSteps := 2000000) (disch := omega) only [go_sem, *, Try.results7, EvK_loop] | (first | apply xg1 | apply xc1 | apply xg2 | apply xc2 | apply xc3 | apply xc4 | apply xg3 | apply xg4) <;> intro _ | (first | apply xh1 | apply xh2 | apply xh3 | apply xh4) <;> intro _ | refine EvK_draw (by cbv) (by first | rfl | cbv) ?_
      repeat first | exact hW.kept (Nat.le_refl _) | refine Kept.set' hW (by omega) ?_
end Go.Proofs.Ytapcgfakefmemaa
set_option linter.unusedVariables false
set_option linter.unusedSimpArgs false
namespace Go.Proofs.Ytapcgfakefmemaa
open Go.Am
def IsPuts (h : PT ABlk) (s : Value) (ps : List (Int × Int)) : Prop :=
  ∃ a cap, s = .slice a ps.length cap ∧ ∀ i, i < ps.length → ∃ b off sp L ro x y, a = some ⟨b, off, sp⟩ ∧ h.get b = some (.cells (PT.ofList .leaf 0 L) ro) ∧ L[off + i * 2]? = some (.int .i64 x) ∧ L[off + i * 2 + 1]? = some (.int .u64 y) ∧ 0 ≤ y ∧ y < 18446744073709551616
theorem IsPuts.keep {h h' : PT ABlk} {s : Value} {ps : List (Int × Int)} (H : IsPuts h s ps) (k : Kept h h') : IsPuts h' s ps := by
  obtain ⟨a, cap, e, q⟩ := H
  refine ⟨a, cap, e, fun i hi => ?_⟩
  obtain ⟨b, off, sp, L, ro, x, y, e1, e2, e3⟩ := q i hi
  exact ⟨b, off, sp, L, ro, x, y, e1, k _ _ e2, e3⟩
def IsLog (h : PT ABlk) (lo : Nat) (lg : Value) (k : Nat) : Prop :=
  (k = 0 ∧ lg = .slice none 0 0) ∨ ∃ g G, lg = .slice (some ⟨g, 0, none⟩) k (capInf + 6) ∧ h.get g = some (.cells (PT.ofList .leaf 0 G) false) ∧ G.length = k * 6 ∧ lo ≤ g ∧ 0 < k
structure IsWorld (h : PT ABlk) (xb lb mb wb tb : Nat) (l : LayV) (W : List Int) (lg : Value) : Prop where
  row : ∃ zb rb rt, h.get xb = some (.cells (PT.ofList .leaf 0 [.pointer (some ⟨lb, 0, none⟩), .pointer (some ⟨mb, 0, none⟩), .pointer (some ⟨tb, 0, none⟩), .pointer (some ⟨zb, 0, none⟩), .pointer (some ⟨rb, 0, none⟩), .pointer (some ⟨rt, 0, none⟩)]) false)
  tow : h.get tb = some (.cells (PT.ofList .leaf 0 [.pointer (some ⟨mb, 0, none⟩), .pointer (some ⟨lb, 0, none⟩)]) false)
  mem : IsMem h mb wb W lg
  u64 : ∀ x ∈ W, 0 ≤ x ∧ x < 18446744073709551616
theorem adrEnd_le : ∀ (H : List Int) (b : Int), (∀ j, j < H.length → 1 ≤ H.getD j 0 ∧ H.getD j 0 ≤ 6) → b ≤ adrEnd b H ∧ adrEnd b H ≤ b + 11 * (H.length : Int)
  | [], b, _ => by simp [adrEnd]
  | x :: r, b, h => by
    have hx := h 0 (by simp)
    simp only [List.getD_cons_zero] at hx
    have := adrEnd_le r (b + (5 + x)) fun j hj => by have := h (j + 1) (by simpa using hj); simpa using this
    simp only [adrEnd, List.length_cons]; omega
theorem rdL_row {h : PT ABlk} {lb : Nat} {l : LayV} (e : (rdL (.pointer (some ⟨lb, 0, none⟩))).look h = some l) : ∃ ro, h.get lb = some (.cells (PT.ofList .leaf 0 l.S) ro) ∧ l.S.length = 30 := by
  unfold rdL at e
  obtain ⟨S, ro, hb, e⟩ := look_row e
  split at e
  · obtain ⟨H, e1, e⟩ := look_bind_some e
    obtain ⟨T, e2, e⟩ := look_bind_some e
    split at e
    · obtain ⟨hc, e⟩ := look_cond e
      rw [look_pure] at e
      obtain rfl := Option.some.inj e
      simp only [Bool.and_eq_true] at hc
      exact ⟨ro, hb, Nat.eq_of_beq_eq_true hc.2⟩
    · simp [AP.look] at e
  · simp [AP.look] at e
theorem fs_range : ∀ (L : List Int) (h b : Int), 0 ≤ b → 0 ≤ fs L h b ∧ fs L h b ≤ b + L.length
  | [], h, b, hb => by simp [fs]; omega
  | x :: xs, h, b, hb => by
    have := fs_range xs h (b + 1) (by omega)
    rw [fs]
    simp only [List.length_cons]
    split <;> omega
theorem iniL_u64 {p5 p6 sz : Nat} {H : List Int} (hn : H.length ≤ 1024) : ∀ x ∈ iniL p5 p6 sz H 0, 0 ≤ x ∧ x < 18446744073709551616 := by
  intro x hx
  simp only [iniL, List.mem_map, List.mem_range] at hx
  obtain ⟨k, -, rfl⟩ := hx
  unfold iniAt
  split
  · have := fs_range (H.drop (k - p6 + 1)) (H.getD (k - p6) 0) (((k - p6 : Nat) : Int) + 2) (by omega)
    rw [List.length_drop] at this
    omega
  · split
    · have := fs_range (H.drop 0) (((k - p5 : Nat) : Int) + 1) (((0 : Nat) : Int) + 1) (by omega)
      rw [List.length_drop] at this
      omega
    · omega
section
variable {th sl en bu kd dn t0 t1 t2 t3 t4 t5 lo tr ba : Int} {xs : List Int}
theorem NewL.keep {h h' : PT ABlk} {lb gb : Nat} {l : LayV} {cv : Value} (H : NewL th sl en bu kd dn t0 t1 t2 t3 t4 t5 lo tr ba xs h lb l gb cv) (k : Kept h h') : NewL th sl en bu kd dn t0 t1 t2 t3 t4 t5 lo tr ba xs h' lb l gb cv :=
  ⟨H.ok, look_keep k H.look, H.V, H.H, H.P, H.T, H.cuts.keep k, H.cells⟩
structure NumL (l : LayV) (V : Int) (sz : Nat) : Prop where
  eV : l.V = V
  V1 : 1 ≤ V
  V2 : V ≤ 64
  ini : IniOk l
  p9 : l.P.getD 9 0 = sz
  sz1 : 12 ≤ sz
  sz2 : sz ≤ 20000
  p7 : 12 ≤ l.P.getD 7 0 ∧ l.P.getD 7 0 ≤ 2000
  p7' : l.P.getD 7 0 = l.P.getD 6 0 + l.H.length
  p8 : l.P.getD 8 0 = l.P.getD 7 0 + V * 7
  T : l.T = adr (l.P.getD 8 0) l.H
  pend : adrEnd (l.P.getD 8 0) l.H = sz
  PL : ∃ q0 q1 q2 q3 q4 q5 q6 q7 q8, l.P = [q0, q1, q2, q3, q4, q5, q6, q7, q8, (sz : Int)]
theorem newL_num {h : PT ABlk} {lb gb : Nat} {l : LayV} {cv : Value} (H : NewL th sl en bu kd dn t0 t1 t2 t3 t4 t5 lo tr ba xs h lb l gb cv) : ∃ sz, NumL l (domCount kd dn xs) sz := by
  have c1 := H.ok
  have hlen6 := hts_length6 ⟨(cfgOk_facts c1).2.2.2.2.2.1, (cfgOk_facts c1).2.2.2.2.2.2.1⟩
  have hV := domCount_pos (cfgOk_facts c1).1
  have hP7 := p7_bound c1
  obtain ⟨-, ⟨f2, f2'⟩, ⟨f3, f3'⟩, ⟨f4, f4'⟩, ⟨f5, f5'⟩, -, -, -⟩ := cfgOk_facts c1
  have hE := engW_bound (en := en) f3 f3' f4 f4'
  have hbd : ∀ i, i < (hts 1 [t0, t1, t2, t3, t4, t5]).length → 1 ≤ (hts 1 [t0, t1, t2, t3, t4, t5]).getD i 0 ∧ (hts 1 [t0, t1, t2, t3, t4, t5]).getD i 0 ≤ 6 := fun i hi => by
    have := hts_bound [t0, t1, t2, t3, t4, t5] 1 1 6 (by omega) (by simp) ((hts 1 [t0, t1, t2, t3, t4, t5]).getD i 0) (by simp [List.getD, hi])
    exact this
  have hasc := hts_asc9 [t0, t1, t2, t3, t4, t5] 1
  have hae := adrEnd_le (hts 1 [t0, t1, t2, t3, t4, t5]) (p7Of sl en bu lo (hts 1 [t0, t1, t2, t3, t4, t5]) + domCount kd dn xs * 7) hbd
  obtain ⟨hlV, hlH, hlP, hlT⟩ := And.intro H.V (And.intro H.H (And.intro H.P H.T))
  have hP6 : p7Of sl en bu lo (hts 1 [t0, t1, t2, t3, t4, t5]) = 0 + sl * 1 + 1 * engW en sl bu + 1 + lo * 3 + lo * 1 + 6 + ((hts 1 [t0, t1, t2, t3, t4, t5]).length : Int) * 1 := rfl
  obtain ⟨sz, hsz⟩ : ∃ sz : Nat, adrEnd (p7Of sl en bu lo (hts 1 [t0, t1, t2, t3, t4, t5]) + domCount kd dn xs * 7) (hts 1 [t0, t1, t2, t3, t4, t5]) = sz := ⟨(adrEnd (p7Of sl en bu lo (hts 1 [t0, t1, t2, t3, t4, t5]) + domCount kd dn xs * 7) (hts 1 [t0, t1, t2, t3, t4, t5])).toNat, by omega⟩
  refine ⟨sz, hlV, by omega, by omega, ?_, ?_, by omega, by omega, ?_, ?_, ?_, ?_, ?_, ?_⟩
  · refine ⟨?_, ?_, ?_, ?_, ?_, ?_, ?_⟩ <;> simp only [hlP, hlH, placesOf, List.getD_cons_succ, List.getD_cons_zero] <;> first | omega | exact hbd | exact hasc
  · simp only [hlP, placesOf, List.getD_cons_succ, List.getD_cons_zero, hsz]
  · simp only [hlP, placesOf, List.getD_cons_succ, List.getD_cons_zero]; exact hP7
  · simp only [hlP, hlH, placesOf, List.getD_cons_succ, List.getD_cons_zero]; omega
  · simp only [hlP, placesOf, List.getD_cons_succ, List.getD_cons_zero]
  · simp only [hlP, hlH, hlT, placesOf, List.getD_cons_succ, List.getD_cons_zero]
  · simp only [hlP, hlH, placesOf, List.getD_cons_succ, List.getD_cons_zero, hsz]
  · rw [hlP]; unfold placesOf; rw [hsz]; exact ⟨_, _, _, _, _, _, _, _, _, rfl⟩
end
end Go.Proofs.Ytapcgfakefmemaa
