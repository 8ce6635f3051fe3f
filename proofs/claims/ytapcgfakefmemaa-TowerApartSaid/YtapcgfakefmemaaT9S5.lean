/-
  A part of the proof: contracts of inner functions.
-/
import Derived.Test.YtapcgfakefmemaaT9D
import Derived.Test.YtapcgfakefmemaaT9Q1
set_option linter.unusedVariables false
set_option linter.unusedSimpArgs false
namespace Go.Proofs.Ytapcgfakefmemaa
open Go.Am
def twrs : Int → List Int → List (Int × Int × Int)
  | _, [] => []
  | t, x :: r => grp 9 t (5 + x).toNat (5 + x).toNat ++ twrs (t + 1) r
theorem twrs_end : ∀ (H : List Int) (t a : Int), (∀ i, i < H.length → 1 ≤ H.getD i 0) → adrEnd a H = a + (twrs t H).length
  | [], t, a, h => by simp [adrEnd, twrs]
  | x :: r, t, a, h => by
    have h0 := h 0 (by simp)
    have hr := twrs_end r (t + 1) (a + (5 + x)) (fun i hi => by have := h (i + 1) (by simpa using hi); simpa using this)
    simp only [adrEnd, twrs, List.length_append, grp_length, hr]
    simp at h0
    omega
theorem OwnInts.far {k : IntKind} {h h' : PT ABlk} {lo hi : Nat} {s : Value} {xs : List Int} (hs : OwnInts k h lo hi s xs) (hk : ∀ i B, lo ≤ i → i < hi → h.get i = some B → h'.get i = some B) : IsInts k h' s xs := by
  refine OwnInts.isInts (lo := lo) (hi := hi) ?_
  rcases hs with hs | ⟨b, cap, e, hl, hh, hb⟩
  · exact .inl hs
  · exact .inr ⟨b, cap, e, hl, hh, hk b _ hl hh hb⟩
def whatOf (sl en bu lo V : Int) (H : List Int) : List (Int × Int × Int) :=
  grp 1 0 1 sl.toNat ++ grp 2 0 (engW en sl bu).toNat (engW en sl bu).toNat ++ grp 3 0 1 1 ++ grp 4 0 3 (3 * lo).toNat ++ grp 5 0 1 lo.toNat ++ grp 6 0 1 6 ++ grp 7 1 1 H.length ++ grp 8 0 7 (V * 7).toNat ++ twrs 1 H
set_option maxRecDepth 100000 in
set_option maxHeartbeats 8000000 in
theorem refNew {O : Over} (o17 : O 62 = refCheckS) (o47 : O 63 = refValuesS) (o48 : O 64 = groupS) (th sl en bu kd dn t0 t1 t2 t3 t4 t5 lo tr ba : Int) (s : Value) (xs : List Int) (h : PT ABlk) (N : Nat) (hW : WfH h N) (hs : IsInts .u64 h s xs) (hl : nonneg xs = true) :
    EvB Try.prog O 29 [.agg ⟨[.int .i64 th, .int .i64 sl, .int .u8 en, .int .i64 bu, .int .u8 kd, .int .i64 dn, s, .int .i64 t0, .int .i64 t1, .int .i64 t2, .int .i64 t3, .int .i64 t4, .int .i64 t5, .int .i64 lo, .int .i64 tr, .int .i64 ba]⟩] h N
      fun v h' n' => (cfgOk th sl en bu kd dn t0 t1 t2 t3 t4 t5 lo tr ba xs = false ∧ v = .tuple ⟨[.pointer none, .int .i64 2]⟩ ∧ Kept h h') ∨ (cfgOk th sl en bu kd dn t0 t1 t2 t3 t4 t5 lo tr ba xs = true ∧ ∃ lb cv hv wv, v = .tuple ⟨[.pointer (some ⟨lb, 0, none⟩), .int .i64 0]⟩ ∧ Kept h h' ∧ N ≤ lb ∧
        h'.get lb = some (.cells (PT.ofList .leaf 0 [Value.int .i64 th, .int .i64 sl, .int .u8 en, .int .i64 bu, .int .u8 kd, .int .i64 dn, cv, .int .i64 t0, .int .i64 t1, .int .i64 t2, .int .i64 t3, .int .i64 t4, .int .i64 t5, .int .i64 lo, .int .i64 tr, .int .i64 ba, .int .i64 (0), .int .i64 (0 + sl * 1), .int .i64 (0 + sl * 1 + 1 * engW en sl bu), .int .i64 (0 + sl * 1 + 1 * engW en sl bu + 1), .int .i64 (0 + sl * 1 + 1 * engW en sl bu + 1 + lo * 3), .int .i64 (0 + sl * 1 + 1 * engW en sl bu + 1 + lo * 3 + lo * 1), .int .i64 (0 + sl * 1 + 1 * engW en sl bu + 1 + lo * 3 + lo * 1 + 6), .int .i64 (p7Of sl en bu lo (hts 1 [t0, t1, t2, t3, t4, t5])), .int .i64 (p7Of sl en bu lo (hts 1 [t0, t1, t2, t3, t4, t5]) + domCount kd dn xs * 7), .int .i64 (adrEnd (p7Of sl en bu lo (hts 1 [t0, t1, t2, t3, t4, t5]) + domCount kd dn xs * 7) (hts 1 [t0, t1, t2, t3, t4, t5])), hv, wv]) false) ∧ IsInts .u64 h' cv xs ∧ IsInts .i64 h' hv (hts 1 [t0, t1, t2, t3, t4, t5]) ∧
        GrowCells 3 h' wv (plcs (whatOf sl en bu lo (domCount kd dn xs) (hts 1 [t0, t1, t2, t3, t4, t5]))) (whatOf sl en bu lo (domCount kd dn xs) (hts 1 [t0, t1, t2, t3, t4, t5])).length) := by
  have hrd := fun h' hk z f d ops r K m n => @EvV_ints _ _ h' _ _ hs z f d ops r K m n hk
  obtain ⟨a, cap, rfl, -⟩ := hs.len
  refine EvB_run (N := 186) Try.func29 rfl rfl ?_
  intro z hP hO hro hN hQ
  repeat' first | simp (maxSteps := 2000000) (disch := first | omega | (repeat first | assumption | exact Kept.refl _ | refine Kept.set' (by assumption) ?_ ?_ | refine Kept.set (by assumption) ?_ ?_ | omega)) only [go_sem, *, Try.results29, refCheckS, errIf_eq] | (first | apply xg1 | apply xc1 | apply xg2 | apply xc2 | apply xc3 | apply xc4 | apply xg3 | apply xg4) <;> intro _ | (first | apply xh1 | apply xh2 | apply xh3 | apply xh4) <;> intro _ | refine EvK_draw (id := 31) (L := w29_31) (by kernel_rfl) (by kernel_rfl) ?_
  · exact ⟨by first | rfl | simp [errIf], hW.kept (Nat.le_refl _)⟩
  · rename_i hcf
    have hl64 := domOk_len (cfgOk_facts (by simpa using hcf)).1
    refine EvV_via2 _ (copy_runS (hs.keep ?_) ?_ ?_ (by omega)) ?_
    · (repeat first | assumption | exact Kept.refl _ | refine Kept.set' (by assumption) ?_ ?_ | omega)
    · (repeat refine WfH.set' (by omega) ?_); first | assumption | exact WfH.mono (by assumption) (by omega)
    · simp (maxSteps := 2000000) (disch := first | omega | (repeat first | assumption | exact Kept.refl _ | refine Kept.set' (by assumption) ?_ ?_ | refine Kept.set (by assumption) ?_ ?_ | omega)) only [go_sem, *]
    · rintro cv h2 n2 ⟨hn2, hW2, hcv, hk2, hsame⟩
      obtain ⟨ca, cc, rfl, -⟩ := hcv.isInts.len
      have e2 : h2.get (N + 1) = _ := (hsame (N + 1) (by omega)).trans (by rw [heap_ne (by omega), heap_same])
      have e1 : h2.get N = _ := (hsame N (by omega)).trans (by rw [heap_ne (by omega), heap_ne (by omega), heap_same])
      have hkh : ∀ i, i < N → h2.get i = h.get i := fun i hi => (hsame i (by omega)).trans (by rw [heap_ne (by omega), heap_ne (by omega), heap_ne (by omega)])
      clear hsame hk2
      have hcfg := hcf
      obtain ⟨c1, ⟨c2, c2'⟩, ⟨c3, c3'⟩, ⟨c4, c4'⟩, ⟨c5, c5'⟩, ⟨c6, c7, c8, c9, c10, c11⟩, c12, c13⟩ := cfgOk_facts (by simpa using hcfg)
      repeat' first | simp (maxSteps := 2000000) (disch := first | omega | (repeat first | assumption | exact Kept.refl _ | refine Kept.set' (by assumption) ?_ ?_ | refine Kept.set (by assumption) ?_ ?_ | omega)) only [go_sem, *, Try.results29] | (first | apply xg1 | apply xc1 | apply xg2 | apply xc2 | apply xc3 | apply xc4 | apply xg3 | apply xg4) <;> intro _ | (first | apply xh1 | apply xh2 | apply xh3 | apply xh4) <;> intro _ | refine EvK_draw (id := 31) (L := w29_31) (by kernel_rfl) (by kernel_rfl) ?_
      have hlen : (hts 1 [t0, t1, t2, t3, t4, t5]).length ≤ 1024 := by simp [hts]; omega
      refine ind_loop (fun t m h' n' => ∃ (i : Nat) (H : List Int) (hv : Value), i ≤ 6 ∧ t = 6 - i ∧ H ++ hts (i + 1) ([t0, t1, t2, t3, t4, t5].drop i) = hts 1 [t0, t1, t2, t3, t4, t5] ∧
        m.n = 186 ∧ m.dfs = [] ∧ m.get 1 = .pointer (some ⟨N, 0, none⟩) ∧ m.get 5 = .pointer (some ⟨N + 1, 0, none⟩) ∧ m.get 6 = .int .i64 (i + 1) ∧
        (∀ j, j < n2 → j ≠ N + 1 → h'.get j = h2.get j) ∧ WfH h' n' ∧ n2 ≤ n' ∧ h'.get (N + 1) = some (.cells (PT.ofList .leaf 0 [Value.int .i64 th, .int .i64 sl, .int .u8 en, .int .i64 bu, .int .u8 kd, .int .i64 dn, .slice ca xs.length cc, .int .i64 t0, .int .i64 t1, .int .i64 t2, .int .i64 t3, .int .i64 t4, .int .i64 t5, .int .i64 lo, .int .i64 tr, .int .i64 ba, .int .i64 0, .int .i64 0, .int .i64 0, .int .i64 0, .int .i64 0, .int .i64 0, .int .i64 0, .int .i64 0, .int .i64 0, .int .i64 0, hv, .slice none 0 0]) false) ∧ GrowInts .i64 h' n2 hv H) 6 ?_ ?_
      · refine ⟨0, [], .slice none 0 0, by omega, by omega, by simp, ?_⟩
        simp (maxSteps := 2000000) (disch := first | omega | (repeat first | assumption | exact Kept.refl _ | refine Kept.set' (by assumption) ?_ ?_ | refine Kept.set (by assumption) ?_ ?_ | omega)) only [go_sem, *]
        refine ⟨fun j h1 h2 => by rw [heap_ne (by omega)], ?_, Nat.le_refl _, .inl ⟨rfl, rfl⟩⟩
        (repeat refine WfH.set' (by omega) ?_); first | assumption | exact WfH.mono (by assumption) (by omega)
      · rintro t m h' n' ih ⟨i, H, hv, hi, rfl, hH, m1, m2, m3, m4, m5, q1, q2, q3, q4, q6⟩
        have e1' : h'.get N = _ := (q1 N (by omega) (by omega)).trans e1
        by_cases hi6 : i < 6
        · obtain ⟨ti, ht1, ht2, ht3⟩ : ∃ ti, ([Value.int .i64 th, .int .i64 sl, .int .u8 en, .int .i64 bu, .int .u8 kd, .int .i64 dn, .slice a xs.length cap, .int .i64 t0, .int .i64 t1, .int .i64 t2, .int .i64 t3, .int .i64 t4, .int .i64 t5, .int .i64 lo, .int .i64 tr, .int .i64 ba] : List Value)[7 + ((i : Int) + 1 - 1).toNat]? = some (.int .i64 ti) ∧ [t0, t1, t2, t3, t4, t5].drop i = ti :: [t0, t1, t2, t3, t4, t5].drop (i + 1) ∧ 0 ≤ ti := by
            have : i = 0 ∨ i = 1 ∨ i = 2 ∨ i = 3 ∨ i = 4 ∨ i = 5 := by omega
            rcases this with rfl | rfl | rfl | rfl | rfl | rfl
            all_goals exact ⟨_, rfl, rfl, by assumption⟩
          rw [ht2, hts] at hH
          have hi7 : (i : Int) + 1 ≤ 6 := by omega
          have hlen2 : H.length + ti.toNat ≤ 1024 := by
            rw [← hH] at hlen
            simp at hlen; omega
          clear ht2
          repeat' first | simp (maxSteps := 2000000) (disch := first | omega | (repeat first | assumption | exact Kept.refl _ | refine Kept.set' (by assumption) ?_ ?_ | refine Kept.set (by assumption) ?_ ?_ | omega)) only [go_sem, *, Try.results29] | (first | apply xg1 | apply xc1 | apply xg2 | apply xc2 | apply xc3 | apply xc4 | apply xg3 | apply xg4) <;> intro _ | (first | apply xh1 | apply xh2 | apply xh3 | apply xh4) <;> intro _ | refine EvK_draw (id := 31) (L := w29_31) (by kernel_rfl) (by kernel_rfl) ?_
          refine ind_loop (fun t m h' n' => ∃ (j : Nat) (X : List Int) (hv : Value), j ≤ ti.toNat ∧ t = ti.toNat - j ∧ X ++ List.replicate (ti.toNat - j) ((i : Int) + 1) = H ++ List.replicate ti.toNat ((i : Int) + 1) ∧
            m.n = 186 ∧ m.dfs = [] ∧ m.get 1 = .pointer (some ⟨N, 0, none⟩) ∧ m.get 5 = .pointer (some ⟨N + 1, 0, none⟩) ∧ m.get 6 = .int .i64 (i + 1) ∧ m.get 7 = .int .i64 j ∧
            (∀ j, j < n2 → j ≠ N + 1 → h'.get j = h2.get j) ∧ WfH h' n' ∧ n2 ≤ n' ∧ h'.get (N + 1) = some (.cells (PT.ofList .leaf 0 [Value.int .i64 th, .int .i64 sl, .int .u8 en, .int .i64 bu, .int .u8 kd, .int .i64 dn, .slice ca xs.length cc, .int .i64 t0, .int .i64 t1, .int .i64 t2, .int .i64 t3, .int .i64 t4, .int .i64 t5, .int .i64 lo, .int .i64 tr, .int .i64 ba, .int .i64 0, .int .i64 0, .int .i64 0, .int .i64 0, .int .i64 0, .int .i64 0, .int .i64 0, .int .i64 0, .int .i64 0, .int .i64 0, hv, .slice none 0 0]) false) ∧ GrowInts .i64 h' n2 hv X) ti.toNat ?_ ?_
          · refine ⟨0, H, hv, by omega, by omega, rfl, ?_⟩
            simp (maxSteps := 2000000) (disch := first | omega | (repeat first | assumption | exact Kept.refl _ | refine Kept.set' (by assumption) ?_ ?_ | refine Kept.set (by assumption) ?_ ?_ | omega)) only [go_sem, *]
            exact q1
          · clear m1 m2 m3 m4 m5 q1 q2 q3 q4 q6 e1'
            rintro t m h' n' ih2 ⟨j, X, hv, hj, rfl, hX, m1, m2, m3, m4, m5, m6, q1, q2, q3, q4, q6⟩
            have e1' : h'.get N = _ := (q1 N (by omega) (by omega)).trans e1
            have hXl : X.length + (ti.toNat - j) ≤ 1024 := by
              have := congrArg List.length hX
              simp at this; omega
            by_cases hjt : j < ti.toNat
            · have hj7 : (j : Int) < ti := by omega
              clear ih
              have hX2 : X ++ [(i : Int) + 1] ++ List.replicate (ti.toNat - (j + 1)) ((i : Int) + 1) = H ++ List.replicate ti.toNat ((i : Int) + 1) := by
                rw [← hX, show ti.toNat - j = (ti.toNat - (j + 1)) + 1 by omega, List.replicate_succ]; simp
              clear hX hH
              rcases q6 with ⟨rfl, hx⟩ | ⟨b, rfl, hb1, hb2⟩
              · subst hx
                repeat' first | simp (maxSteps := 2000000) (disch := first | omega | (repeat first | assumption | exact Kept.refl _ | refine Kept.set' (by assumption) ?_ ?_ | refine Kept.set (by assumption) ?_ ?_ | omega)) only [go_sem, *, Try.results29] | (first | apply xg1 | apply xc1 | apply xg2 | apply xc2 | apply xc3 | apply xc4 | apply xg3 | apply xg4) <;> intro _ | (first | apply xh1 | apply xh2 | apply xh3 | apply xh4) <;> intro _ | refine EvK_draw (id := 31) (L := w29_31) (by kernel_rfl) (by kernel_rfl) ?_
                refine ih2 (ti.toNat - (j + 1)) _ _ _ (by omega) ⟨j + 1, [(i : Int) + 1], .slice (some ⟨n' + 1, 0, none⟩) 1 (capInf + 1), by omega, by omega, hX2, ?_⟩
                clear ih2
                simp (maxSteps := 2000000) (disch := first | omega | (repeat first | assumption | exact Kept.refl _ | refine Kept.set' (by assumption) ?_ ?_ | refine Kept.set (by assumption) ?_ ?_ | omega)) only [go_sem, *]
                refine ⟨by simp, fun j h1 h2 => ?_, ?_, by omega, .inr ⟨n' + 1, rfl, by omega, ?_⟩⟩
                · simp (disch := omega) only [heap_ne]
                  exact q1 j h1 h2
                · (repeat refine WfH.set' (by omega) ?_); first | assumption | exact WfH.mono (by assumption) (by omega)
                · simp (disch := omega) only [go_sem]
              · have hb3 := q2.lt hb2
                repeat' first | simp (maxSteps := 2000000) (disch := first | omega | (repeat first | assumption | exact Kept.refl _ | refine Kept.set' (by assumption) ?_ ?_ | refine Kept.set (by assumption) ?_ ?_ | omega)) only [go_sem, *, Try.results29] | (first | apply xg1 | apply xc1 | apply xg2 | apply xc2 | apply xc3 | apply xc4 | apply xg3 | apply xg4) <;> intro _ | (first | apply xh1 | apply xh2 | apply xh3 | apply xh4) <;> intro _ | refine EvK_draw (id := 31) (L := w29_31) (by kernel_rfl) (by kernel_rfl) ?_
                refine ih2 (ti.toNat - (j + 1)) _ _ _ (by omega) ⟨j + 1, X ++ [(i : Int) + 1], .slice (some ⟨n' + 1, 0, none⟩) (X.length + 1) (capInf + 1), by omega, by omega, hX2, ?_⟩
                clear ih2
                simp (maxSteps := 2000000) (disch := first | omega | (repeat first | assumption | exact Kept.refl _ | refine Kept.set' (by assumption) ?_ ?_ | refine Kept.set (by assumption) ?_ ?_ | omega)) only [go_sem, *]
                refine ⟨by simp, fun j h1 h2 => ?_, ?_, by omega, .inr ⟨n' + 1, ?_, by omega, ?_⟩⟩
                · simp (disch := omega) only [heap_ne]
                  exact q1 j h1 h2
                · (repeat refine WfH.set' (by omega) ?_); first | assumption | exact WfH.mono (by assumption) (by omega)
                · simp
                · simp (disch := omega) only [go_sem, List.map_append]
            · have hj7 : ¬ (j : Int) < ti := by omega
              clear ih2
              have hX2 : X = H ++ List.replicate ti.toNat ((i : Int) + 1) := by
                rw [← hX, show ti.toNat - j = 0 by omega]; simp
              rw [← List.append_assoc, ← hX2] at hH
              clear hX hX2
              repeat' first | simp (maxSteps := 2000000) (disch := first | omega | (repeat first | assumption | exact Kept.refl _ | refine Kept.set' (by assumption) ?_ ?_ | refine Kept.set (by assumption) ?_ ?_ | omega)) only [go_sem, *, Try.results29] | (first | apply xg1 | apply xc1 | apply xg2 | apply xc2 | apply xc3 | apply xc4 | apply xg3 | apply xg4) <;> intro _ | (first | apply xh1 | apply xh2 | apply xh3 | apply xh4) <;> intro _ | refine EvK_draw (id := 31) (L := w29_31) (by kernel_rfl) (by kernel_rfl) ?_
              refine ih (6 - (i + 1)) _ _ _ (by omega) ⟨i + 1, X, hv, by omega, by omega, by simpa using hH, ?_⟩
              clear ih
              simp (maxSteps := 2000000) (disch := first | omega | (repeat first | assumption | exact Kept.refl _ | refine Kept.set' (by assumption) ?_ ?_ | refine Kept.set (by assumption) ?_ ?_ | omega)) only [go_sem, *]
              exact ⟨by simp, q1⟩
        · have hi7 : ¬ (i : Int) + 1 ≤ 6 := by omega
          obtain rfl : i = 6 := by omega
          have hH2 : H = hts 1 [t0, t1, t2, t3, t4, t5] := by simpa [hts] using hH
          subst hH2
          clear ih hH hi hi6
          have hHb : ∀ i, i < (hts 1 [t0, t1, t2, t3, t4, t5]).length → 1 ≤ (hts 1 [t0, t1, t2, t3, t4, t5]).getD i 0 ∧ (hts 1 [t0, t1, t2, t3, t4, t5]).getD i 0 ≤ 6 := fun i hi => by
            refine hts_bound [t0, t1, t2, t3, t4, t5] 1 1 6 (by omega) (by simp) _ ?_
            simp [List.getD, hi]
          generalize hts 1 [t0, t1, t2, t3, t4, t5] = H at *
          have hHl : H.length ≤ 1024 := hlen
          obtain ⟨ha, hc, rfl, -⟩ := q6.isInts.len
          have d1 : -1000 ≤ sl := by omega
          have d2 : sl ≤ 1000 := by omega
          have d3 : -1000 ≤ bu := by omega
          have d4 : bu ≤ 1000 := by omega
          obtain ⟨d5, d6⟩ := engW_bound (en := en) c3 c3' c4 c4'
          obtain ⟨d7, d8⟩ := domCount_pos c1
          have hk' : Kept h h' := fun i B e => by
            have := hW.lt e
            rw [q1 i (by omega) (by omega), hkh i this]; exact e
          have hcfO : domOk kd dn xs = true := c1
          repeat' first | simp (maxSteps := 2000000) (disch := first | omega | (repeat first | assumption | exact Kept.refl _ | refine Kept.set' (by assumption) ?_ ?_ | refine Kept.set (by assumption) ?_ ?_ | omega)) only [go_sem, *, Try.results29, refValuesS] | (first | apply xg1 | apply xc1 | apply xg2 | apply xc2 | apply xc3 | apply xc4 | apply xg3 | apply xg4) <;> intro _ | (first | apply xh1 | apply xh2 | apply xh3 | apply xh4) <;> intro _ | refine EvK_draw (id := 31) (L := w29_31) (by kernel_rfl) (by kernel_rfl) ?_
          · -- the engine's words: 2 * sl
            obtain rfl : en = 2 := by omega
            have g0 : GS h' n' (N + 1) h' n' (.slice none 0 0) [] := ⟨q2, Nat.le_refl _, .inl ⟨rfl, rfl, rfl⟩, (fun b k c e => by cases e), fun _ _ _ => rfl⟩
            refine EvQ_via (group_note (h3 := h') (n3 := n') g0 (by omega) q4 rfl rfl (by simp only [List.length_append, grp_length, List.length_nil]; omega) (by omega) (by omega) (by omega) (by omega) (by omega)) ?_
            rintro v hq0 nq0 ⟨rfl, wq0, bq0, gq0, fq0⟩
            simp only [List.set_cons_succ, List.set_cons_zero] at bq0
            have eq0 : hq0.get N = _ := (fq0 N (by omega) (by omega)).trans e1'
            repeat' first | simp (maxSteps := 2000000) (disch := first | omega | (repeat first | assumption | exact Kept.refl _ | refine Kept.set' (by assumption) ?_ ?_ | refine Kept.set (by assumption) ?_ ?_ | omega)) only [go_sem, *, Try.results29] | (first | apply xg1 | apply xc1 | apply xg2 | apply xc2 | apply xc3 | apply xc4 | apply xg3 | apply xg4) <;> intro _ | (first | apply xh1 | apply xh2 | apply xh3 | apply xh4) <;> intro _ | refine EvK_draw (id := 31) (L := w29_31) (by kernel_rfl) (by kernel_rfl) ?_
            refine EvQ_via (group_note (h3 := h') (n3 := n') (gq0.setlb (by omega) rfl) (by omega) heap_same rfl rfl (by simp only [List.length_append, grp_length, List.length_nil]; omega) (by omega) (by omega) (by omega) (by omega) (by omega)) ?_
            rintro v hq1 nq1 ⟨rfl, wq1, bq1, gq1, fq1⟩
            simp only [List.set_cons_succ, List.set_cons_zero] at bq1
            have eq1 : hq1.get N = _ := (fq1 N (by omega) (by omega)).trans e1'
            repeat' first | simp (maxSteps := 2000000) (disch := first | omega | (repeat first | assumption | exact Kept.refl _ | refine Kept.set' (by assumption) ?_ ?_ | refine Kept.set (by assumption) ?_ ?_ | omega)) only [go_sem, *, Try.results29] | (first | apply xg1 | apply xc1 | apply xg2 | apply xc2 | apply xc3 | apply xc4 | apply xg3 | apply xg4) <;> intro _ | (first | apply xh1 | apply xh2 | apply xh3 | apply xh4) <;> intro _ | refine EvK_draw (id := 31) (L := w29_31) (by kernel_rfl) (by kernel_rfl) ?_
            refine EvQ_via (group_note (h3 := h') (n3 := n') (gq1.setlb (by omega) rfl) (by omega) heap_same rfl rfl (by simp only [List.length_append, grp_length, List.length_nil]; omega) (by omega) (by omega) (by omega) (by omega) (by omega)) ?_
            rintro v hq2 nq2 ⟨rfl, wq2, bq2, gq2, fq2⟩
            simp only [List.set_cons_succ, List.set_cons_zero] at bq2
            have eq2 : hq2.get N = _ := (fq2 N (by omega) (by omega)).trans e1'
            repeat' first | simp (maxSteps := 2000000) (disch := first | omega | (repeat first | assumption | exact Kept.refl _ | refine Kept.set' (by assumption) ?_ ?_ | refine Kept.set (by assumption) ?_ ?_ | omega)) only [go_sem, *, Try.results29] | (first | apply xg1 | apply xc1 | apply xg2 | apply xc2 | apply xc3 | apply xc4 | apply xg3 | apply xg4) <;> intro _ | (first | apply xh1 | apply xh2 | apply xh3 | apply xh4) <;> intro _ | refine EvK_draw (id := 31) (L := w29_31) (by kernel_rfl) (by kernel_rfl) ?_
            refine EvQ_via (group_note (h3 := h') (n3 := n') (gq2.setlb (by omega) rfl) (by omega) heap_same rfl rfl (by simp only [List.length_append, grp_length, List.length_nil]; omega) (by omega) (by omega) (by omega) (by omega) (by omega)) ?_
            rintro v hq3 nq3 ⟨rfl, wq3, bq3, gq3, fq3⟩
            simp only [List.set_cons_succ, List.set_cons_zero] at bq3
            have eq3 : hq3.get N = _ := (fq3 N (by omega) (by omega)).trans e1'
            repeat' first | simp (maxSteps := 2000000) (disch := first | omega | (repeat first | assumption | exact Kept.refl _ | refine Kept.set' (by assumption) ?_ ?_ | refine Kept.set (by assumption) ?_ ?_ | omega)) only [go_sem, *, Try.results29] | (first | apply xg1 | apply xc1 | apply xg2 | apply xc2 | apply xc3 | apply xc4 | apply xg3 | apply xg4) <;> intro _ | (first | apply xh1 | apply xh2 | apply xh3 | apply xh4) <;> intro _ | refine EvK_draw (id := 31) (L := w29_31) (by kernel_rfl) (by kernel_rfl) ?_
            refine EvQ_via (group_note (h3 := h') (n3 := n') (gq3.setlb (by omega) rfl) (by omega) heap_same rfl rfl (by simp only [List.length_append, grp_length, List.length_nil]; omega) (by omega) (by omega) (by omega) (by omega) (by omega)) ?_
            rintro v hq4 nq4 ⟨rfl, wq4, bq4, gq4, fq4⟩
            simp only [List.set_cons_succ, List.set_cons_zero] at bq4
            have eq4 : hq4.get N = _ := (fq4 N (by omega) (by omega)).trans e1'
            repeat' first | simp (maxSteps := 2000000) (disch := first | omega | (repeat first | assumption | exact Kept.refl _ | refine Kept.set' (by assumption) ?_ ?_ | refine Kept.set (by assumption) ?_ ?_ | omega)) only [go_sem, *, Try.results29] | (first | apply xg1 | apply xc1 | apply xg2 | apply xc2 | apply xc3 | apply xc4 | apply xg3 | apply xg4) <;> intro _ | (first | apply xh1 | apply xh2 | apply xh3 | apply xh4) <;> intro _ | refine EvK_draw (id := 31) (L := w29_31) (by kernel_rfl) (by kernel_rfl) ?_
            refine EvQ_via (group_note (h3 := h') (n3 := n') (gq4.setlb (by omega) rfl) (by omega) heap_same rfl rfl (by simp only [List.length_append, grp_length, List.length_nil]; omega) (by omega) (by omega) (by omega) (by omega) (by omega)) ?_
            rintro v hq5 nq5 ⟨rfl, wq5, bq5, gq5, fq5⟩
            simp only [List.set_cons_succ, List.set_cons_zero] at bq5
            have eq5 : hq5.get N = _ := (fq5 N (by omega) (by omega)).trans e1'
            repeat' first | simp (maxSteps := 2000000) (disch := first | omega | (repeat first | assumption | exact Kept.refl _ | refine Kept.set' (by assumption) ?_ ?_ | refine Kept.set (by assumption) ?_ ?_ | omega)) only [go_sem, *, Try.results29] | (first | apply xg1 | apply xc1 | apply xg2 | apply xc2 | apply xc3 | apply xc4 | apply xg3 | apply xg4) <;> intro _ | (first | apply xh1 | apply xh2 | apply xh3 | apply xh4) <;> intro _ | refine EvK_draw (id := 31) (L := w29_31) (by kernel_rfl) (by kernel_rfl) ?_
            refine EvQ_via (group_note (h3 := h') (n3 := n') (gq5.setlb (by omega) rfl) (by omega) heap_same rfl rfl (by simp only [List.length_append, grp_length, List.length_nil]; omega) (by omega) (by omega) (by omega) (by omega) (by omega)) ?_
            rintro v hq6 nq6 ⟨rfl, wq6, bq6, gq6, fq6⟩
            simp only [List.set_cons_succ, List.set_cons_zero] at bq6
            have eq6 : hq6.get N = _ := (fq6 N (by omega) (by omega)).trans e1'
            repeat' first | simp (maxSteps := 2000000) (disch := first | omega | (repeat first | assumption | exact Kept.refl _ | refine Kept.set' (by assumption) ?_ ?_ | refine Kept.set (by assumption) ?_ ?_ | omega)) only [go_sem, *, Try.results29] | (first | apply xg1 | apply xc1 | apply xg2 | apply xc2 | apply xc3 | apply xc4 | apply xg3 | apply xg4) <;> intro _ | (first | apply xh1 | apply xh2 | apply xh3 | apply xh4) <;> intro _ | refine EvK_draw (id := 31) (L := w29_31) (by kernel_rfl) (by kernel_rfl) ?_
            refine EvQ_via (group_note (h3 := h') (n3 := n') (gq6.setlb (by omega) rfl) (by omega) heap_same rfl rfl (by simp only [List.length_append, grp_length, List.length_nil]; omega) (by omega) (by omega) (by omega) (by omega) (by omega)) ?_
            rintro v hq7 nq7 ⟨rfl, wq7, bq7, gq7, fq7⟩
            simp only [List.set_cons_succ, List.set_cons_zero] at bq7
            have eq7 : hq7.get N = _ := (fq7 N (by omega) (by omega)).trans e1'
            obtain ⟨W8, hW8⟩ : ∃ W8, (((((((([] ++ grp 1 0 (1 : Int).toNat (sl : Int).toNat) ++ grp 2 0 (2 * sl : Int).toNat (2 * sl : Int).toNat) ++ grp 3 0 (1 : Int).toNat (1 : Int).toNat) ++ grp 4 0 (3 : Int).toNat (3 * lo : Int).toNat) ++ grp 5 0 (1 : Int).toNat (lo : Int).toNat) ++ grp 6 0 (1 : Int).toNat (6 : Int).toNat) ++ grp 7 1 (1 : Int).toNat (H.length : Int).toNat) ++ grp 8 0 (7 : Int).toNat (domCount kd dn xs * 7 : Int).toNat) = W8 := ⟨_, rfl⟩
            rw [hW8] at gq7
            have hW8l : W8.length ≤ 4000 := by rw [← hW8]; simp only [List.length_append, grp_length, List.length_nil]; omega
            obtain ⟨wa, wc, rfl⟩ := gq7.len
            repeat' first | simp (maxSteps := 2000000) (disch := first | omega | (repeat first | assumption | exact Kept.refl _ | refine Kept.set' (by assumption) ?_ ?_ | refine Kept.set (by assumption) ?_ ?_ | omega)) only [go_sem, *, Try.results29] | (first | apply xg1 | apply xc1 | apply xg2 | apply xc2 | apply xc3 | apply xc4 | apply xg3 | apply xg4) <;> intro _ | (first | apply xh1 | apply xh2 | apply xh3 | apply xh4) <;> intro _ | refine EvK_draw (id := 31) (L := w29_31) (by kernel_rfl) (by kernel_rfl) ?_
            have hE : engW 2 sl bu = 2 * sl := by unfold engW; rw [if_neg (by omega), if_pos (by omega)]
            refine ind_loop (fun t m h4 n4 => ∃ (j : Nat) (wv : Value) (W : List (Int × Int × Int)), j ≤ H.length ∧ t = H.length - j ∧ W ++ twrs (j + 1) (H.drop j) = W8 ++ twrs 1 H ∧ W.length ≤ 4000 + 11 * j ∧
              m.n = 186 ∧ m.dfs = [] ∧ m.get 5 = .pointer (some ⟨N + 1, 0, none⟩) ∧ m.get 11 = .int .i64 (j + 1) ∧ h4.get (N + 1) = some (.cells (PT.ofList .leaf 0 [Value.int .i64 th, .int .i64 sl, .int .u8 2, .int .i64 bu, .int .u8 kd, .int .i64 dn, .slice ca xs.length cc, .int .i64 t0, .int .i64 t1, .int .i64 t2, .int .i64 t3, .int .i64 t4, .int .i64 t5, .int .i64 lo, .int .i64 tr, .int .i64 ba, .int .i64 (0), .int .i64 (0 + sl * 1), .int .i64 (0 + sl * 1 + 1 * engW 2 sl bu), .int .i64 (0 + sl * 1 + 1 * engW 2 sl bu + 1), .int .i64 (0 + sl * 1 + 1 * engW 2 sl bu + 1 + lo * 3), .int .i64 (0 + sl * 1 + 1 * engW 2 sl bu + 1 + lo * 3 + lo * 1), .int .i64 (0 + sl * 1 + 1 * engW 2 sl bu + 1 + lo * 3 + lo * 1 + 6), .int .i64 (p7Of sl 2 bu lo H), .int .i64 (p7Of sl 2 bu lo H + domCount kd dn xs * 7), .int .i64 0, .slice ha H.length hc, wv]) false) ∧ GS h' n' (N + 1) h4 n4 wv W) H.length ?_ ?_
            · refine ⟨0, .slice wa W8.length wc, W8, by omega, by omega, rfl, by omega, ?_⟩
              simp (maxSteps := 2000000) (disch := first | omega | (repeat first | assumption | exact Kept.refl _ | refine Kept.set' (by assumption) ?_ ?_ | refine Kept.set (by assumption) ?_ ?_ | omega)) only [go_sem, *]
              have hlW : W8.length = sl.toNat + (2 * sl).toNat + 1 + (3 * lo).toNat + lo.toNat + 6 + H.length + (domCount kd dn xs * 7).toNat := by
                rw [← hW8]; simp only [List.length_append, grp_length, List.length_nil]; omega
              refine ⟨?_, (gq7.setlb (by omega) rfl).setlb (by omega) rfl⟩
              refine congrArg (fun l => ABlk.cells (PT.ofList .leaf 0 l) false) ?_
              simp only [List.cons.injEq, Value.int.injEq, true_and, and_true, grp_length, hE, p7Of]
              repeat' first | (apply And.intro) | rfl | omega
            · clear m1 m2 m3 m4 m5 q4 gq7 bq7 eq7 fq7
              rintro t m h4 n4 ih ⟨j, wv, W, hj, rfl, hWs, hWl, m1, m2, m3, m4, r1, r2⟩
              have r3 := r2.same
              by_cases hlt : j < H.length
              · rcases q6 with ⟨_, rfl⟩ | ⟨b, e, hb1, hb2⟩
                · simp at hlt
                · cases e
                  have hb3 := q2.lt hb2
                  have hb4 := (r3 b (by omega) (by omega)).trans hb2
                  obtain ⟨hx1, hx2⟩ := hHb j hlt
                  have hLi : (H.map (Value.int .i64))[((j : Int) + 1 - 1).toNat]? = some (.int .i64 (H.getD j 0)) := by
                    rw [show ((j : Int) + 1 - 1).toNat = j by omega]; simp [List.getElem?_map, hlt, List.getD]
                  have hdr : H.drop j = H.getD j 0 :: H.drop (j + 1) := by rw [List.drop_eq_getElem_cons hlt]; simp [List.getD, hlt]
                  rw [hdr, twrs] at hWs
                  have hi7 : (j : Int) + 1 ≤ H.length := by omega
                  generalize H.getD j 0 = x at *
                  repeat' first | simp (maxSteps := 2000000) (disch := first | omega | (repeat first | assumption | exact Kept.refl _ | refine Kept.set' (by assumption) ?_ ?_ | refine Kept.set (by assumption) ?_ ?_ | omega)) only [go_sem, *, Try.results29] | (first | apply xg1 | apply xc1 | apply xg2 | apply xc2 | apply xc3 | apply xc4 | apply xg3 | apply xg4) <;> intro _ | (first | apply xh1 | apply xh2 | apply xh3 | apply xh4) <;> intro _ | refine EvK_draw (id := 31) (L := w29_31) (by kernel_rfl) (by kernel_rfl) ?_
                  refine EvXQ_via (group_note (h3 := h') (n3 := n') r2 (by omega) r1 rfl rfl (by omega) (by omega) (by omega) (by omega) (by omega) (by omega)) ?_
                  rintro v h5 n5 rd5 wr5 ⟨rfl, w5, b5, g5, f5⟩
                  simp only [List.set_cons_succ, List.set_cons_zero] at b5
                  repeat' first | simp (maxSteps := 2000000) (disch := first | omega | (repeat first | assumption | exact Kept.refl _ | refine Kept.set' (by assumption) ?_ ?_ | refine Kept.set (by assumption) ?_ ?_ | omega)) only [go_sem, *, Try.results29] | (first | apply xg1 | apply xc1 | apply xg2 | apply xc2 | apply xc3 | apply xc4 | apply xg3 | apply xg4) <;> intro _ | (first | apply xh1 | apply xh2 | apply xh3 | apply xh4) <;> intro _ | refine EvK_draw (id := 31) (L := w29_31) (by kernel_rfl) (by kernel_rfl) ?_
                  refine ih (H.length - (j + 1)) _ _ _ (by omega) ⟨j + 1, w5, W ++ grp 9 (j + 1) (5 + x).toNat (5 + x).toNat, by omega, by omega, ?_, ?_, ?_⟩
                  · rw [← hWs, List.append_assoc]; rfl
                  · simp only [List.length_append, grp_length]; omega
                  clear ih
                  simp (maxSteps := 2000000) (disch := first | omega | (repeat first | assumption | exact Kept.refl _ | refine Kept.set' (by assumption) ?_ ?_ | refine Kept.set (by assumption) ?_ ?_ | omega)) only [go_sem, *]
                  first | exact ⟨by simp, g5⟩ | simp
              · have hi7 : ¬ (j : Int) + 1 ≤ H.length := by omega
                clear ih
                rw [List.drop_eq_nil_of_le (by omega), twrs, List.append_nil] at hWs
                obtain ⟨wa2, wc2, rfl⟩ := r2.len
                repeat' first | simp (maxSteps := 2000000) (disch := first | omega | (repeat first | assumption | exact Kept.refl _ | refine Kept.set' (by assumption) ?_ ?_ | refine Kept.set (by assumption) ?_ ?_ | omega)) only [go_sem, *, Try.results29] | (first | apply xg1 | apply xc1 | apply xg2 | apply xc2 | apply xc3 | apply xc4 | apply xg3 | apply xg4) <;> intro _ | (first | apply xh1 | apply xh2 | apply xh3 | apply xh4) <;> intro _ | refine EvK_draw (id := 31) (L := w29_31) (by kernel_rfl) (by kernel_rfl) ?_
                have hlW : W8.length = sl.toNat + (2 * sl).toNat + 1 + (3 * lo).toNat + lo.toNat + 6 + H.length + (domCount kd dn xs * 7).toNat := by
                  rw [← hW8]; simp only [List.length_append, grp_length, List.length_nil]; omega
                have hte := twrs_end H 1 (p7Of sl 2 bu lo H + domCount kd dn xs * 7) (fun i hi => (hHb i hi).1)
                have hwhat : whatOf sl 2 bu lo (domCount kd dn xs) H = W8 ++ twrs 1 H := by
                  rw [← hW8]; unfold whatOf; rw [hE]; rfl
                refine ⟨N + 1, .slice ca xs.length cc, .slice ha H.length hc, .slice wa2 (W8.length + (twrs 1 H).length) wc2, rfl, fun i B e => ?_, by omega, ?_, hcv.far fun i B h1 h2 e => ?_, GrowInts.isInts (GrowInts.moved q6 fun i B hi e => ?_), ?_⟩
                · have := hW.lt e
                  rw [heap_ne (by omega), r3 i (by omega) (by omega), q1 i (by omega) (by omega), hkh i this]; exact e
                · rw [heap_same]
                  refine congrArg (fun l => some (ABlk.cells (PT.ofList .leaf 0 l) false)) ?_
                  simp only [List.cons.injEq, Value.int.injEq, true_and, and_true]
                  rw [hte]
                  simp only [p7Of, hE]
                  omega
                · rw [heap_ne (by omega), r3 i (by omega) (by omega), q1 i (by omega) (by omega)]; exact e
                · have := q2.lt e
                  rw [heap_ne (by omega), r3 i (by omega) (by omega)]; exact e
                · subst hWs
                  have hgl : ∀ B, GrowCells 3 (h4.set (N + 1) B) (.slice wa2 (W8 ++ twrs 1 H).length wc2) (plcs (W8 ++ twrs 1 H)) (W8 ++ twrs 1 H).length := fun B => (r2.setlb (by omega) rfl).row
                  rw [hwhat]
                  simp only [List.length_append] at hgl ⊢
                  exact hgl _
          · -- the engine's words: 4 * bu
            obtain rfl : en = 3 := by omega
            have g0 : GS h' n' (N + 1) h' n' (.slice none 0 0) [] := ⟨q2, Nat.le_refl _, .inl ⟨rfl, rfl, rfl⟩, (fun b k c e => by cases e), fun _ _ _ => rfl⟩
            refine EvQ_via (group_note (h3 := h') (n3 := n') g0 (by omega) q4 rfl rfl (by simp only [List.length_append, grp_length, List.length_nil]; omega) (by omega) (by omega) (by omega) (by omega) (by omega)) ?_
            rintro v hq0 nq0 ⟨rfl, wq0, bq0, gq0, fq0⟩
            simp only [List.set_cons_succ, List.set_cons_zero] at bq0
            have eq0 : hq0.get N = _ := (fq0 N (by omega) (by omega)).trans e1'
            repeat' first | simp (maxSteps := 2000000) (disch := first | omega | (repeat first | assumption | exact Kept.refl _ | refine Kept.set' (by assumption) ?_ ?_ | refine Kept.set (by assumption) ?_ ?_ | omega)) only [go_sem, *, Try.results29] | (first | apply xg1 | apply xc1 | apply xg2 | apply xc2 | apply xc3 | apply xc4 | apply xg3 | apply xg4) <;> intro _ | (first | apply xh1 | apply xh2 | apply xh3 | apply xh4) <;> intro _ | refine EvK_draw (id := 31) (L := w29_31) (by kernel_rfl) (by kernel_rfl) ?_
            refine EvQ_via (group_note (h3 := h') (n3 := n') (gq0.setlb (by omega) rfl) (by omega) heap_same rfl rfl (by simp only [List.length_append, grp_length, List.length_nil]; omega) (by omega) (by omega) (by omega) (by omega) (by omega)) ?_
            rintro v hq1 nq1 ⟨rfl, wq1, bq1, gq1, fq1⟩
            simp only [List.set_cons_succ, List.set_cons_zero] at bq1
            have eq1 : hq1.get N = _ := (fq1 N (by omega) (by omega)).trans e1'
            repeat' first | simp (maxSteps := 2000000) (disch := first | omega | (repeat first | assumption | exact Kept.refl _ | refine Kept.set' (by assumption) ?_ ?_ | refine Kept.set (by assumption) ?_ ?_ | omega)) only [go_sem, *, Try.results29] | (first | apply xg1 | apply xc1 | apply xg2 | apply xc2 | apply xc3 | apply xc4 | apply xg3 | apply xg4) <;> intro _ | (first | apply xh1 | apply xh2 | apply xh3 | apply xh4) <;> intro _ | refine EvK_draw (id := 31) (L := w29_31) (by kernel_rfl) (by kernel_rfl) ?_
            refine EvQ_via (group_note (h3 := h') (n3 := n') (gq1.setlb (by omega) rfl) (by omega) heap_same rfl rfl (by simp only [List.length_append, grp_length, List.length_nil]; omega) (by omega) (by omega) (by omega) (by omega) (by omega)) ?_
            rintro v hq2 nq2 ⟨rfl, wq2, bq2, gq2, fq2⟩
            simp only [List.set_cons_succ, List.set_cons_zero] at bq2
            have eq2 : hq2.get N = _ := (fq2 N (by omega) (by omega)).trans e1'
            repeat' first | simp (maxSteps := 2000000) (disch := first | omega | (repeat first | assumption | exact Kept.refl _ | refine Kept.set' (by assumption) ?_ ?_ | refine Kept.set (by assumption) ?_ ?_ | omega)) only [go_sem, *, Try.results29] | (first | apply xg1 | apply xc1 | apply xg2 | apply xc2 | apply xc3 | apply xc4 | apply xg3 | apply xg4) <;> intro _ | (first | apply xh1 | apply xh2 | apply xh3 | apply xh4) <;> intro _ | refine EvK_draw (id := 31) (L := w29_31) (by kernel_rfl) (by kernel_rfl) ?_
            refine EvQ_via (group_note (h3 := h') (n3 := n') (gq2.setlb (by omega) rfl) (by omega) heap_same rfl rfl (by simp only [List.length_append, grp_length, List.length_nil]; omega) (by omega) (by omega) (by omega) (by omega) (by omega)) ?_
            rintro v hq3 nq3 ⟨rfl, wq3, bq3, gq3, fq3⟩
            simp only [List.set_cons_succ, List.set_cons_zero] at bq3
            have eq3 : hq3.get N = _ := (fq3 N (by omega) (by omega)).trans e1'
            repeat' first | simp (maxSteps := 2000000) (disch := first | omega | (repeat first | assumption | exact Kept.refl _ | refine Kept.set' (by assumption) ?_ ?_ | refine Kept.set (by assumption) ?_ ?_ | omega)) only [go_sem, *, Try.results29] | (first | apply xg1 | apply xc1 | apply xg2 | apply xc2 | apply xc3 | apply xc4 | apply xg3 | apply xg4) <;> intro _ | (first | apply xh1 | apply xh2 | apply xh3 | apply xh4) <;> intro _ | refine EvK_draw (id := 31) (L := w29_31) (by kernel_rfl) (by kernel_rfl) ?_
            refine EvQ_via (group_note (h3 := h') (n3 := n') (gq3.setlb (by omega) rfl) (by omega) heap_same rfl rfl (by simp only [List.length_append, grp_length, List.length_nil]; omega) (by omega) (by omega) (by omega) (by omega) (by omega)) ?_
            rintro v hq4 nq4 ⟨rfl, wq4, bq4, gq4, fq4⟩
            simp only [List.set_cons_succ, List.set_cons_zero] at bq4
            have eq4 : hq4.get N = _ := (fq4 N (by omega) (by omega)).trans e1'
            repeat' first | simp (maxSteps := 2000000) (disch := first | omega | (repeat first | assumption | exact Kept.refl _ | refine Kept.set' (by assumption) ?_ ?_ | refine Kept.set (by assumption) ?_ ?_ | omega)) only [go_sem, *, Try.results29] | (first | apply xg1 | apply xc1 | apply xg2 | apply xc2 | apply xc3 | apply xc4 | apply xg3 | apply xg4) <;> intro _ | (first | apply xh1 | apply xh2 | apply xh3 | apply xh4) <;> intro _ | refine EvK_draw (id := 31) (L := w29_31) (by kernel_rfl) (by kernel_rfl) ?_
            refine EvQ_via (group_note (h3 := h') (n3 := n') (gq4.setlb (by omega) rfl) (by omega) heap_same rfl rfl (by simp only [List.length_append, grp_length, List.length_nil]; omega) (by omega) (by omega) (by omega) (by omega) (by omega)) ?_
            rintro v hq5 nq5 ⟨rfl, wq5, bq5, gq5, fq5⟩
            simp only [List.set_cons_succ, List.set_cons_zero] at bq5
            have eq5 : hq5.get N = _ := (fq5 N (by omega) (by omega)).trans e1'
            repeat' first | simp (maxSteps := 2000000) (disch := first | omega | (repeat first | assumption | exact Kept.refl _ | refine Kept.set' (by assumption) ?_ ?_ | refine Kept.set (by assumption) ?_ ?_ | omega)) only [go_sem, *, Try.results29] | (first | apply xg1 | apply xc1 | apply xg2 | apply xc2 | apply xc3 | apply xc4 | apply xg3 | apply xg4) <;> intro _ | (first | apply xh1 | apply xh2 | apply xh3 | apply xh4) <;> intro _ | refine EvK_draw (id := 31) (L := w29_31) (by kernel_rfl) (by kernel_rfl) ?_
            refine EvQ_via (group_note (h3 := h') (n3 := n') (gq5.setlb (by omega) rfl) (by omega) heap_same rfl rfl (by simp only [List.length_append, grp_length, List.length_nil]; omega) (by omega) (by omega) (by omega) (by omega) (by omega)) ?_
            rintro v hq6 nq6 ⟨rfl, wq6, bq6, gq6, fq6⟩
            simp only [List.set_cons_succ, List.set_cons_zero] at bq6
            have eq6 : hq6.get N = _ := (fq6 N (by omega) (by omega)).trans e1'
            repeat' first | simp (maxSteps := 2000000) (disch := first | omega | (repeat first | assumption | exact Kept.refl _ | refine Kept.set' (by assumption) ?_ ?_ | refine Kept.set (by assumption) ?_ ?_ | omega)) only [go_sem, *, Try.results29] | (first | apply xg1 | apply xc1 | apply xg2 | apply xc2 | apply xc3 | apply xc4 | apply xg3 | apply xg4) <;> intro _ | (first | apply xh1 | apply xh2 | apply xh3 | apply xh4) <;> intro _ | refine EvK_draw (id := 31) (L := w29_31) (by kernel_rfl) (by kernel_rfl) ?_
            refine EvQ_via (group_note (h3 := h') (n3 := n') (gq6.setlb (by omega) rfl) (by omega) heap_same rfl rfl (by simp only [List.length_append, grp_length, List.length_nil]; omega) (by omega) (by omega) (by omega) (by omega) (by omega)) ?_
            rintro v hq7 nq7 ⟨rfl, wq7, bq7, gq7, fq7⟩
            simp only [List.set_cons_succ, List.set_cons_zero] at bq7
            have eq7 : hq7.get N = _ := (fq7 N (by omega) (by omega)).trans e1'
            obtain ⟨W8, hW8⟩ : ∃ W8, (((((((([] ++ grp 1 0 (1 : Int).toNat (sl : Int).toNat) ++ grp 2 0 (4 * bu : Int).toNat (4 * bu : Int).toNat) ++ grp 3 0 (1 : Int).toNat (1 : Int).toNat) ++ grp 4 0 (3 : Int).toNat (3 * lo : Int).toNat) ++ grp 5 0 (1 : Int).toNat (lo : Int).toNat) ++ grp 6 0 (1 : Int).toNat (6 : Int).toNat) ++ grp 7 1 (1 : Int).toNat (H.length : Int).toNat) ++ grp 8 0 (7 : Int).toNat (domCount kd dn xs * 7 : Int).toNat) = W8 := ⟨_, rfl⟩
            rw [hW8] at gq7
            have hW8l : W8.length ≤ 4000 := by rw [← hW8]; simp only [List.length_append, grp_length, List.length_nil]; omega
            obtain ⟨wa, wc, rfl⟩ := gq7.len
            repeat' first | simp (maxSteps := 2000000) (disch := first | omega | (repeat first | assumption | exact Kept.refl _ | refine Kept.set' (by assumption) ?_ ?_ | refine Kept.set (by assumption) ?_ ?_ | omega)) only [go_sem, *, Try.results29] | (first | apply xg1 | apply xc1 | apply xg2 | apply xc2 | apply xc3 | apply xc4 | apply xg3 | apply xg4) <;> intro _ | (first | apply xh1 | apply xh2 | apply xh3 | apply xh4) <;> intro _ | refine EvK_draw (id := 31) (L := w29_31) (by kernel_rfl) (by kernel_rfl) ?_
            have hE : engW 3 sl bu = 4 * bu := by unfold engW; rw [if_neg (by omega), if_neg (by omega), if_pos (by omega)]
            refine ind_loop (fun t m h4 n4 => ∃ (j : Nat) (wv : Value) (W : List (Int × Int × Int)), j ≤ H.length ∧ t = H.length - j ∧ W ++ twrs (j + 1) (H.drop j) = W8 ++ twrs 1 H ∧ W.length ≤ 4000 + 11 * j ∧
              m.n = 186 ∧ m.dfs = [] ∧ m.get 5 = .pointer (some ⟨N + 1, 0, none⟩) ∧ m.get 11 = .int .i64 (j + 1) ∧ h4.get (N + 1) = some (.cells (PT.ofList .leaf 0 [Value.int .i64 th, .int .i64 sl, .int .u8 3, .int .i64 bu, .int .u8 kd, .int .i64 dn, .slice ca xs.length cc, .int .i64 t0, .int .i64 t1, .int .i64 t2, .int .i64 t3, .int .i64 t4, .int .i64 t5, .int .i64 lo, .int .i64 tr, .int .i64 ba, .int .i64 (0), .int .i64 (0 + sl * 1), .int .i64 (0 + sl * 1 + 1 * engW 3 sl bu), .int .i64 (0 + sl * 1 + 1 * engW 3 sl bu + 1), .int .i64 (0 + sl * 1 + 1 * engW 3 sl bu + 1 + lo * 3), .int .i64 (0 + sl * 1 + 1 * engW 3 sl bu + 1 + lo * 3 + lo * 1), .int .i64 (0 + sl * 1 + 1 * engW 3 sl bu + 1 + lo * 3 + lo * 1 + 6), .int .i64 (p7Of sl 3 bu lo H), .int .i64 (p7Of sl 3 bu lo H + domCount kd dn xs * 7), .int .i64 0, .slice ha H.length hc, wv]) false) ∧ GS h' n' (N + 1) h4 n4 wv W) H.length ?_ ?_
            · refine ⟨0, .slice wa W8.length wc, W8, by omega, by omega, rfl, by omega, ?_⟩
              simp (maxSteps := 2000000) (disch := first | omega | (repeat first | assumption | exact Kept.refl _ | refine Kept.set' (by assumption) ?_ ?_ | refine Kept.set (by assumption) ?_ ?_ | omega)) only [go_sem, *]
              have hlW : W8.length = sl.toNat + (4 * bu).toNat + 1 + (3 * lo).toNat + lo.toNat + 6 + H.length + (domCount kd dn xs * 7).toNat := by
                rw [← hW8]; simp only [List.length_append, grp_length, List.length_nil]; omega
              refine ⟨?_, (gq7.setlb (by omega) rfl).setlb (by omega) rfl⟩
              refine congrArg (fun l => ABlk.cells (PT.ofList .leaf 0 l) false) ?_
              simp only [List.cons.injEq, Value.int.injEq, true_and, and_true, grp_length, hE, p7Of]
              repeat' first | (apply And.intro) | rfl | omega
            · clear m1 m2 m3 m4 m5 q4 gq7 bq7 eq7 fq7
              rintro t m h4 n4 ih ⟨j, wv, W, hj, rfl, hWs, hWl, m1, m2, m3, m4, r1, r2⟩
              have r3 := r2.same
              by_cases hlt : j < H.length
              · rcases q6 with ⟨_, rfl⟩ | ⟨b, e, hb1, hb2⟩
                · simp at hlt
                · cases e
                  have hb3 := q2.lt hb2
                  have hb4 := (r3 b (by omega) (by omega)).trans hb2
                  obtain ⟨hx1, hx2⟩ := hHb j hlt
                  have hLi : (H.map (Value.int .i64))[((j : Int) + 1 - 1).toNat]? = some (.int .i64 (H.getD j 0)) := by
                    rw [show ((j : Int) + 1 - 1).toNat = j by omega]; simp [List.getElem?_map, hlt, List.getD]
                  have hdr : H.drop j = H.getD j 0 :: H.drop (j + 1) := by rw [List.drop_eq_getElem_cons hlt]; simp [List.getD, hlt]
                  rw [hdr, twrs] at hWs
                  have hi7 : (j : Int) + 1 ≤ H.length := by omega
                  generalize H.getD j 0 = x at *
                  repeat' first | simp (maxSteps := 2000000) (disch := first | omega | (repeat first | assumption | exact Kept.refl _ | refine Kept.set' (by assumption) ?_ ?_ | refine Kept.set (by assumption) ?_ ?_ | omega)) only [go_sem, *, Try.results29] | (first | apply xg1 | apply xc1 | apply xg2 | apply xc2 | apply xc3 | apply xc4 | apply xg3 | apply xg4) <;> intro _ | (first | apply xh1 | apply xh2 | apply xh3 | apply xh4) <;> intro _ | refine EvK_draw (id := 31) (L := w29_31) (by kernel_rfl) (by kernel_rfl) ?_
                  refine EvXQ_via (group_note (h3 := h') (n3 := n') r2 (by omega) r1 rfl rfl (by omega) (by omega) (by omega) (by omega) (by omega) (by omega)) ?_
                  rintro v h5 n5 rd5 wr5 ⟨rfl, w5, b5, g5, f5⟩
                  simp only [List.set_cons_succ, List.set_cons_zero] at b5
                  repeat' first | simp (maxSteps := 2000000) (disch := first | omega | (repeat first | assumption | exact Kept.refl _ | refine Kept.set' (by assumption) ?_ ?_ | refine Kept.set (by assumption) ?_ ?_ | omega)) only [go_sem, *, Try.results29] | (first | apply xg1 | apply xc1 | apply xg2 | apply xc2 | apply xc3 | apply xc4 | apply xg3 | apply xg4) <;> intro _ | (first | apply xh1 | apply xh2 | apply xh3 | apply xh4) <;> intro _ | refine EvK_draw (id := 31) (L := w29_31) (by kernel_rfl) (by kernel_rfl) ?_
                  refine ih (H.length - (j + 1)) _ _ _ (by omega) ⟨j + 1, w5, W ++ grp 9 (j + 1) (5 + x).toNat (5 + x).toNat, by omega, by omega, ?_, ?_, ?_⟩
                  · rw [← hWs, List.append_assoc]; rfl
                  · simp only [List.length_append, grp_length]; omega
                  clear ih
                  simp (maxSteps := 2000000) (disch := first | omega | (repeat first | assumption | exact Kept.refl _ | refine Kept.set' (by assumption) ?_ ?_ | refine Kept.set (by assumption) ?_ ?_ | omega)) only [go_sem, *]
                  first | exact ⟨by simp, g5⟩ | simp
              · have hi7 : ¬ (j : Int) + 1 ≤ H.length := by omega
                clear ih
                rw [List.drop_eq_nil_of_le (by omega), twrs, List.append_nil] at hWs
                obtain ⟨wa2, wc2, rfl⟩ := r2.len
                repeat' first | simp (maxSteps := 2000000) (disch := first | omega | (repeat first | assumption | exact Kept.refl _ | refine Kept.set' (by assumption) ?_ ?_ | refine Kept.set (by assumption) ?_ ?_ | omega)) only [go_sem, *, Try.results29] | (first | apply xg1 | apply xc1 | apply xg2 | apply xc2 | apply xc3 | apply xc4 | apply xg3 | apply xg4) <;> intro _ | (first | apply xh1 | apply xh2 | apply xh3 | apply xh4) <;> intro _ | refine EvK_draw (id := 31) (L := w29_31) (by kernel_rfl) (by kernel_rfl) ?_
                have hlW : W8.length = sl.toNat + (4 * bu).toNat + 1 + (3 * lo).toNat + lo.toNat + 6 + H.length + (domCount kd dn xs * 7).toNat := by
                  rw [← hW8]; simp only [List.length_append, grp_length, List.length_nil]; omega
                have hte := twrs_end H 1 (p7Of sl 3 bu lo H + domCount kd dn xs * 7) (fun i hi => (hHb i hi).1)
                have hwhat : whatOf sl 3 bu lo (domCount kd dn xs) H = W8 ++ twrs 1 H := by
                  rw [← hW8]; unfold whatOf; rw [hE]; rfl
                refine ⟨N + 1, .slice ca xs.length cc, .slice ha H.length hc, .slice wa2 (W8.length + (twrs 1 H).length) wc2, rfl, fun i B e => ?_, by omega, ?_, hcv.far fun i B h1 h2 e => ?_, GrowInts.isInts (GrowInts.moved q6 fun i B hi e => ?_), ?_⟩
                · have := hW.lt e
                  rw [heap_ne (by omega), r3 i (by omega) (by omega), q1 i (by omega) (by omega), hkh i this]; exact e
                · rw [heap_same]
                  refine congrArg (fun l => some (ABlk.cells (PT.ofList .leaf 0 l) false)) ?_
                  simp only [List.cons.injEq, Value.int.injEq, true_and, and_true]
                  rw [hte]
                  simp only [p7Of, hE]
                  omega
                · rw [heap_ne (by omega), r3 i (by omega) (by omega), q1 i (by omega) (by omega)]; exact e
                · have := q2.lt e
                  rw [heap_ne (by omega), r3 i (by omega) (by omega)]; exact e
                · subst hWs
                  have hgl : ∀ B, GrowCells 3 (h4.set (N + 1) B) (.slice wa2 (W8 ++ twrs 1 H).length wc2) (plcs (W8 ++ twrs 1 H)) (W8 ++ twrs 1 H).length := fun B => (r2.setlb (by omega) rfl).row
                  rw [hwhat]
                  simp only [List.length_append] at hgl ⊢
                  exact hgl _
          · -- the engine's words: sl
            obtain rfl : en = 1 := by omega
            have g0 : GS h' n' (N + 1) h' n' (.slice none 0 0) [] := ⟨q2, Nat.le_refl _, .inl ⟨rfl, rfl, rfl⟩, (fun b k c e => by cases e), fun _ _ _ => rfl⟩
            refine EvQ_via (group_note (h3 := h') (n3 := n') g0 (by omega) q4 rfl rfl (by simp only [List.length_append, grp_length, List.length_nil]; omega) (by omega) (by omega) (by omega) (by omega) (by omega)) ?_
            rintro v hq0 nq0 ⟨rfl, wq0, bq0, gq0, fq0⟩
            simp only [List.set_cons_succ, List.set_cons_zero] at bq0
            have eq0 : hq0.get N = _ := (fq0 N (by omega) (by omega)).trans e1'
            repeat' first | simp (maxSteps := 2000000) (disch := first | omega | (repeat first | assumption | exact Kept.refl _ | refine Kept.set' (by assumption) ?_ ?_ | refine Kept.set (by assumption) ?_ ?_ | omega)) only [go_sem, *, Try.results29] | (first | apply xg1 | apply xc1 | apply xg2 | apply xc2 | apply xc3 | apply xc4 | apply xg3 | apply xg4) <;> intro _ | (first | apply xh1 | apply xh2 | apply xh3 | apply xh4) <;> intro _ | refine EvK_draw (id := 31) (L := w29_31) (by kernel_rfl) (by kernel_rfl) ?_
            refine EvQ_via (group_note (h3 := h') (n3 := n') (gq0.setlb (by omega) rfl) (by omega) heap_same rfl rfl (by simp only [List.length_append, grp_length, List.length_nil]; omega) (by omega) (by omega) (by omega) (by omega) (by omega)) ?_
            rintro v hq1 nq1 ⟨rfl, wq1, bq1, gq1, fq1⟩
            simp only [List.set_cons_succ, List.set_cons_zero] at bq1
            have eq1 : hq1.get N = _ := (fq1 N (by omega) (by omega)).trans e1'
            repeat' first | simp (maxSteps := 2000000) (disch := first | omega | (repeat first | assumption | exact Kept.refl _ | refine Kept.set' (by assumption) ?_ ?_ | refine Kept.set (by assumption) ?_ ?_ | omega)) only [go_sem, *, Try.results29] | (first | apply xg1 | apply xc1 | apply xg2 | apply xc2 | apply xc3 | apply xc4 | apply xg3 | apply xg4) <;> intro _ | (first | apply xh1 | apply xh2 | apply xh3 | apply xh4) <;> intro _ | refine EvK_draw (id := 31) (L := w29_31) (by kernel_rfl) (by kernel_rfl) ?_
            refine EvQ_via (group_note (h3 := h') (n3 := n') (gq1.setlb (by omega) rfl) (by omega) heap_same rfl rfl (by simp only [List.length_append, grp_length, List.length_nil]; omega) (by omega) (by omega) (by omega) (by omega) (by omega)) ?_
            rintro v hq2 nq2 ⟨rfl, wq2, bq2, gq2, fq2⟩
            simp only [List.set_cons_succ, List.set_cons_zero] at bq2
            have eq2 : hq2.get N = _ := (fq2 N (by omega) (by omega)).trans e1'
            repeat' first | simp (maxSteps := 2000000) (disch := first | omega | (repeat first | assumption | exact Kept.refl _ | refine Kept.set' (by assumption) ?_ ?_ | refine Kept.set (by assumption) ?_ ?_ | omega)) only [go_sem, *, Try.results29] | (first | apply xg1 | apply xc1 | apply xg2 | apply xc2 | apply xc3 | apply xc4 | apply xg3 | apply xg4) <;> intro _ | (first | apply xh1 | apply xh2 | apply xh3 | apply xh4) <;> intro _ | refine EvK_draw (id := 31) (L := w29_31) (by kernel_rfl) (by kernel_rfl) ?_
            refine EvQ_via (group_note (h3 := h') (n3 := n') (gq2.setlb (by omega) rfl) (by omega) heap_same rfl rfl (by simp only [List.length_append, grp_length, List.length_nil]; omega) (by omega) (by omega) (by omega) (by omega) (by omega)) ?_
            rintro v hq3 nq3 ⟨rfl, wq3, bq3, gq3, fq3⟩
            simp only [List.set_cons_succ, List.set_cons_zero] at bq3
            have eq3 : hq3.get N = _ := (fq3 N (by omega) (by omega)).trans e1'
            repeat' first | simp (maxSteps := 2000000) (disch := first | omega | (repeat first | assumption | exact Kept.refl _ | refine Kept.set' (by assumption) ?_ ?_ | refine Kept.set (by assumption) ?_ ?_ | omega)) only [go_sem, *, Try.results29] | (first | apply xg1 | apply xc1 | apply xg2 | apply xc2 | apply xc3 | apply xc4 | apply xg3 | apply xg4) <;> intro _ | (first | apply xh1 | apply xh2 | apply xh3 | apply xh4) <;> intro _ | refine EvK_draw (id := 31) (L := w29_31) (by kernel_rfl) (by kernel_rfl) ?_
            refine EvQ_via (group_note (h3 := h') (n3 := n') (gq3.setlb (by omega) rfl) (by omega) heap_same rfl rfl (by simp only [List.length_append, grp_length, List.length_nil]; omega) (by omega) (by omega) (by omega) (by omega) (by omega)) ?_
            rintro v hq4 nq4 ⟨rfl, wq4, bq4, gq4, fq4⟩
            simp only [List.set_cons_succ, List.set_cons_zero] at bq4
            have eq4 : hq4.get N = _ := (fq4 N (by omega) (by omega)).trans e1'
            repeat' first | simp (maxSteps := 2000000) (disch := first | omega | (repeat first | assumption | exact Kept.refl _ | refine Kept.set' (by assumption) ?_ ?_ | refine Kept.set (by assumption) ?_ ?_ | omega)) only [go_sem, *, Try.results29] | (first | apply xg1 | apply xc1 | apply xg2 | apply xc2 | apply xc3 | apply xc4 | apply xg3 | apply xg4) <;> intro _ | (first | apply xh1 | apply xh2 | apply xh3 | apply xh4) <;> intro _ | refine EvK_draw (id := 31) (L := w29_31) (by kernel_rfl) (by kernel_rfl) ?_
            refine EvQ_via (group_note (h3 := h') (n3 := n') (gq4.setlb (by omega) rfl) (by omega) heap_same rfl rfl (by simp only [List.length_append, grp_length, List.length_nil]; omega) (by omega) (by omega) (by omega) (by omega) (by omega)) ?_
            rintro v hq5 nq5 ⟨rfl, wq5, bq5, gq5, fq5⟩
            simp only [List.set_cons_succ, List.set_cons_zero] at bq5
            have eq5 : hq5.get N = _ := (fq5 N (by omega) (by omega)).trans e1'
            repeat' first | simp (maxSteps := 2000000) (disch := first | omega | (repeat first | assumption | exact Kept.refl _ | refine Kept.set' (by assumption) ?_ ?_ | refine Kept.set (by assumption) ?_ ?_ | omega)) only [go_sem, *, Try.results29] | (first | apply xg1 | apply xc1 | apply xg2 | apply xc2 | apply xc3 | apply xc4 | apply xg3 | apply xg4) <;> intro _ | (first | apply xh1 | apply xh2 | apply xh3 | apply xh4) <;> intro _ | refine EvK_draw (id := 31) (L := w29_31) (by kernel_rfl) (by kernel_rfl) ?_
            refine EvQ_via (group_note (h3 := h') (n3 := n') (gq5.setlb (by omega) rfl) (by omega) heap_same rfl rfl (by simp only [List.length_append, grp_length, List.length_nil]; omega) (by omega) (by omega) (by omega) (by omega) (by omega)) ?_
            rintro v hq6 nq6 ⟨rfl, wq6, bq6, gq6, fq6⟩
            simp only [List.set_cons_succ, List.set_cons_zero] at bq6
            have eq6 : hq6.get N = _ := (fq6 N (by omega) (by omega)).trans e1'
            repeat' first | simp (maxSteps := 2000000) (disch := first | omega | (repeat first | assumption | exact Kept.refl _ | refine Kept.set' (by assumption) ?_ ?_ | refine Kept.set (by assumption) ?_ ?_ | omega)) only [go_sem, *, Try.results29] | (first | apply xg1 | apply xc1 | apply xg2 | apply xc2 | apply xc3 | apply xc4 | apply xg3 | apply xg4) <;> intro _ | (first | apply xh1 | apply xh2 | apply xh3 | apply xh4) <;> intro _ | refine EvK_draw (id := 31) (L := w29_31) (by kernel_rfl) (by kernel_rfl) ?_
            refine EvQ_via (group_note (h3 := h') (n3 := n') (gq6.setlb (by omega) rfl) (by omega) heap_same rfl rfl (by simp only [List.length_append, grp_length, List.length_nil]; omega) (by omega) (by omega) (by omega) (by omega) (by omega)) ?_
            rintro v hq7 nq7 ⟨rfl, wq7, bq7, gq7, fq7⟩
            simp only [List.set_cons_succ, List.set_cons_zero] at bq7
            have eq7 : hq7.get N = _ := (fq7 N (by omega) (by omega)).trans e1'
            obtain ⟨W8, hW8⟩ : ∃ W8, (((((((([] ++ grp 1 0 (1 : Int).toNat (sl : Int).toNat) ++ grp 2 0 (sl : Int).toNat (sl : Int).toNat) ++ grp 3 0 (1 : Int).toNat (1 : Int).toNat) ++ grp 4 0 (3 : Int).toNat (3 * lo : Int).toNat) ++ grp 5 0 (1 : Int).toNat (lo : Int).toNat) ++ grp 6 0 (1 : Int).toNat (6 : Int).toNat) ++ grp 7 1 (1 : Int).toNat (H.length : Int).toNat) ++ grp 8 0 (7 : Int).toNat (domCount kd dn xs * 7 : Int).toNat) = W8 := ⟨_, rfl⟩
            rw [hW8] at gq7
            have hW8l : W8.length ≤ 4000 := by rw [← hW8]; simp only [List.length_append, grp_length, List.length_nil]; omega
            obtain ⟨wa, wc, rfl⟩ := gq7.len
            repeat' first | simp (maxSteps := 2000000) (disch := first | omega | (repeat first | assumption | exact Kept.refl _ | refine Kept.set' (by assumption) ?_ ?_ | refine Kept.set (by assumption) ?_ ?_ | omega)) only [go_sem, *, Try.results29] | (first | apply xg1 | apply xc1 | apply xg2 | apply xc2 | apply xc3 | apply xc4 | apply xg3 | apply xg4) <;> intro _ | (first | apply xh1 | apply xh2 | apply xh3 | apply xh4) <;> intro _ | refine EvK_draw (id := 31) (L := w29_31) (by kernel_rfl) (by kernel_rfl) ?_
            have hE : engW 1 sl bu = sl := by unfold engW; rw [if_pos (by omega)]
            refine ind_loop (fun t m h4 n4 => ∃ (j : Nat) (wv : Value) (W : List (Int × Int × Int)), j ≤ H.length ∧ t = H.length - j ∧ W ++ twrs (j + 1) (H.drop j) = W8 ++ twrs 1 H ∧ W.length ≤ 4000 + 11 * j ∧
              m.n = 186 ∧ m.dfs = [] ∧ m.get 5 = .pointer (some ⟨N + 1, 0, none⟩) ∧ m.get 11 = .int .i64 (j + 1) ∧ h4.get (N + 1) = some (.cells (PT.ofList .leaf 0 [Value.int .i64 th, .int .i64 sl, .int .u8 1, .int .i64 bu, .int .u8 kd, .int .i64 dn, .slice ca xs.length cc, .int .i64 t0, .int .i64 t1, .int .i64 t2, .int .i64 t3, .int .i64 t4, .int .i64 t5, .int .i64 lo, .int .i64 tr, .int .i64 ba, .int .i64 (0), .int .i64 (0 + sl * 1), .int .i64 (0 + sl * 1 + 1 * engW 1 sl bu), .int .i64 (0 + sl * 1 + 1 * engW 1 sl bu + 1), .int .i64 (0 + sl * 1 + 1 * engW 1 sl bu + 1 + lo * 3), .int .i64 (0 + sl * 1 + 1 * engW 1 sl bu + 1 + lo * 3 + lo * 1), .int .i64 (0 + sl * 1 + 1 * engW 1 sl bu + 1 + lo * 3 + lo * 1 + 6), .int .i64 (p7Of sl 1 bu lo H), .int .i64 (p7Of sl 1 bu lo H + domCount kd dn xs * 7), .int .i64 0, .slice ha H.length hc, wv]) false) ∧ GS h' n' (N + 1) h4 n4 wv W) H.length ?_ ?_
            · refine ⟨0, .slice wa W8.length wc, W8, by omega, by omega, rfl, by omega, ?_⟩
              simp (maxSteps := 2000000) (disch := first | omega | (repeat first | assumption | exact Kept.refl _ | refine Kept.set' (by assumption) ?_ ?_ | refine Kept.set (by assumption) ?_ ?_ | omega)) only [go_sem, *]
              have hlW : W8.length = sl.toNat + (sl).toNat + 1 + (3 * lo).toNat + lo.toNat + 6 + H.length + (domCount kd dn xs * 7).toNat := by
                rw [← hW8]; simp only [List.length_append, grp_length, List.length_nil]; omega
              refine ⟨?_, (gq7.setlb (by omega) rfl).setlb (by omega) rfl⟩
              refine congrArg (fun l => ABlk.cells (PT.ofList .leaf 0 l) false) ?_
              simp only [List.cons.injEq, Value.int.injEq, true_and, and_true, grp_length, hE, p7Of]
              repeat' first | (apply And.intro) | rfl | omega
            · clear m1 m2 m3 m4 m5 q4 gq7 bq7 eq7 fq7
              rintro t m h4 n4 ih ⟨j, wv, W, hj, rfl, hWs, hWl, m1, m2, m3, m4, r1, r2⟩
              have r3 := r2.same
              by_cases hlt : j < H.length
              · rcases q6 with ⟨_, rfl⟩ | ⟨b, e, hb1, hb2⟩
                · simp at hlt
                · cases e
                  have hb3 := q2.lt hb2
                  have hb4 := (r3 b (by omega) (by omega)).trans hb2
                  obtain ⟨hx1, hx2⟩ := hHb j hlt
                  have hLi : (H.map (Value.int .i64))[((j : Int) + 1 - 1).toNat]? = some (.int .i64 (H.getD j 0)) := by
                    rw [show ((j : Int) + 1 - 1).toNat = j by omega]; simp [List.getElem?_map, hlt, List.getD]
                  have hdr : H.drop j = H.getD j 0 :: H.drop (j + 1) := by rw [List.drop_eq_getElem_cons hlt]; simp [List.getD, hlt]
                  rw [hdr, twrs] at hWs
                  have hi7 : (j : Int) + 1 ≤ H.length := by omega
                  generalize H.getD j 0 = x at *
                  repeat' first | simp (maxSteps := 2000000) (disch := first | omega | (repeat first | assumption | exact Kept.refl _ | refine Kept.set' (by assumption) ?_ ?_ | refine Kept.set (by assumption) ?_ ?_ | omega)) only [go_sem, *, Try.results29] | (first | apply xg1 | apply xc1 | apply xg2 | apply xc2 | apply xc3 | apply xc4 | apply xg3 | apply xg4) <;> intro _ | (first | apply xh1 | apply xh2 | apply xh3 | apply xh4) <;> intro _ | refine EvK_draw (id := 31) (L := w29_31) (by kernel_rfl) (by kernel_rfl) ?_
                  refine EvXQ_via (group_note (h3 := h') (n3 := n') r2 (by omega) r1 rfl rfl (by omega) (by omega) (by omega) (by omega) (by omega) (by omega)) ?_
                  rintro v h5 n5 rd5 wr5 ⟨rfl, w5, b5, g5, f5⟩
                  simp only [List.set_cons_succ, List.set_cons_zero] at b5
                  repeat' first | simp (maxSteps := 2000000) (disch := first | omega | (repeat first | assumption | exact Kept.refl _ | refine Kept.set' (by assumption) ?_ ?_ | refine Kept.set (by assumption) ?_ ?_ | omega)) only [go_sem, *, Try.results29] | (first | apply xg1 | apply xc1 | apply xg2 | apply xc2 | apply xc3 | apply xc4 | apply xg3 | apply xg4) <;> intro _ | (first | apply xh1 | apply xh2 | apply xh3 | apply xh4) <;> intro _ | refine EvK_draw (id := 31) (L := w29_31) (by kernel_rfl) (by kernel_rfl) ?_
                  refine ih (H.length - (j + 1)) _ _ _ (by omega) ⟨j + 1, w5, W ++ grp 9 (j + 1) (5 + x).toNat (5 + x).toNat, by omega, by omega, ?_, ?_, ?_⟩
                  · rw [← hWs, List.append_assoc]; rfl
                  · simp only [List.length_append, grp_length]; omega
                  clear ih
                  simp (maxSteps := 2000000) (disch := first | omega | (repeat first | assumption | exact Kept.refl _ | refine Kept.set' (by assumption) ?_ ?_ | refine Kept.set (by assumption) ?_ ?_ | omega)) only [go_sem, *]
                  first | exact ⟨by simp, g5⟩ | simp
              · have hi7 : ¬ (j : Int) + 1 ≤ H.length := by omega
                clear ih
                rw [List.drop_eq_nil_of_le (by omega), twrs, List.append_nil] at hWs
                obtain ⟨wa2, wc2, rfl⟩ := r2.len
                repeat' first | simp (maxSteps := 2000000) (disch := first | omega | (repeat first | assumption | exact Kept.refl _ | refine Kept.set' (by assumption) ?_ ?_ | refine Kept.set (by assumption) ?_ ?_ | omega)) only [go_sem, *, Try.results29] | (first | apply xg1 | apply xc1 | apply xg2 | apply xc2 | apply xc3 | apply xc4 | apply xg3 | apply xg4) <;> intro _ | (first | apply xh1 | apply xh2 | apply xh3 | apply xh4) <;> intro _ | refine EvK_draw (id := 31) (L := w29_31) (by kernel_rfl) (by kernel_rfl) ?_
                have hlW : W8.length = sl.toNat + (sl).toNat + 1 + (3 * lo).toNat + lo.toNat + 6 + H.length + (domCount kd dn xs * 7).toNat := by
                  rw [← hW8]; simp only [List.length_append, grp_length, List.length_nil]; omega
                have hte := twrs_end H 1 (p7Of sl 1 bu lo H + domCount kd dn xs * 7) (fun i hi => (hHb i hi).1)
                have hwhat : whatOf sl 1 bu lo (domCount kd dn xs) H = W8 ++ twrs 1 H := by
                  rw [← hW8]; unfold whatOf; rw [hE]; rfl
                refine ⟨N + 1, .slice ca xs.length cc, .slice ha H.length hc, .slice wa2 (W8.length + (twrs 1 H).length) wc2, rfl, fun i B e => ?_, by omega, ?_, hcv.far fun i B h1 h2 e => ?_, GrowInts.isInts (GrowInts.moved q6 fun i B hi e => ?_), ?_⟩
                · have := hW.lt e
                  rw [heap_ne (by omega), r3 i (by omega) (by omega), q1 i (by omega) (by omega), hkh i this]; exact e
                · rw [heap_same]
                  refine congrArg (fun l => some (ABlk.cells (PT.ofList .leaf 0 l) false)) ?_
                  simp only [List.cons.injEq, Value.int.injEq, true_and, and_true]
                  rw [hte]
                  simp only [p7Of, hE]
                  omega
                · rw [heap_ne (by omega), r3 i (by omega) (by omega), q1 i (by omega) (by omega)]; exact e
                · have := q2.lt e
                  rw [heap_ne (by omega), r3 i (by omega) (by omega)]; exact e
                · subst hWs
                  have hgl : ∀ B, GrowCells 3 (h4.set (N + 1) B) (.slice wa2 (W8 ++ twrs 1 H).length wc2) (plcs (W8 ++ twrs 1 H)) (W8 ++ twrs 1 H).length := fun B => (r2.setlb (by omega) rfl).row
                  rw [hwhat]
                  simp only [List.length_append] at hgl ⊢
                  exact hgl _
end Go.Proofs.Ytapcgfakefmemaa
