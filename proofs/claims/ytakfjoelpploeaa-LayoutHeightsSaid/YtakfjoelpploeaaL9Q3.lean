/-
  A part of the proof of the laws of layer 9: contracts of inner functions.
-/
import Derived.Test.YtakfjoelpploeaaL9Q1
import Derived.Test.YtakfjoelpploeaaL9W
import Derived.Test.YtakfjoelpploeaaAmY7
set_option linter.unusedVariables false
set_option linter.unusedSimpArgs false
namespace Go.Proofs.Ytakfjoelpploeaa
open Go.Am

noncomputable abbrev O7 : Over := tabO [(16, layCheckS), (46, engineS), (44, valuesS), (45, placeS), (21, towersS), (25, heightS), (27, wordS), (31, latchS), (29, nextS), (35, trueS)]
theorem O7ok : SoundO Try.prog O7 := tab_sound (.cons layCheckF (.cons engineF (.cons valuesF (.cons placeF (.cons towersF (.cons heightF (.cons wordF (.cons latchF (.cons nextF (.cons worksF .nil))))))))))

theorem guard29 : Try.prog.eqGuardType Try.prog.depth 29 = false := by kernel_rfl
theorem eq29 {cx cy : Bool} {a0 a1 a2 a3 a4 a5 b0 b1 b2 b3 b4 b5 : Int} : binV Try.prog .eql 29 cx cy (.agg ⟨[.int .i64 a0, .int .i64 a1, .int .i64 a2, .int .i64 a3, .int .i64 a4, .int .i64 a5]⟩) (.agg ⟨[.int .i64 b0, .int .i64 b1, .int .i64 b2, .int .i64 b3, .int .i64 b4, .int .i64 b5]⟩) = .pure (.value (.bool (decide ([a0, a1, a2, a3, a4, a5] = [b0, b1, b2, b3, b4, b5])))) :=
  binV_eql_ints (xs := [a0, a1, a2, a3, a4, a5]) (ys := [b0, b1, b2, b3, b4, b5]) Try.underlying29 Try.underlying3 rfl rfl guard29 rfl rfl

theorem hgtA_in {H : List Int} {i : Nat} (hi : i < H.length) : hgtA H ((i : Int) + 1) = H.getD i 0 := by
  unfold hgtA; rw [if_pos (by omega), show ((i : Int) + 1 - 1).toNat = i by omega]
theorem hgtE_in {H : List Int} {i : Nat} (hi : i < H.length) : hgtE H ((i : Int) + 1) = 0 := by
  unfold hgtE; rw [if_pos (by omega)]
theorem wrdE_in {l : LayV} {i : Nat} (hi : i < l.H.length) : wrdE l ((i : Int) + 1) 3 = 0 := by
  unfold wrdE; rw [if_pos (by omega)]
theorem isHead_pos {l : LayV} {i : Nat} : ¬ isHead l ((i : Int) + 1) := fun h => absurd h.1 (by omega)
theorem ltcE_in {l : LayV} {i : Nat} (hi : i < l.H.length) : ltcE l ((i : Int) + 1) = 0 := by
  unfold ltcE; rw [if_neg isHead_pos, wrdE_in hi]
theorem ltcA_in {l : LayV} {i : Nat} : ltcA l ((i : Int) + 1) = wrdA l ((i : Int) + 1) 3 := by
  unfold ltcA; rw [if_neg isHead_pos]
theorem nxtE_lt {l : LayV} {i : Nat} {lv : Int} (hi : i < l.H.length) (h1 : 1 ≤ l.H.getD i 0) (h6 : l.H.getD i 0 ≤ 6) (h0 : 0 ≤ lv) (h : lv < l.H.getD i 0) : nxtE l ((i : Int) + 1) lv = 0 := by
  unfold nxtE; rw [if_neg (fun h => isHead_pos h.1), if_pos]; unfold nxtH
  rw [show ((i : Int) + 1 - 1).toNat = i by omega, wrap_i64 (by omega) (by omega)]; omega
theorem nxtE_ge {l : LayV} {i : Nat} {lv : Int} (h1 : 1 ≤ l.H.getD i 0) (h6 : l.H.getD i 0 ≤ 6) (h : ¬ lv < l.H.getD i 0) : nxtE l ((i : Int) + 1) lv = 3 := by
  unfold nxtE; rw [if_neg (fun h => isHead_pos h.1), if_neg]; unfold nxtH
  rw [show ((i : Int) + 1 - 1).toNat = i by omega, wrap_i64 (by omega) (by omega)]; omega

theorem hts_ge : ∀ (ts : List Int) (k : Int), ∀ x ∈ hts k ts, k ≤ x
  | [], k, x, h => by simp [hts] at h
  | t :: ts, k, x, h => by
    simp only [hts, List.mem_append, List.mem_replicate] at h
    rcases h with ⟨_, rfl⟩ | h
    · omega
    · have := hts_ge ts (k + 1) x h; omega
theorem hts_sorted : ∀ (ts : List Int) (k : Int), (hts k ts).Pairwise (· ≤ ·)
  | [], k => .nil
  | t :: ts, k => by
    rw [hts, List.pairwise_append]
    refine ⟨List.pairwise_replicate.2 (.inr (by omega)), hts_sorted ts (k + 1), fun a ha b hb => ?_⟩
    rw [List.mem_replicate] at ha
    have := hts_ge ts (k + 1) b hb
    omega
theorem hts_counts {t0 t1 t2 t3 t4 t5 : Int} (h : 0 ≤ t0 ∧ 0 ≤ t1 ∧ 0 ≤ t2 ∧ 0 ≤ t3 ∧ 0 ≤ t4 ∧ 0 ≤ t5) :
    ((hts 1 [t0, t1, t2, t3, t4, t5]).count 1 : Int) = t0 ∧ ((hts 1 [t0, t1, t2, t3, t4, t5]).count 2 : Int) = t1 ∧ ((hts 1 [t0, t1, t2, t3, t4, t5]).count 3 : Int) = t2 ∧ ((hts 1 [t0, t1, t2, t3, t4, t5]).count 4 : Int) = t3 ∧ ((hts 1 [t0, t1, t2, t3, t4, t5]).count 5 : Int) = t4 ∧ ((hts 1 [t0, t1, t2, t3, t4, t5]).count 6 : Int) = t5 := by
  simp [hts, List.count_append, List.count_replicate]; omega

set_option maxRecDepth 100000 in
set_option maxHeartbeats 4000000 in
theorem heights (th sl en bu kd dn t0 t1 t2 t3 t4 t5 lo tr ba : Int) (s : Value) (xs : List Int) (h : PT ABlk) (N : Nat) (hW : WfH h N) (hs : IsInts .u64 h s xs) (hl : xs.length < 1000000000000000) :
    EvB Try.prog O7 7 [.agg ⟨[.int .i64 th, .int .i64 sl, .int .u8 en, .int .i64 bu, .int .u8 kd, .int .i64 dn, s, .int .i64 t0, .int .i64 t1, .int .i64 t2, .int .i64 t3, .int .i64 t4, .int .i64 t5, .int .i64 lo, .int .i64 tr, .int .i64 ba]⟩] h N fun v _ _ => v = .bool true := by
  refine EvB_run (N := 101) Try.func7 rfl rfl fun z hP hO hro hN hQ => ?_
  repeat' first | simp (config := { maxSteps := 2000000 }) (disch := first | omega | (repeat first | assumption | exact Kept.refl _ | refine Kept.set' (by assumption) ?_ ?_ | refine Kept.set (by assumption) ?_ ?_ | omega)) only [go_sem, *, Try.results7, Nat.reduceLT, Nat.reduceAdd, Nat.reduceMul, Nat.reduceSub, Nat.reduceEqDiff, Nat.reduceLeDiff, Int.reduceToNat, Int.reduceLT, Int.reduceLE, Int.reduceEq, Int.reduceNe, Int.reduceAdd, Int.reduceSub, Int.reduceMul, Int.reduceNeg, ↓reduceIte, reduceCtorEq] | (apply EvG_ndec <;> intro _) | (apply EvC_ndec <;> intro _) | (apply EvG_dec <;> intro _) | (apply EvC_dec <;> intro _) | fail | (apply EvH_ndec <;> intro _) | (apply EvH_dec <;> intro _) | (apply EvC_nbool <;> intro _) | (apply EvC_bool <;> intro _) | (apply EvG_nbool <;> intro _) | (apply EvG_bool <;> intro _) | (apply EvH_nbool <;> intro _) | (apply EvH_bool <;> intro _)
  refine EvQ_call ?_ ?_ (by rw [hP, hO]; exact (layNewL rfl rfl rfl rfl (fun _ => rfl) th sl en bu kd dn t0 t1 t2 t3 t4 t5 lo tr ba s xs _ _ (hW.set (Nat.le_succ _) (Nat.lt_succ_self _)) (hs.keep (hW.kept (Nat.le_refl _))) hl).wf (hW.set (Nat.le_succ _) (Nat.lt_succ_self _))) ?_
  · simp (config := { maxSteps := 2000000 }) (disch := first | omega | (repeat first | assumption | exact Kept.refl _ | refine Kept.set' (by assumption) ?_ ?_ | refine Kept.set (by assumption) ?_ ?_ | omega)) only [go_sem, *, Nat.reduceLT, Nat.reduceAdd, Nat.reduceMul, Nat.reduceSub, Nat.reduceEqDiff, Nat.reduceLeDiff, Int.reduceToNat, Int.reduceLT, Int.reduceLE, Int.reduceEq, Int.reduceNe, Int.reduceAdd, Int.reduceSub, Int.reduceMul, Int.reduceNeg, ↓reduceIte, reduceCtorEq]
  · simp (config := { maxSteps := 2000000 }) (disch := first | omega | (repeat first | assumption | exact Kept.refl _ | refine Kept.set' (by assumption) ?_ ?_ | refine Kept.set (by assumption) ?_ ?_ | omega)) only [go_sem, *, Nat.reduceLT, Nat.reduceAdd, Nat.reduceMul, Nat.reduceSub, Nat.reduceEqDiff, Nat.reduceLeDiff, Int.reduceToNat, Int.reduceLT, Int.reduceLE, Int.reduceEq, Int.reduceNe, Int.reduceAdd, Int.reduceSub, Int.reduceMul, Int.reduceNeg, ↓reduceIte, reduceCtorEq]
  · rintro v h2 n2 ⟨⟨e1, rfl, hk⟩ | ⟨lb, l, gb, cv, rfl, hk, hNl, hnew⟩, hn2, hW2⟩
    · repeat' first | simp (config := { maxSteps := 2000000 }) (disch := first | omega | (repeat first | assumption | exact Kept.refl _ | refine Kept.set' (by assumption) ?_ ?_ | refine Kept.set (by assumption) ?_ ?_ | omega)) only [go_sem, *, Try.results7, trueS, Nat.reduceLT, Nat.reduceAdd, Nat.reduceMul, Nat.reduceSub, Nat.reduceEqDiff, Nat.reduceLeDiff, Int.reduceToNat, Int.reduceLT, Int.reduceLE, Int.reduceEq, Int.reduceNe, Int.reduceAdd, Int.reduceSub, Int.reduceMul, Int.reduceNeg, ↓reduceIte, reduceCtorEq] | (apply EvG_ndec <;> intro _) | (apply EvC_ndec <;> intro _) | (apply EvG_dec <;> intro _) | (apply EvC_dec <;> intro _) | fail | (apply EvH_ndec <;> intro _) | (apply EvH_dec <;> intro _) | (apply EvC_nbool <;> intro _) | (apply EvC_bool <;> intro _) | (apply EvG_nbool <;> intro _) | (apply EvG_bool <;> intro _) | (apply EvH_nbool <;> intro _) | (apply EvH_bool <;> intro _)
    · have hl0 := hnew.look
      have hf := cfgOk_facts hnew.ok
      have hlen := hts_length6 ⟨hf.2.2.2.2.2.1, hf.2.2.2.2.2.2.1⟩
      obtain ⟨u0, u1, u2, u3, u4, u5⟩ := hts_counts hf.2.2.2.2.2.1
      have hsort : ((1 : Int) :: l.H).Pairwise (· ≤ ·) := by
        rw [hnew.H]; exact List.pairwise_cons.2 ⟨hts_ge _ _, hts_sorted _ _⟩
      have hbnd : ∀ x ∈ l.H, 1 ≤ x ∧ x ≤ 6 := by
        rw [hnew.H]; exact hts_bound [t0, t1, t2, t3, t4, t5] 1 1 6 (by omega) (by simp)
      have hbox := hk N _ heap_same
      rw [← hnew.H] at hlen u0 u1 u2 u3 u4 u5
      clear hf hnew hk hs
      have hrl := fun h' hk z f d ops r K m n => @EvV_look _ _ _ _ h' hl0 z f d ops r K m n hk
      clear hl0
      have hk0 : Kept h2 (h2.set n2 (some (.cells (PT.ofList .leaf 0 [.int .i64 0, .int .i64 0, .int .i64 0, .int .i64 0, .int .i64 0, .int .i64 0]) false))) := hW2.kept (Nat.le_refl _)
      repeat' first | simp (config := { maxSteps := 2000000 }) (disch := first | omega | (repeat first | assumption | exact Kept.refl _ | refine Kept.set' (by assumption) ?_ ?_ | refine Kept.set (by assumption) ?_ ?_ | omega)) only [go_sem, *, Try.results7, Nat.reduceLT, Nat.reduceAdd, Nat.reduceMul, Nat.reduceSub, Nat.reduceEqDiff, Nat.reduceLeDiff, Int.reduceToNat, Int.reduceLT, Int.reduceLE, Int.reduceEq, Int.reduceNe, Int.reduceAdd, Int.reduceSub, Int.reduceMul, Int.reduceNeg, ↓reduceIte, reduceCtorEq] | (apply EvG_ndec <;> intro _) | (apply EvC_ndec <;> intro _) | (apply EvG_dec <;> intro _) | (apply EvC_dec <;> intro _) | fail | (apply EvH_ndec <;> intro _) | (apply EvH_dec <;> intro _) | (apply EvC_nbool <;> intro _) | (apply EvC_bool <;> intro _) | (apply EvG_nbool <;> intro _) | (apply EvG_bool <;> intro _) | (apply EvH_nbool <;> intro _) | (apply EvH_bool <;> intro _)
      clear hk0
      refine ind_loop (fun t m h' n' => ∃ (i : Nat) (la c0 c1 c2 c3 c4 c5 : Int), i ≤ l.H.length ∧ t = l.H.length - i ∧ (la :: l.H.drop i).Pairwise (· ≤ ·) ∧
        (c0 + ((l.H.drop i).count 1 : Int) = t0 ∧ c1 + ((l.H.drop i).count 2 : Int) = t1 ∧ c2 + ((l.H.drop i).count 3 : Int) = t2 ∧ c3 + ((l.H.drop i).count 4 : Int) = t3 ∧ c4 + ((l.H.drop i).count 5 : Int) = t4 ∧ c5 + ((l.H.drop i).count 6 : Int) = t5) ∧
        (0 ≤ c0 ∧ c0 ≤ i) ∧ (0 ≤ c1 ∧ c1 ≤ i) ∧ (0 ≤ c2 ∧ c2 ≤ i) ∧ (0 ≤ c3 ∧ c3 ≤ i) ∧ (0 ≤ c4 ∧ c4 ≤ i) ∧ (0 ≤ c5 ∧ c5 ≤ i) ∧
        m.n = 101 ∧ m.dfs = [] ∧ m.get 1 = .pointer (some ⟨N, 0, none⟩) ∧ m.get 3 = .pointer (some ⟨lb, 0, none⟩) ∧ m.get 5 = .pointer (some ⟨n2, 0, none⟩) ∧ m.get 6 = .int .i64 la ∧ m.get 7 = .int .i64 (i + 1) ∧
        Kept h2 h' ∧ n' = n2 + 1 ∧ h'.get n2 = some (.cells (PT.ofList .leaf 0 [.int .i64 c0, .int .i64 c1, .int .i64 c2, .int .i64 c3, .int .i64 c4, .int .i64 c5]) false)) l.H.length ?_ ?_
      · refine ⟨0, 1, 0, 0, 0, 0, 0, 0, by omega, by omega, hsort, ⟨by simpa using u0, by simpa using u1, by simpa using u2, by simpa using u3, by simpa using u4, by simpa using u5⟩, ?_⟩
        simp (config := { maxSteps := 2000000 }) (disch := first | omega | (repeat first | assumption | exact Kept.refl _ | refine Kept.set' (by assumption) ?_ ?_ | refine Kept.set (by assumption) ?_ ?_ | omega)) only [go_sem, *, Nat.reduceLT, Nat.reduceAdd, Nat.reduceMul, Nat.reduceSub, Nat.reduceEqDiff, Nat.reduceLeDiff, Int.reduceToNat, Int.reduceLT, Int.reduceLE, Int.reduceEq, Int.reduceNe, Int.reduceAdd, Int.reduceSub, Int.reduceMul, Int.reduceNeg, ↓reduceIte, reduceCtorEq]
        (repeat first | assumption | exact Kept.refl _ | refine Kept.set' (by assumption) ?_ ?_ | omega)
      · rintro t m h' n' ih ⟨i, la, c0, c1, c2, c3, c4, c5, hi, rfl, hso, ⟨v0, v1, v2, v3, v4, v5⟩, ⟨a0, b0⟩, ⟨a1, b1⟩, ⟨a2, b2⟩, ⟨a3, b3⟩, ⟨a4, b4⟩, ⟨a5, b5⟩, m1, m2, m3, m4, m5, m6, m7, r1, rfl, r3⟩
        have hbx := r1 N _ hbox
        by_cases hlt : i < l.H.length
        · have hd : l.H.drop i = l.H.getD i 0 :: l.H.drop (i + 1) := by rw [List.drop_eq_getElem_cons hlt]; simp [List.getD, hlt]
          rw [hd] at hso v0 v1 v2 v3 v4 v5
          obtain ⟨hx1, hx2⟩ := hbnd (l.H.getD i 0) (by simp [List.getD, hlt])
          have hlx : la ≤ l.H.getD i 0 := (List.pairwise_cons.1 hso).1 _ (by simp)
          have hso2 := (List.pairwise_cons.1 hso).2
          obtain ⟨k, hk6, hxk⟩ : ∃ k : Nat, k < 6 ∧ l.H.getD i 0 = (k : Int) + 1 := ⟨(l.H.getD i 0 - 1).toNat, by omega, by omega⟩
          have hk6' : (k : Int) < 6 := by omega
          obtain ⟨cx, d0, d1, d2, d3, d4, d5, hg, hst, w0, w1, w2, w3, w4, w5, hcx, f0, f1, f2, f3, f4, f5⟩ : ∃ cx d0 d1 d2 d3 d4 d5 : Int, ([.int .i64 c0, .int .i64 c1, .int .i64 c2, .int .i64 c3, .int .i64 c4, .int .i64 c5] : List Value)[k]? = some (.int .i64 cx) ∧
              ([.int .i64 c0, .int .i64 c1, .int .i64 c2, .int .i64 c3, .int .i64 c4, .int .i64 c5] : List Value).set k (.int .i64 (cx + 1)) = [.int .i64 d0, .int .i64 d1, .int .i64 d2, .int .i64 d3, .int .i64 d4, .int .i64 d5] ∧
              d0 + ((l.H.drop (i + 1)).count 1 : Int) = t0 ∧ d1 + ((l.H.drop (i + 1)).count 2 : Int) = t1 ∧ d2 + ((l.H.drop (i + 1)).count 3 : Int) = t2 ∧ d3 + ((l.H.drop (i + 1)).count 4 : Int) = t3 ∧ d4 + ((l.H.drop (i + 1)).count 5 : Int) = t4 ∧ d5 + ((l.H.drop (i + 1)).count 6 : Int) = t5 ∧
              (0 ≤ cx ∧ cx ≤ i) ∧ (0 ≤ d0 ∧ d0 ≤ i + 1) ∧ (0 ≤ d1 ∧ d1 ≤ i + 1) ∧ (0 ≤ d2 ∧ d2 ≤ i + 1) ∧ (0 ≤ d3 ∧ d3 ≤ i + 1) ∧ (0 ≤ d4 ∧ d4 ≤ i + 1) ∧ (0 ≤ d5 ∧ d5 ≤ i + 1) := by
            rw [hxk] at v0 v1 v2 v3 v4 v5
            have : k = 0 ∨ k = 1 ∨ k = 2 ∨ k = 3 ∨ k = 4 ∨ k = 5 := by omega
            rcases this with rfl | rfl | rfl | rfl | rfl | rfl
            all_goals
              simp only [List.count_cons] at v0 v1 v2 v3 v4 v5
              simp at v0 v1 v2 v3 v4 v5
              refine ⟨_, _, _, _, _, _, _, rfl, rfl, ?_, ?_, ?_, ?_, ?_, ?_, ⟨?_, ?_⟩, ⟨?_, ?_⟩, ⟨?_, ?_⟩, ⟨?_, ?_⟩, ⟨?_, ?_⟩, ⟨?_, ?_⟩, ⟨?_, ?_⟩⟩
              all_goals omega
          obtain ⟨hcx1, hcx2⟩ := hcx
          clear v0 v1 v2 v3 v4 v5 hso hd hbnd
          have hi7 : (i : Int) + 1 ≤ l.H.length := by omega
          have g1 : ¬ ((k : Int) + 1 < la) := by omega
          have g2 : ¬ (6 < (k : Int) + 1) := by omega
          repeat' first | simp (config := { maxSteps := 2000000 }) (disch := first | omega | (repeat first | assumption | exact Kept.refl _ | refine Kept.set' (by assumption) ?_ ?_ | refine Kept.set (by assumption) ?_ ?_ | omega)) only [go_sem, *, Try.results7, towersS, heightS, heightV, hgtA_in, hgtE_in, Int.add_sub_cancel, latchS, latchV, ltcA_in, ltcE_in, wordS, wordV, wrdE_in, Nat.reduceLT, Nat.reduceAdd, Nat.reduceMul, Nat.reduceSub, Nat.reduceEqDiff, Nat.reduceLeDiff, Int.reduceToNat, Int.reduceLT, Int.reduceLE, Int.reduceEq, Int.reduceNe, Int.reduceAdd, Int.reduceSub, Int.reduceMul, Int.reduceNeg, ↓reduceIte, reduceCtorEq] | (apply EvG_ndec <;> intro _) | (apply EvC_ndec <;> intro _) | (apply EvG_dec <;> intro _) | (apply EvC_dec <;> intro _) | fail | (apply EvH_ndec <;> intro _) | (apply EvH_dec <;> intro _) | (apply EvC_nbool <;> intro _) | (apply EvC_bool <;> intro _) | (apply EvG_nbool <;> intro _) | (apply EvG_bool <;> intro _) | (apply EvH_nbool <;> intro _) | (apply EvH_bool <;> intro _)
          refine ind_loop (fun t m h' n' => ∃ j : Nat, j ≤ 7 ∧ t = 7 - j ∧ m.n = 101 ∧ m.dfs = [] ∧ m.get 1 = .pointer (some ⟨N, 0, none⟩) ∧ m.get 3 = .pointer (some ⟨lb, 0, none⟩) ∧ m.get 5 = .pointer (some ⟨n2, 0, none⟩) ∧ m.get 6 = .int .i64 (k + 1) ∧ m.get 7 = .int .i64 (i + 1) ∧ m.get 8 = .int .i64 (k + 1) ∧ m.get 13 = .int .i64 j ∧
            Kept h2 h' ∧ n' = n2 + 1 ∧ h'.get n2 = some (.cells (PT.ofList .leaf 0 [.int .i64 d0, .int .i64 d1, .int .i64 d2, .int .i64 d3, .int .i64 d4, .int .i64 d5]) false)) 7 ?_ ?_
          · clear ih
            refine ⟨0, by omega, by omega, ?_⟩
            simp (config := { maxSteps := 2000000 }) (disch := first | omega | (repeat first | assumption | exact Kept.refl _ | refine Kept.set' (by assumption) ?_ ?_ | refine Kept.set (by assumption) ?_ ?_ | omega)) only [go_sem, *, Nat.reduceLT, Nat.reduceAdd, Nat.reduceMul, Nat.reduceSub, Nat.reduceEqDiff, Nat.reduceLeDiff, Int.reduceToNat, Int.reduceLT, Int.reduceLE, Int.reduceEq, Int.reduceNe, Int.reduceAdd, Int.reduceSub, Int.reduceMul, Int.reduceNeg, ↓reduceIte, reduceCtorEq]
            (repeat first | assumption | exact Kept.refl _ | refine Kept.set' (by assumption) ?_ ?_ | omega)
          · clear m1 m2 m3 m4 m5 m6 m7 r1 r3 hg hst hbx
            rintro t m h' n' ih2 ⟨j, hj, rfl, m1, m2, m3, m4, m5, m6, m7, m8, m9, r1, rfl, r3⟩
            by_cases hj7 : (j : Int) ≤ 6
            · clear ih
              have b2 : (0 : Int) ≤ j := by omega
              by_cases hjk : (j : Int) < k + 1
              · have hjk2 : (j : Int) < l.H.getD i 0 := by omega
                repeat' first | simp (config := { maxSteps := 2000000 }) (disch := first | omega | (repeat first | assumption | exact Kept.refl _ | refine Kept.set' (by assumption) ?_ ?_ | refine Kept.set (by assumption) ?_ ?_ | omega)) only [go_sem, *, Try.results7, nextS, nextV, nxtE_lt, beq_self_eq_true, Nat.reduceLT, Nat.reduceAdd, Nat.reduceMul, Nat.reduceSub, Nat.reduceEqDiff, Nat.reduceLeDiff, Int.reduceToNat, Int.reduceLT, Int.reduceLE, Int.reduceEq, Int.reduceNe, Int.reduceAdd, Int.reduceSub, Int.reduceMul, Int.reduceNeg, ↓reduceIte, reduceCtorEq] | (apply EvG_ndec <;> intro _) | (apply EvC_ndec <;> intro _) | (apply EvG_dec <;> intro _) | (apply EvC_dec <;> intro _) | fail | (apply EvH_ndec <;> intro _) | (apply EvH_dec <;> intro _) | (apply EvC_nbool <;> intro _) | (apply EvC_bool <;> intro _) | (apply EvG_nbool <;> intro _) | (apply EvG_bool <;> intro _) | (apply EvH_nbool <;> intro _) | (apply EvH_bool <;> intro _)
                refine ih2 (7 - (j + 1)) _ _ _ (by omega) ⟨j + 1, by omega, by omega, ?_⟩
                clear ih2
                simp (config := { maxSteps := 2000000 }) (disch := first | omega | (repeat first | assumption | exact Kept.refl _ | refine Kept.set' (by assumption) ?_ ?_ | refine Kept.set (by assumption) ?_ ?_ | omega)) only [go_sem, *, Nat.reduceLT, Nat.reduceAdd, Nat.reduceMul, Nat.reduceSub, Nat.reduceEqDiff, Nat.reduceLeDiff, Int.reduceToNat, Int.reduceLT, Int.reduceLE, Int.reduceEq, Int.reduceNe, Int.reduceAdd, Int.reduceSub, Int.reduceMul, Int.reduceNeg, ↓reduceIte, reduceCtorEq]
                all_goals simp
              · have hjk2 : ¬ (j : Int) < l.H.getD i 0 := by omega
                repeat' first | simp (config := { maxSteps := 2000000 }) (disch := first | omega | (repeat first | assumption | exact Kept.refl _ | refine Kept.set' (by assumption) ?_ ?_ | refine Kept.set (by assumption) ?_ ?_ | omega)) only [go_sem, *, Try.results7, nextS, nextV, nxtE_ge, beq_self_eq_true, Nat.reduceLT, Nat.reduceAdd, Nat.reduceMul, Nat.reduceSub, Nat.reduceEqDiff, Nat.reduceLeDiff, Int.reduceToNat, Int.reduceLT, Int.reduceLE, Int.reduceEq, Int.reduceNe, Int.reduceAdd, Int.reduceSub, Int.reduceMul, Int.reduceNeg, ↓reduceIte, reduceCtorEq] | (apply EvG_ndec <;> intro _) | (apply EvC_ndec <;> intro _) | (apply EvG_dec <;> intro _) | (apply EvC_dec <;> intro _) | fail | (apply EvH_ndec <;> intro _) | (apply EvH_dec <;> intro _) | (apply EvC_nbool <;> intro _) | (apply EvC_bool <;> intro _) | (apply EvG_nbool <;> intro _) | (apply EvG_bool <;> intro _) | (apply EvH_nbool <;> intro _) | (apply EvH_bool <;> intro _)
                refine ih2 (7 - (j + 1)) _ _ _ (by omega) ⟨j + 1, by omega, by omega, ?_⟩
                clear ih2
                simp (config := { maxSteps := 2000000 }) (disch := first | omega | (repeat first | assumption | exact Kept.refl _ | refine Kept.set' (by assumption) ?_ ?_ | refine Kept.set (by assumption) ?_ ?_ | omega)) only [go_sem, *, Nat.reduceLT, Nat.reduceAdd, Nat.reduceMul, Nat.reduceSub, Nat.reduceEqDiff, Nat.reduceLeDiff, Int.reduceToNat, Int.reduceLT, Int.reduceLE, Int.reduceEq, Int.reduceNe, Int.reduceAdd, Int.reduceSub, Int.reduceMul, Int.reduceNeg, ↓reduceIte, reduceCtorEq]
                all_goals simp
            · clear ih2
              repeat' first | simp (config := { maxSteps := 2000000 }) (disch := first | omega | (repeat first | assumption | exact Kept.refl _ | refine Kept.set' (by assumption) ?_ ?_ | refine Kept.set (by assumption) ?_ ?_ | omega)) only [go_sem, *, Try.results7, Nat.reduceLT, Nat.reduceAdd, Nat.reduceMul, Nat.reduceSub, Nat.reduceEqDiff, Nat.reduceLeDiff, Int.reduceToNat, Int.reduceLT, Int.reduceLE, Int.reduceEq, Int.reduceNe, Int.reduceAdd, Int.reduceSub, Int.reduceMul, Int.reduceNeg, ↓reduceIte, reduceCtorEq] | (apply EvG_ndec <;> intro _) | (apply EvC_ndec <;> intro _) | (apply EvG_dec <;> intro _) | (apply EvC_dec <;> intro _) | fail | (apply EvH_ndec <;> intro _) | (apply EvH_dec <;> intro _) | (apply EvC_nbool <;> intro _) | (apply EvC_bool <;> intro _) | (apply EvG_nbool <;> intro _) | (apply EvG_bool <;> intro _) | (apply EvH_nbool <;> intro _) | (apply EvH_bool <;> intro _)
              refine ih (l.H.length - (i + 1)) _ _ _ (by omega) ⟨i + 1, k + 1, d0, d1, d2, d3, d4, d5, by omega, by omega, by rw [← hxk]; exact hso2, ⟨w0, w1, w2, w3, w4, w5⟩, ⟨by omega, by omega⟩, ⟨by omega, by omega⟩, ⟨by omega, by omega⟩, ⟨by omega, by omega⟩, ⟨by omega, by omega⟩, ⟨by omega, by omega⟩, ?_⟩
              clear ih
              simp (config := { maxSteps := 2000000 }) (disch := first | omega | (repeat first | assumption | exact Kept.refl _ | refine Kept.set' (by assumption) ?_ ?_ | refine Kept.set (by assumption) ?_ ?_ | omega)) only [go_sem, *, Nat.reduceLT, Nat.reduceAdd, Nat.reduceMul, Nat.reduceSub, Nat.reduceEqDiff, Nat.reduceLeDiff, Int.reduceToNat, Int.reduceLT, Int.reduceLE, Int.reduceEq, Int.reduceNe, Int.reduceAdd, Int.reduceSub, Int.reduceMul, Int.reduceNeg, ↓reduceIte, reduceCtorEq]
              all_goals simp
        · have hie : i = l.H.length := by omega
          subst hie
          have hi7 : ¬ (l.H.length : Int) + 1 ≤ l.H.length := by omega
          clear ih
          rw [List.drop_eq_nil_of_le (by omega)] at v0 v1 v2 v3 v4 v5
          simp only [List.count_nil, Int.natCast_zero, Int.cast_ofNat_Int, Int.add_zero] at v0 v1 v2 v3 v4 v5
          subst v0 v1 v2 v3 v4 v5
          clear u0 u1 u2 u3 u4 u5
          repeat' first | simp (config := { maxSteps := 2000000 }) (disch := first | omega | (repeat first | assumption | exact Kept.refl _ | refine Kept.set' (by assumption) ?_ ?_ | refine Kept.set (by assumption) ?_ ?_ | omega)) only [go_sem, *, Try.results7, towersS, trueS, eq29, decide_true, Nat.reduceLT, Nat.reduceAdd, Nat.reduceMul, Nat.reduceSub, Nat.reduceEqDiff, Nat.reduceLeDiff, Int.reduceToNat, Int.reduceLT, Int.reduceLE, Int.reduceEq, Int.reduceNe, Int.reduceAdd, Int.reduceSub, Int.reduceMul, Int.reduceNeg, ↓reduceIte, reduceCtorEq] | (apply EvG_ndec <;> intro _) | (apply EvC_ndec <;> intro _) | (apply EvG_dec <;> intro _) | (apply EvC_dec <;> intro _) | fail | (apply EvH_ndec <;> intro _) | (apply EvH_dec <;> intro _) | (apply EvC_nbool <;> intro _) | (apply EvC_bool <;> intro _) | (apply EvG_nbool <;> intro _) | (apply EvG_bool <;> intro _) | (apply EvH_nbool <;> intro _) | (apply EvH_bool <;> intro _)
end Go.Proofs.Ytakfjoelpploeaa
