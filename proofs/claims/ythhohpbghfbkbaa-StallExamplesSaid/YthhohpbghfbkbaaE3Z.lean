/-
  A part of the proof: contracts of inner functions.
-/
import Derived.Test.YthhohpbghfbkbaaE3X
import Derived.Test.YthhohpbghfbkbaaE2L
set_option linter.unusedVariables false
set_option linter.unusedSimpArgs false
namespace Go.Proofs.Ythhohpbghfbkbaa
open Go.Am

abbrev Eng := Int × Int × Int
def engR (x : Eng) : List Value := [.int .u8 x.1, .int .i64 x.2.1, .int .i64 x.2.2]
def engRs (E : List Eng) : List Value := E.flatMap engR
theorem engRs_length : ∀ E : List Eng, (engRs E).length = E.length * 3
  | [] => rfl
  | x :: W => by
    have := engRs_length W
    unfold engRs at *
    rw [List.flatMap_cons, List.length_append, this]
    simp only [engR, List.length_cons, List.length_nil]; omega
theorem engRs_drop : ∀ (W : List Eng) (i : Nat), (engRs W).drop (i * 3) = engRs (W.drop i)
  | W, 0 => by simp
  | [], i + 1 => by simp [engRs]
  | y :: ys, i + 1 => by
    have : (i + 1) * 3 = i * 3 + 3 := by omega
    rw [this]
    simp only [List.drop_succ_cons]
    rw [← engRs_drop ys i]
    simp [engRs, engR]
theorem engRs_row {E : List Eng} {i : Nat} (hi : i < E.length) : ((engRs E).drop (i * 3)).take 3 = engR E[i] := by
  rw [engRs_drop, List.drop_eq_getElem_cons hi]; rfl
theorem engRs_snoc (S : List Eng) (a b c d : Eng) : engRs S ++ [.int .u8 a.1, .int .i64 a.2.1, .int .i64 a.2.2, .int .u8 b.1, .int .i64 b.2.1, .int .i64 b.2.2, .int .u8 c.1, .int .i64 c.2.1, .int .i64 c.2.2, .int .u8 d.1, .int .i64 d.2.1, .int .i64 d.2.2] = engRs (S ++ [a, b, c, d]) := by
  unfold engRs
  rw [List.flatMap_append]
  rfl
def OwnEng (N : Nat) (h : PT ABlk) (s : Value) (E : List Eng) : Prop := (s = .slice none 0 0 ∧ E = []) ∨ ∃ b, N ≤ b ∧ s = .slice (some ⟨b, 0, none⟩) E.length (capInf + 3) ∧ h.get b = some (.cells (PT.ofList .leaf 0 (engRs E)) false)
set_option maxRecDepth 100000 in
set_option maxHeartbeats 4000000 in
theorem enginesB {O : Over} (h : PT ABlk) (N : Nat) (hW : WfH h N) :
    EvB Try.prog O 4 [] h N fun v h' n' => (∃ L b, L.length = 120 ∧ v = .slice (some ⟨b, 0, none⟩) 120 (capInf + 3) ∧ h'.get b = some (.cells (PT.ofList .leaf 0 (engRs L)) false)) ∧ Kept h h' := by
  refine EvB_run (N := 30) Try.func4 rfl rfl fun z hP hO hro hN hQ => ?_
  repeat' first | simp (config := { maxSteps := 2000000 }) (disch := omega) only [go_sem, *, Try.results4] | (first | apply EvG_ndec | apply EvC_ndec | apply EvG_dec | apply EvC_dec | apply EvC_nbool | apply EvC_bool | apply EvG_nbool | apply EvG_bool) <;> intro _
  refine ind_loop (fun t m h' n' => ∃ (kd : Int) (ov : Value) (S : List Eng), 0 ≤ kd ∧ kd ≤ 5 ∧ t = (5 - kd).toNat ∧ m.n = 30 ∧ m.dfs = [] ∧ m.get 1 = ov ∧ m.get 2 = .int .u8 kd ∧ WfH h' n' ∧ N ≤ n' ∧ Kept h h' ∧ OwnEng N h' ov S ∧ (S.length : Int) = kd * 24) 5 ?_ ?_
  · refine ⟨0, .slice none 0 0, [], by omega, by omega, rfl, ?_⟩
    have how : OwnEng N h (.slice none 0 0) [] := .inl ⟨rfl, rfl⟩
    simp (config := { maxSteps := 2000000 }) (disch := omega) only [go_sem, *]
    exact ⟨Nat.le_refl _, Kept.refl _⟩
  · rintro t m h1 n1 ih ⟨kd, ov, S, hk0, hk5, rfl, m1, m2, m3, m4, q1, q2, q3, q4, q5⟩
    by_cases hk : kd ≤ 4
    · repeat' first | simp (config := { maxSteps := 2000000 }) (disch := omega) only [go_sem, *, Try.results4] | (first | apply EvG_ndec | apply EvC_ndec | apply EvG_dec | apply EvC_dec | apply EvC_nbool | apply EvC_bool | apply EvG_nbool | apply EvG_bool) <;> intro _
      refine ind_loop (fun t m h' n' => ∃ (j : Int) (ov : Value) (S : List Eng), 0 ≤ j ∧ j ≤ 6 ∧ t = (6 - j).toNat ∧ m.n = 30 ∧ m.dfs = [] ∧ m.get 1 = ov ∧ m.get 2 = .int .u8 kd ∧ m.get 9 = .agg ⟨[.int .i64 (-1), .int .i64 0, .int .i64 1, .int .i64 3, .int .i64 16, .int .i64 17]⟩ ∧ m.get 10 = .int .i64 j ∧
        WfH h' n' ∧ N ≤ n' ∧ Kept h h' ∧ OwnEng N h' ov S ∧ (S.length : Int) = kd * 24 + j * 4) 6 ?_ ?_
      · refine ⟨0, ov, S, by omega, by omega, rfl, ?_⟩
        simp (config := { maxSteps := 2000000 }) (disch := omega) only [go_sem, *]
        try omega
      · clear q1 q2 q3 q4 q5 m1 m2 m3 m4
        rintro t m h' n' ih2 ⟨j, ov, S, hj0, hj6, rfl, m1, m2, m3, m4, m5, m6, q1, q2, q3, q4, q5⟩
        by_cases hj : j ≤ 5
        · have hjc : j = 0 ∨ j = 1 ∨ j = 2 ∨ j = 3 ∨ j = 4 ∨ j = 5 := by omega
          clear hj0 hj6 hj
          have hS3 : (engRs S).length = S.length * 3 := engRs_length S
          have hble : (S.length + 4).ble 1048576 = true := Nat.ble_eq_true_of_le (by omega)
          rcases hjc with rfl | rfl | rfl | rfl | rfl | rfl
          · have hsn : engRs S ++ [.int .u8 kd, .int .i64 3, .int .i64 (-1), .int .u8 kd, .int .i64 64, .int .i64 (-1), .int .u8 kd, .int .i64 65, .int .i64 (-1), .int .u8 kd, .int .i64 0, .int .i64 (-1)] = engRs (S ++ [(kd, 3, (-1)), (kd, 64, (-1)), (kd, 65, (-1)), (kd, 0, (-1))]) := engRs_snoc S (kd, 3, (-1)) (kd, 64, (-1)) (kd, 65, (-1)) (kd, 0, (-1))
            have hlen : (S ++ ([(kd, 3, (-1)), (kd, 64, (-1)), (kd, 65, (-1)), (kd, 0, (-1))] : List Eng)).length = S.length + 4 := by simp
            rcases q4 with ⟨rfl, rfl⟩ | ⟨g, hgN, rfl, hgr⟩
            · repeat' first | simp (config := { maxSteps := 2000000 }) (disch := omega) only [go_sem, *, Try.results4, partL] | (first | apply EvG_ndec | apply EvC_ndec | apply EvG_dec | apply EvC_dec | apply EvC_nbool | apply EvC_bool | apply EvG_nbool | apply EvG_bool) <;> intro _
              refine ih2 (6 - (1 : Int)).toNat _ _ _ (by omega) ⟨1, .slice (some ⟨n' + 1, 0, none⟩) 4 (capInf + 3), [(kd, 3, (-1)), (kd, 64, (-1)), (kd, 65, (-1)), (kd, 0, (-1))], by omega, by omega, rfl, ?_⟩
              clear ih2 ih
              simp (config := { maxSteps := 2000000 }) (disch := omega) only [go_sem, *]
              exact ⟨WfH.set' (by omega) (q1.set (by omega) (by omega)), by omega, Kept.set' hW (by omega) (Kept.set' hW (by omega) q3), .inr ⟨n' + 1, by omega, rfl, heap_same⟩, by simp at q5 ⊢; omega⟩
            · have hgn := q1.lt hgr
              have htk : (engRs S).take (S.length * 3) = engRs S := by rw [← hS3]; exact List.take_length
              have hbq : (S.length * 3).beq (S.length * 3) = true := Nat.beq_refl _
              repeat' first | simp (config := { maxSteps := 2000000 }) (disch := omega) only [go_sem, *, Try.results4, partL] | (first | apply EvG_ndec | apply EvC_ndec | apply EvG_dec | apply EvC_dec | apply EvC_nbool | apply EvC_bool | apply EvG_nbool | apply EvG_bool) <;> intro _
              refine ih2 (6 - (1 : Int)).toNat _ _ _ (by omega) ⟨1, .slice (some ⟨n' + 1, 0, none⟩) (S.length + 4) (capInf + 3), S ++ [(kd, 3, (-1)), (kd, 64, (-1)), (kd, 65, (-1)), (kd, 0, (-1))], by omega, by omega, rfl, ?_⟩
              clear ih2 ih
              simp (config := { maxSteps := 2000000 }) (disch := omega) only [go_sem, *]
              exact ⟨WfH.set' (by omega) (WfH.set' (by omega) (q1.set (by omega) (by omega))), by omega, Kept.set' hW (by omega) (Kept.set' hW (by omega) (Kept.set' hW (by omega) q3)), .inr ⟨n' + 1, by omega, by rw [hlen], heap_same⟩, by omega⟩
          · have hsn : engRs S ++ [.int .u8 kd, .int .i64 3, .int .i64 0, .int .u8 kd, .int .i64 64, .int .i64 0, .int .u8 kd, .int .i64 65, .int .i64 0, .int .u8 kd, .int .i64 0, .int .i64 0] = engRs (S ++ [(kd, 3, 0), (kd, 64, 0), (kd, 65, 0), (kd, 0, 0)]) := engRs_snoc S (kd, 3, 0) (kd, 64, 0) (kd, 65, 0) (kd, 0, 0)
            have hlen : (S ++ ([(kd, 3, 0), (kd, 64, 0), (kd, 65, 0), (kd, 0, 0)] : List Eng)).length = S.length + 4 := by simp
            rcases q4 with ⟨rfl, rfl⟩ | ⟨g, hgN, rfl, hgr⟩
            · repeat' first | simp (config := { maxSteps := 2000000 }) (disch := omega) only [go_sem, *, Try.results4, partL] | (first | apply EvG_ndec | apply EvC_ndec | apply EvG_dec | apply EvC_dec | apply EvC_nbool | apply EvC_bool | apply EvG_nbool | apply EvG_bool) <;> intro _
              refine ih2 (6 - (2 : Int)).toNat _ _ _ (by omega) ⟨2, .slice (some ⟨n' + 1, 0, none⟩) 4 (capInf + 3), [(kd, 3, 0), (kd, 64, 0), (kd, 65, 0), (kd, 0, 0)], by omega, by omega, rfl, ?_⟩
              clear ih2 ih
              simp (config := { maxSteps := 2000000 }) (disch := omega) only [go_sem, *]
              exact ⟨WfH.set' (by omega) (q1.set (by omega) (by omega)), by omega, Kept.set' hW (by omega) (Kept.set' hW (by omega) q3), .inr ⟨n' + 1, by omega, rfl, heap_same⟩, by simp at q5 ⊢; omega⟩
            · have hgn := q1.lt hgr
              have htk : (engRs S).take (S.length * 3) = engRs S := by rw [← hS3]; exact List.take_length
              have hbq : (S.length * 3).beq (S.length * 3) = true := Nat.beq_refl _
              repeat' first | simp (config := { maxSteps := 2000000 }) (disch := omega) only [go_sem, *, Try.results4, partL] | (first | apply EvG_ndec | apply EvC_ndec | apply EvG_dec | apply EvC_dec | apply EvC_nbool | apply EvC_bool | apply EvG_nbool | apply EvG_bool) <;> intro _
              refine ih2 (6 - (2 : Int)).toNat _ _ _ (by omega) ⟨2, .slice (some ⟨n' + 1, 0, none⟩) (S.length + 4) (capInf + 3), S ++ [(kd, 3, 0), (kd, 64, 0), (kd, 65, 0), (kd, 0, 0)], by omega, by omega, rfl, ?_⟩
              clear ih2 ih
              simp (config := { maxSteps := 2000000 }) (disch := omega) only [go_sem, *]
              exact ⟨WfH.set' (by omega) (WfH.set' (by omega) (q1.set (by omega) (by omega))), by omega, Kept.set' hW (by omega) (Kept.set' hW (by omega) (Kept.set' hW (by omega) q3)), .inr ⟨n' + 1, by omega, by rw [hlen], heap_same⟩, by omega⟩
          · have hsn : engRs S ++ [.int .u8 kd, .int .i64 3, .int .i64 1, .int .u8 kd, .int .i64 64, .int .i64 1, .int .u8 kd, .int .i64 65, .int .i64 1, .int .u8 kd, .int .i64 0, .int .i64 1] = engRs (S ++ [(kd, 3, 1), (kd, 64, 1), (kd, 65, 1), (kd, 0, 1)]) := engRs_snoc S (kd, 3, 1) (kd, 64, 1) (kd, 65, 1) (kd, 0, 1)
            have hlen : (S ++ ([(kd, 3, 1), (kd, 64, 1), (kd, 65, 1), (kd, 0, 1)] : List Eng)).length = S.length + 4 := by simp
            rcases q4 with ⟨rfl, rfl⟩ | ⟨g, hgN, rfl, hgr⟩
            · repeat' first | simp (config := { maxSteps := 2000000 }) (disch := omega) only [go_sem, *, Try.results4, partL] | (first | apply EvG_ndec | apply EvC_ndec | apply EvG_dec | apply EvC_dec | apply EvC_nbool | apply EvC_bool | apply EvG_nbool | apply EvG_bool) <;> intro _
              refine ih2 (6 - (3 : Int)).toNat _ _ _ (by omega) ⟨3, .slice (some ⟨n' + 1, 0, none⟩) 4 (capInf + 3), [(kd, 3, 1), (kd, 64, 1), (kd, 65, 1), (kd, 0, 1)], by omega, by omega, rfl, ?_⟩
              clear ih2 ih
              simp (config := { maxSteps := 2000000 }) (disch := omega) only [go_sem, *]
              exact ⟨WfH.set' (by omega) (q1.set (by omega) (by omega)), by omega, Kept.set' hW (by omega) (Kept.set' hW (by omega) q3), .inr ⟨n' + 1, by omega, rfl, heap_same⟩, by simp at q5 ⊢; omega⟩
            · have hgn := q1.lt hgr
              have htk : (engRs S).take (S.length * 3) = engRs S := by rw [← hS3]; exact List.take_length
              have hbq : (S.length * 3).beq (S.length * 3) = true := Nat.beq_refl _
              repeat' first | simp (config := { maxSteps := 2000000 }) (disch := omega) only [go_sem, *, Try.results4, partL] | (first | apply EvG_ndec | apply EvC_ndec | apply EvG_dec | apply EvC_dec | apply EvC_nbool | apply EvC_bool | apply EvG_nbool | apply EvG_bool) <;> intro _
              refine ih2 (6 - (3 : Int)).toNat _ _ _ (by omega) ⟨3, .slice (some ⟨n' + 1, 0, none⟩) (S.length + 4) (capInf + 3), S ++ [(kd, 3, 1), (kd, 64, 1), (kd, 65, 1), (kd, 0, 1)], by omega, by omega, rfl, ?_⟩
              clear ih2 ih
              simp (config := { maxSteps := 2000000 }) (disch := omega) only [go_sem, *]
              exact ⟨WfH.set' (by omega) (WfH.set' (by omega) (q1.set (by omega) (by omega))), by omega, Kept.set' hW (by omega) (Kept.set' hW (by omega) (Kept.set' hW (by omega) q3)), .inr ⟨n' + 1, by omega, by rw [hlen], heap_same⟩, by omega⟩
          · have hsn : engRs S ++ [.int .u8 kd, .int .i64 3, .int .i64 3, .int .u8 kd, .int .i64 64, .int .i64 3, .int .u8 kd, .int .i64 65, .int .i64 3, .int .u8 kd, .int .i64 0, .int .i64 3] = engRs (S ++ [(kd, 3, 3), (kd, 64, 3), (kd, 65, 3), (kd, 0, 3)]) := engRs_snoc S (kd, 3, 3) (kd, 64, 3) (kd, 65, 3) (kd, 0, 3)
            have hlen : (S ++ ([(kd, 3, 3), (kd, 64, 3), (kd, 65, 3), (kd, 0, 3)] : List Eng)).length = S.length + 4 := by simp
            rcases q4 with ⟨rfl, rfl⟩ | ⟨g, hgN, rfl, hgr⟩
            · repeat' first | simp (config := { maxSteps := 2000000 }) (disch := omega) only [go_sem, *, Try.results4, partL] | (first | apply EvG_ndec | apply EvC_ndec | apply EvG_dec | apply EvC_dec | apply EvC_nbool | apply EvC_bool | apply EvG_nbool | apply EvG_bool) <;> intro _
              refine ih2 (6 - (4 : Int)).toNat _ _ _ (by omega) ⟨4, .slice (some ⟨n' + 1, 0, none⟩) 4 (capInf + 3), [(kd, 3, 3), (kd, 64, 3), (kd, 65, 3), (kd, 0, 3)], by omega, by omega, rfl, ?_⟩
              clear ih2 ih
              simp (config := { maxSteps := 2000000 }) (disch := omega) only [go_sem, *]
              exact ⟨WfH.set' (by omega) (q1.set (by omega) (by omega)), by omega, Kept.set' hW (by omega) (Kept.set' hW (by omega) q3), .inr ⟨n' + 1, by omega, rfl, heap_same⟩, by simp at q5 ⊢; omega⟩
            · have hgn := q1.lt hgr
              have htk : (engRs S).take (S.length * 3) = engRs S := by rw [← hS3]; exact List.take_length
              have hbq : (S.length * 3).beq (S.length * 3) = true := Nat.beq_refl _
              repeat' first | simp (config := { maxSteps := 2000000 }) (disch := omega) only [go_sem, *, Try.results4, partL] | (first | apply EvG_ndec | apply EvC_ndec | apply EvG_dec | apply EvC_dec | apply EvC_nbool | apply EvC_bool | apply EvG_nbool | apply EvG_bool) <;> intro _
              refine ih2 (6 - (4 : Int)).toNat _ _ _ (by omega) ⟨4, .slice (some ⟨n' + 1, 0, none⟩) (S.length + 4) (capInf + 3), S ++ [(kd, 3, 3), (kd, 64, 3), (kd, 65, 3), (kd, 0, 3)], by omega, by omega, rfl, ?_⟩
              clear ih2 ih
              simp (config := { maxSteps := 2000000 }) (disch := omega) only [go_sem, *]
              exact ⟨WfH.set' (by omega) (WfH.set' (by omega) (q1.set (by omega) (by omega))), by omega, Kept.set' hW (by omega) (Kept.set' hW (by omega) (Kept.set' hW (by omega) q3)), .inr ⟨n' + 1, by omega, by rw [hlen], heap_same⟩, by omega⟩
          · have hsn : engRs S ++ [.int .u8 kd, .int .i64 3, .int .i64 16, .int .u8 kd, .int .i64 64, .int .i64 16, .int .u8 kd, .int .i64 65, .int .i64 16, .int .u8 kd, .int .i64 0, .int .i64 16] = engRs (S ++ [(kd, 3, 16), (kd, 64, 16), (kd, 65, 16), (kd, 0, 16)]) := engRs_snoc S (kd, 3, 16) (kd, 64, 16) (kd, 65, 16) (kd, 0, 16)
            have hlen : (S ++ ([(kd, 3, 16), (kd, 64, 16), (kd, 65, 16), (kd, 0, 16)] : List Eng)).length = S.length + 4 := by simp
            rcases q4 with ⟨rfl, rfl⟩ | ⟨g, hgN, rfl, hgr⟩
            · repeat' first | simp (config := { maxSteps := 2000000 }) (disch := omega) only [go_sem, *, Try.results4, partL] | (first | apply EvG_ndec | apply EvC_ndec | apply EvG_dec | apply EvC_dec | apply EvC_nbool | apply EvC_bool | apply EvG_nbool | apply EvG_bool) <;> intro _
              refine ih2 (6 - (5 : Int)).toNat _ _ _ (by omega) ⟨5, .slice (some ⟨n' + 1, 0, none⟩) 4 (capInf + 3), [(kd, 3, 16), (kd, 64, 16), (kd, 65, 16), (kd, 0, 16)], by omega, by omega, rfl, ?_⟩
              clear ih2 ih
              simp (config := { maxSteps := 2000000 }) (disch := omega) only [go_sem, *]
              exact ⟨WfH.set' (by omega) (q1.set (by omega) (by omega)), by omega, Kept.set' hW (by omega) (Kept.set' hW (by omega) q3), .inr ⟨n' + 1, by omega, rfl, heap_same⟩, by simp at q5 ⊢; omega⟩
            · have hgn := q1.lt hgr
              have htk : (engRs S).take (S.length * 3) = engRs S := by rw [← hS3]; exact List.take_length
              have hbq : (S.length * 3).beq (S.length * 3) = true := Nat.beq_refl _
              repeat' first | simp (config := { maxSteps := 2000000 }) (disch := omega) only [go_sem, *, Try.results4, partL] | (first | apply EvG_ndec | apply EvC_ndec | apply EvG_dec | apply EvC_dec | apply EvC_nbool | apply EvC_bool | apply EvG_nbool | apply EvG_bool) <;> intro _
              refine ih2 (6 - (5 : Int)).toNat _ _ _ (by omega) ⟨5, .slice (some ⟨n' + 1, 0, none⟩) (S.length + 4) (capInf + 3), S ++ [(kd, 3, 16), (kd, 64, 16), (kd, 65, 16), (kd, 0, 16)], by omega, by omega, rfl, ?_⟩
              clear ih2 ih
              simp (config := { maxSteps := 2000000 }) (disch := omega) only [go_sem, *]
              exact ⟨WfH.set' (by omega) (WfH.set' (by omega) (q1.set (by omega) (by omega))), by omega, Kept.set' hW (by omega) (Kept.set' hW (by omega) (Kept.set' hW (by omega) q3)), .inr ⟨n' + 1, by omega, by rw [hlen], heap_same⟩, by omega⟩
          · have hsn : engRs S ++ [.int .u8 kd, .int .i64 3, .int .i64 17, .int .u8 kd, .int .i64 64, .int .i64 17, .int .u8 kd, .int .i64 65, .int .i64 17, .int .u8 kd, .int .i64 0, .int .i64 17] = engRs (S ++ [(kd, 3, 17), (kd, 64, 17), (kd, 65, 17), (kd, 0, 17)]) := engRs_snoc S (kd, 3, 17) (kd, 64, 17) (kd, 65, 17) (kd, 0, 17)
            have hlen : (S ++ ([(kd, 3, 17), (kd, 64, 17), (kd, 65, 17), (kd, 0, 17)] : List Eng)).length = S.length + 4 := by simp
            rcases q4 with ⟨rfl, rfl⟩ | ⟨g, hgN, rfl, hgr⟩
            · repeat' first | simp (config := { maxSteps := 2000000 }) (disch := omega) only [go_sem, *, Try.results4, partL] | (first | apply EvG_ndec | apply EvC_ndec | apply EvG_dec | apply EvC_dec | apply EvC_nbool | apply EvC_bool | apply EvG_nbool | apply EvG_bool) <;> intro _
              refine ih2 (6 - (6 : Int)).toNat _ _ _ (by omega) ⟨6, .slice (some ⟨n' + 1, 0, none⟩) 4 (capInf + 3), [(kd, 3, 17), (kd, 64, 17), (kd, 65, 17), (kd, 0, 17)], by omega, by omega, rfl, ?_⟩
              clear ih2 ih
              simp (config := { maxSteps := 2000000 }) (disch := omega) only [go_sem, *]
              exact ⟨WfH.set' (by omega) (q1.set (by omega) (by omega)), by omega, Kept.set' hW (by omega) (Kept.set' hW (by omega) q3), .inr ⟨n' + 1, by omega, rfl, heap_same⟩, by simp at q5 ⊢; omega⟩
            · have hgn := q1.lt hgr
              have htk : (engRs S).take (S.length * 3) = engRs S := by rw [← hS3]; exact List.take_length
              have hbq : (S.length * 3).beq (S.length * 3) = true := Nat.beq_refl _
              repeat' first | simp (config := { maxSteps := 2000000 }) (disch := omega) only [go_sem, *, Try.results4, partL] | (first | apply EvG_ndec | apply EvC_ndec | apply EvG_dec | apply EvC_dec | apply EvC_nbool | apply EvC_bool | apply EvG_nbool | apply EvG_bool) <;> intro _
              refine ih2 (6 - (6 : Int)).toNat _ _ _ (by omega) ⟨6, .slice (some ⟨n' + 1, 0, none⟩) (S.length + 4) (capInf + 3), S ++ [(kd, 3, 17), (kd, 64, 17), (kd, 65, 17), (kd, 0, 17)], by omega, by omega, rfl, ?_⟩
              clear ih2 ih
              simp (config := { maxSteps := 2000000 }) (disch := omega) only [go_sem, *]
              exact ⟨WfH.set' (by omega) (WfH.set' (by omega) (q1.set (by omega) (by omega))), by omega, Kept.set' hW (by omega) (Kept.set' hW (by omega) (Kept.set' hW (by omega) q3)), .inr ⟨n' + 1, by omega, by rw [hlen], heap_same⟩, by omega⟩
        · have hj7 : j = 6 := by omega
          subst hj7
          clear ih2
          repeat' first | simp (config := { maxSteps := 2000000 }) (disch := omega) only [go_sem, *, Try.results4] | (first | apply EvG_ndec | apply EvC_ndec | apply EvG_dec | apply EvC_dec | apply EvC_nbool | apply EvC_bool | apply EvG_nbool | apply EvG_bool) <;> intro _
          refine ih (5 - (kd + 1)).toNat _ _ _ (by omega) ⟨kd + 1, ov, S, by omega, by omega, rfl, ?_⟩
          clear ih
          simp (config := { maxSteps := 2000000 }) (disch := omega) only [go_sem, *]
          omega
    · have hk6 : kd = 5 := by omega
      subst hk6
      clear ih
      rcases q4 with ⟨rfl, rfl⟩ | ⟨b, hb1, rfl, hb2⟩
      · simp at q5
      · have hl : S.length = 120 := by omega
        rw [hl] at m3
        repeat' first | simp (config := { maxSteps := 2000000 }) (disch := omega) only [go_sem, *, Try.results4] | (first | apply EvG_ndec | apply EvC_ndec | apply EvG_dec | apply EvC_dec | apply EvC_nbool | apply EvC_bool | apply EvG_nbool | apply EvG_bool) <;> intro _
        exact ⟨S, b, hl, rfl, hb2⟩
end Go.Proofs.Ythhohpbghfbkbaa

set_option linter.unusedVariables false
set_option linter.unusedSimpArgs false
namespace Go.Proofs.Ythhohpbghfbkbaa
open Go.Am

/-! ### example -/
def exE : List Ev := [(1, 0, 1, 3), (2, 1, 3, 8), (4, 0, 2, 3), (6, 2, 1, 5)]
def exS : List Value → Option (AP Value)
  | [] => some (.newRow [.int .i64 1, .int .i64 0, .int .u8 1, .int .u64 3, .int .i64 2, .int .i64 1, .int .u8 3, .int .u64 8, .int .i64 4, .int .i64 0, .int .u8 2, .int .u64 3, .int .i64 6, .int .i64 2, .int .u8 1, .int .u64 5] fun g => .pure (.slice (some ⟨g, 0, none⟩) 4 4))
  | _ => none
theorem exB {O : Over} (h : PT ABlk) (N : Nat) (hW : WfH h N) : EvB Try.prog O 7 [] h N fun v h' n' => v = .slice (some ⟨N, 0, none⟩) 4 4 ∧ h'.get N = some (.cells (PT.ofList .leaf 0 (evCs exE)) false) ∧ Kept h h' := by
  refine EvB_run (N := 6) Try.func7 rfl rfl fun z hP hO hro hN hQ => ?_
  have key : evCs exE = [.int .i64 1, .int .i64 0, .int .u8 1, .int .u64 3, .int .i64 2, .int .i64 1, .int .u8 3, .int .u64 8, .int .i64 4, .int .i64 0, .int .u8 2, .int .u64 3, .int .i64 6, .int .i64 2, .int .u8 1, .int .u64 5] := rfl
  rw [key] at hQ
  clear key
  repeat' first | simp (config := { maxSteps := 2000000 }) (disch := omega) only [go_sem, *, Try.results7] | (first | apply EvG_ndec | apply EvC_ndec | apply EvG_dec | apply EvC_dec | apply EvC_nbool | apply EvC_bool | apply EvG_nbool | apply EvG_bool) <;> intro _
  exact hW.kept (Nat.le_refl _)
theorem exF : SoundF Try.prog 7 exS := by
  refine soundF (O := tabO []) (tab_sound .nil) orders ?_
  intro args m hm h n N Old OldId v h1 n1 hr hold hid hN
  unfold exS at hm
  split at hm
  · simp only [Option.some.injEq] at hm
    subst hm
    have hW : WfH h N := WfH.of_lt fun i B e => (hid i (hold.id i B e)).1
    refine (exB (O := tabO []) h N hW).mono ?_
    rintro v2 h2 n2 ⟨rfl, h2g, hk⟩
    replace hr := run_new hr
    obtain ⟨hs, rfl⟩ := run_pure hr
    have e1 : h1 = _ := congrArg HS.heap hs
    have e2 : n1 = _ := congrArg HS.next hs
    simp only [S0] at e1 e2
    subst e1 e2
    exact ren_new (L := evCs exE) (fun u hu => evCs_int hu) (Nat.le_refl _) hk h2g fun hnew => .slice n 0 _ _ N hnew
  · simp at hm

/-! ### StallNumbers, StallMatches -/
noncomputable def numS : List Value → Option (AP Value)
  | [.agg ⟨[.int .u8 _, .int .i64 _, .int .i64 _]⟩, .int .u64 s, .int .u64 v] => some (cond (decide (0 ≤ s ∧ s < 18446744073709551616 ∧ 0 ≤ v ∧ v < 18446744073709551616)) (.pure (.bool true)) (.fail ""))
  | _ => none
theorem numS_eq {kd sl k s v : Int} (h1 : 0 ≤ s) (h2 : s < 18446744073709551616) (h3 : 0 ≤ v) (h4 : v < 18446744073709551616) : numS [.agg ⟨[.int .u8 kd, .int .i64 sl, .int .i64 k]⟩, .int .u64 s, .int .u64 v] = some (.pure (.bool true)) := by
  show some (cond (decide (0 ≤ s ∧ s < 18446744073709551616 ∧ 0 ≤ v ∧ v < 18446744073709551616)) (AP.pure (Value.bool true)) (AP.fail "")) = _
  rw [decide_eq_true ⟨h1, h2, h3, h4⟩]
  rfl
theorem numF : SoundF Try.prog 5 numS := by
  refine soundF (O := OS) OSok orders ?_
  intro args m hm h n N Old OldId v h1 n1 hr hold hid hN
  unfold numS at hm
  split at hm
  · rename_i kd sl k s w
    simp only [Option.some.injEq] at hm
    subst hm
    have hW : WfH h N := WfH.of_lt fun i B e => (hid i (hold.id i B e)).1
    obtain ⟨hc, hr⟩ := run_cond hr
    obtain ⟨c1, c2, c3, c4⟩ := of_decide_eq_true hc
    obtain ⟨hs, rfl⟩ := run_pure hr
    have e1 : h1 = h := congrArg HS.heap hs
    have e2 : n1 = n := congrArg HS.next hs
    subst e1 e2
    obtain ⟨sn, rfl⟩ : ∃ sn : Nat, s = sn := ⟨s.toNat, by omega⟩
    obtain ⟨wn, rfl⟩ : ∃ wn : Nat, w = wn := ⟨w.toNat, by omega⟩
    refine (numbersK kd sl k sn wn (by omega) (by omega) _ N hW).mono ?_
    rintro v2 h2 n2 ⟨rfl, hk⟩
    exact ren_plain (.bool _) hk
  · simp at hm
noncomputable def matS : List Value → Option (AP Value)
  | [.agg ⟨[.int .u8 _, .int .i64 _, .int .i64 _]⟩, s, .int .i64 _, .int .i64 _] => some ((rdArg s).bind fun E => cond (@decide (okVals E) (Classical.propDecidable _)) (.pure (.bool true)) (.fail ""))
  | _ => none
theorem matF : SoundF Try.prog 6 matS := by
  refine soundF (O := OM) OMok orders ?_
  intro args m hm h n N Old OldId v h1 n1 hr hold hid hN
  unfold matS at hm
  split at hm
  · rename_i kd sl k s wait step
    simp only [Option.some.injEq] at hm
    subst hm
    obtain ⟨E, hl, hr⟩ := run_bind_reads (rdArg_reads _) hr
    have hA := rdArg_look hl
    have hW : WfH h N := WfH.of_lt fun i B e => (hid i (hold.id i B e)).1
    obtain ⟨hc, hr⟩ := run_cond hr
    have hv : okVals E := @of_decide_eq_true _ (Classical.propDecidable _) hc
    obtain ⟨hs, rfl⟩ := run_pure hr
    have e1 : h1 = h := congrArg HS.heap hs
    have e2 : n1 = n := congrArg HS.next hs
    subst e1 e2
    refine (matchesK kd sl k wait step E s hv _ N hW hA).mono ?_
    rintro v2 h2 n2 ⟨rfl, hk⟩
    exact ren_plain (.bool _) hk
  · simp at hm
noncomputable abbrev OE : Over := tabO [(7, exS), (8, trueS), (5, numS), (6, matS)]
theorem OEok : SoundO Try.prog OE := tab_sound (.cons exF (.cons awakeF (.cons numF (.cons matF .nil))))

/-! ### The walk -/
def setsOk (S : List Value) : Prop := S.length = 6 ∧ ∀ k, k < 6 → ∃ s : Int, S[k]? = some (.int .u64 s) ∧ 0 ≤ s ∧ s < 18446744073709551616
theorem sets_ok : setsOk [.int .u64 0, .int .u64 1, .int .u64 8, .int .u64 35, .int .u64 9223372036854775808, .int .u64 18446744073709551615] := by
  refine ⟨rfl, fun k hk => ?_⟩
  have hc : k = 0 ∨ k = 1 ∨ k = 2 ∨ k = 3 ∨ k = 4 ∨ k = 5 := by omega
  rcases hc with rfl | rfl | rfl | rfl | rfl | rfl <;> exact ⟨_, rfl, by omega, by omega⟩
theorem fresh_no2 (n a : Nat) : (n.ble a && a.blt n) = false := fresh_no n a
set_option maxRecDepth 100000 in
set_option maxHeartbeats 8000000 in
theorem examplesB (h : PT ABlk) (N : Nat) (hW : WfH h N) :
    EvB Try.prog OE 3 [] h N fun v _ _ => v = .bool true := by
  have hok0 : @decide (okVals []) (Classical.propDecidable _) = true := @decide_eq_true _ (Classical.propDecidable _) fun x hx => by simp at hx
  have hok1 : @decide (okVals exE) (Classical.propDecidable _) = true := @decide_eq_true _ (Classical.propDecidable _) fun x hx => by
    simp only [exE, List.mem_cons, List.not_mem_nil, or_false] at hx
    rcases hx with rfl | rfl | rfl | rfl <;> simp
  have hok2 : @decide (okVals (exE.drop 1)) (Classical.propDecidable _) = true := @decide_eq_true _ (Classical.propDecidable _) fun x hx => by
    simp only [exE, List.drop_succ_cons, List.drop_zero, List.mem_cons, List.not_mem_nil, or_false] at hx
    rcases hx with rfl | rfl | rfl <;> simp
  have hrd1 : rdEv2 0 4 4 [.int .i64 1, .int .i64 0, .int .u8 1, .int .u64 3, .int .i64 2, .int .i64 1, .int .u8 3, .int .u64 8, .int .i64 4, .int .i64 0, .int .u8 2, .int .u64 3, .int .i64 6, .int .i64 2, .int .u8 1, .int .u64 5] false = .pure exE := rdEv2_eq (E := exE) rfl rfl (by omega) (by omega) (by simp)
  have hrd2 : rdEv2 4 3 3 [.int .i64 1, .int .i64 0, .int .u8 1, .int .u64 3, .int .i64 2, .int .i64 1, .int .u8 3, .int .u64 8, .int .i64 4, .int .i64 0, .int .u8 2, .int .u64 3, .int .i64 6, .int .i64 2, .int .u8 1, .int .u64 5] false = .pure (exE.drop 1) := rdEv2_eq (E := exE.drop 1) rfl rfl (by omega) (by omega) (by simp)
  refine EvB_run (N := 124) Try.func3 rfl rfl fun z hP hO hro hN hQ => ?_
  repeat' first | simp (config := { maxSteps := 2000000 }) (disch := omega) only [go_sem, *, Try.results3] | (first | apply EvG_ndec | apply EvC_ndec | apply EvG_dec | apply EvC_dec | apply EvC_nbool | apply EvC_bool | apply EvG_nbool | apply EvG_bool) <;> intro _ | (first | apply EvH_ndec | apply EvH_dec | apply EvH_nbool | apply EvH_bool) <;> intro _ | refine EvK_draw (id := 9) (L := [(0, 1), (0, 4), (1, 4), (2, 4), (3, 4), (0, 5), (1, 5), (2, 5), (3, 5), (4, 5), (0, 6), (1, 6), (2, 6), (3, 6), (0, 7), (1, 7), (2, 7), (3, 7), (11, 12), (11, 15), (12, 15), (13, 15), (14, 15), (11, 16), (12, 16), (13, 16), (14, 16), (15, 16), (11, 17), (12, 17), (13, 17), (14, 17), (11, 18), (12, 18), (13, 18), (14, 18), (23, 24), (23, 27), (24, 27), (25, 27), (26, 27), (23, 28), (24, 28), (25, 28), (26, 28), (27, 28), (23, 29), (24, 29), (25, 29), (26, 29), (23, 30), (24, 30), (25, 30), (26, 30), (35, 36), (35, 39), (36, 39), (37, 39), (38, 39), (35, 40), (36, 40), (37, 40), (38, 40), (39, 40), (35, 41), (36, 41), (37, 41), (38, 41), (35, 42), (36, 42), (37, 42), (38, 42), (47, 48), (47, 51), (48, 51), (49, 51), (50, 51), (47, 52), (48, 52), (49, 52), (50, 52), (51, 52), (47, 53), (48, 53), (49, 53), (50, 53), (47, 54), (48, 54), (49, 54), (50, 54), (47, 55), (48, 55), (49, 55), (50, 55), (51, 55), (52, 55), (53, 55), (54, 55), (47, 56), (48, 56), (49, 56), (50, 56), (51, 56), (52, 56), (53, 56), (54, 56), (55, 56), (47, 57), (48, 57), (49, 57), (50, 57), (51, 57), (52, 57), (53, 57), (54, 57), (47, 58), (48, 58), (49, 58), (50, 58), (51, 58), (52, 58), (53, 58), (54, 58)]) (by kernel_rfl) (by kernel_rfl) ?_ | refine EvK_draw (id := 14) (L := [(0, 1), (0, 4), (1, 4), (2, 4), (3, 4), (0, 5), (1, 5), (2, 5), (3, 5), (4, 5), (9, 10), (9, 13), (10, 13), (11, 13), (12, 13), (9, 14), (10, 14), (11, 14), (12, 14), (13, 14), (19, 20), (19, 23), (20, 23), (21, 23), (22, 23), (19, 24), (20, 24), (21, 24), (22, 24), (19, 25), (20, 25), (21, 25), (22, 25), (23, 25), (24, 25)]) (by kernel_rfl) (by kernel_rfl) ?_
  refine EvQ_call ?_ ?_ (by rw [hP, hO]; exact (enginesB h N hW).wf hW) ?_
  · simp (config := { maxSteps := 2000000 }) (disch := omega) only [go_sem, *]
  · simp (config := { maxSteps := 2000000 }) (disch := omega) only [go_sem, *]
  rintro v h2 n2 ⟨⟨⟨L, b, hL, rfl, hb⟩, k2⟩, hn2, w2⟩
  have hbN := w2.lt hb
  clear k2 hn2 hW
  repeat' first | simp (config := { maxSteps := 2000000 }) (disch := omega) only [go_sem, *, Try.results3] | (first | apply EvG_ndec | apply EvC_ndec | apply EvG_dec | apply EvC_dec | apply EvC_nbool | apply EvC_bool | apply EvG_nbool | apply EvG_bool) <;> intro _ | (first | apply EvH_ndec | apply EvH_dec | apply EvH_nbool | apply EvH_bool) <;> intro _ | refine EvK_draw (id := 9) (L := [(0, 1), (0, 4), (1, 4), (2, 4), (3, 4), (0, 5), (1, 5), (2, 5), (3, 5), (4, 5), (0, 6), (1, 6), (2, 6), (3, 6), (0, 7), (1, 7), (2, 7), (3, 7), (11, 12), (11, 15), (12, 15), (13, 15), (14, 15), (11, 16), (12, 16), (13, 16), (14, 16), (15, 16), (11, 17), (12, 17), (13, 17), (14, 17), (11, 18), (12, 18), (13, 18), (14, 18), (23, 24), (23, 27), (24, 27), (25, 27), (26, 27), (23, 28), (24, 28), (25, 28), (26, 28), (27, 28), (23, 29), (24, 29), (25, 29), (26, 29), (23, 30), (24, 30), (25, 30), (26, 30), (35, 36), (35, 39), (36, 39), (37, 39), (38, 39), (35, 40), (36, 40), (37, 40), (38, 40), (39, 40), (35, 41), (36, 41), (37, 41), (38, 41), (35, 42), (36, 42), (37, 42), (38, 42), (47, 48), (47, 51), (48, 51), (49, 51), (50, 51), (47, 52), (48, 52), (49, 52), (50, 52), (51, 52), (47, 53), (48, 53), (49, 53), (50, 53), (47, 54), (48, 54), (49, 54), (50, 54), (47, 55), (48, 55), (49, 55), (50, 55), (51, 55), (52, 55), (53, 55), (54, 55), (47, 56), (48, 56), (49, 56), (50, 56), (51, 56), (52, 56), (53, 56), (54, 56), (55, 56), (47, 57), (48, 57), (49, 57), (50, 57), (51, 57), (52, 57), (53, 57), (54, 57), (47, 58), (48, 58), (49, 58), (50, 58), (51, 58), (52, 58), (53, 58), (54, 58)]) (by kernel_rfl) (by kernel_rfl) ?_ | refine EvK_draw (id := 14) (L := [(0, 1), (0, 4), (1, 4), (2, 4), (3, 4), (0, 5), (1, 5), (2, 5), (3, 5), (4, 5), (9, 10), (9, 13), (10, 13), (11, 13), (12, 13), (9, 14), (10, 14), (11, 14), (12, 14), (13, 14), (19, 20), (19, 23), (20, 23), (21, 23), (22, 23), (19, 24), (20, 24), (21, 24), (22, 24), (19, 25), (20, 25), (21, 25), (22, 25), (23, 25), (24, 25)]) (by kernel_rfl) (by kernel_rfl) ?_
  generalize hh3 : PT.set h2 n2 _ = h3
  obtain ⟨S, hS⟩ : ∃ S : List Value, S = [.int .u64 0, .int .u64 1, .int .u64 8, .int .u64 35, .int .u64 9223372036854775808, .int .u64 18446744073709551615] := ⟨_, rfl⟩
  have hso : setsOk S := by rw [hS]; exact sets_ok
  have e2 : h3.get n2 = some (.cells (PT.ofList .leaf 0 S) false) := by rw [← hh3, hS]; exact heap_same
  have k3 : Kept h2 h3 := by rw [← hh3]; exact w2.kept (Nat.le_refl _)
  have w3 : WfH h3 (n2 + 1) := by rw [← hh3]; exact w2.set (by omega) (by omega)
  have hb3 := k3 _ _ hb
  clear hh3 hS k3 hb w2
  obtain ⟨hSl, hSk⟩ := hso
  have hpl : (engRs L).length = 360 := by rw [engRs_length, hL]
  refine ind_loop (fun t m h' n' => ∃ i : Nat, i ≤ 120 ∧ t = 120 - i ∧ m.n = 124 ∧ m.dfs = [] ∧ m.get 1 = .slice (some ⟨b, 0, none⟩) 120 (capInf + 3) ∧ m.get 2 = .slice (some ⟨n2, 0, none⟩) 6 6 ∧ m.get 3 = .int .i64 i ∧ WfH h' n' ∧ n2 + 1 ≤ n' ∧ Kept h3 h') 120 ?_ ?_
  · refine ⟨0, by omega, by omega, ?_⟩
    simp (config := { maxSteps := 2000000 }) (disch := omega) only [go_sem, *]
    exact ⟨Nat.le_refl _, Kept.refl _⟩
  · rintro t m h4 n4 ih ⟨i, hi, rfl, m1, m2, m3, m4, m5, q1, q2, q3⟩
    rcases Nat.lt_or_ge i 120 with hlt | hge
    · have e7 : (i : Int) < ((120 : Nat) : Int) := by omega
      have hro := engRs_row (E := L) (i := i) (by omega)
      obtain ⟨⟨kd, sl, k⟩, hx⟩ : ∃ x, L[i]'(by omega) = x := ⟨_, rfl⟩
      rw [hx] at hro
      simp only [engR] at hro
      clear hx
      repeat' first | simp (config := { maxSteps := 2000000 }) (disch := omega) only [go_sem, *, Try.results3] | (first | apply EvG_ndec | apply EvC_ndec | apply EvG_dec | apply EvC_dec | apply EvC_nbool | apply EvC_bool | apply EvG_nbool | apply EvG_bool) <;> intro _ | (first | apply EvH_ndec | apply EvH_dec | apply EvH_nbool | apply EvH_bool) <;> intro _ | refine EvK_draw (id := 9) (L := [(0, 1), (0, 4), (1, 4), (2, 4), (3, 4), (0, 5), (1, 5), (2, 5), (3, 5), (4, 5), (0, 6), (1, 6), (2, 6), (3, 6), (0, 7), (1, 7), (2, 7), (3, 7), (11, 12), (11, 15), (12, 15), (13, 15), (14, 15), (11, 16), (12, 16), (13, 16), (14, 16), (15, 16), (11, 17), (12, 17), (13, 17), (14, 17), (11, 18), (12, 18), (13, 18), (14, 18), (23, 24), (23, 27), (24, 27), (25, 27), (26, 27), (23, 28), (24, 28), (25, 28), (26, 28), (27, 28), (23, 29), (24, 29), (25, 29), (26, 29), (23, 30), (24, 30), (25, 30), (26, 30), (35, 36), (35, 39), (36, 39), (37, 39), (38, 39), (35, 40), (36, 40), (37, 40), (38, 40), (39, 40), (35, 41), (36, 41), (37, 41), (38, 41), (35, 42), (36, 42), (37, 42), (38, 42), (47, 48), (47, 51), (48, 51), (49, 51), (50, 51), (47, 52), (48, 52), (49, 52), (50, 52), (51, 52), (47, 53), (48, 53), (49, 53), (50, 53), (47, 54), (48, 54), (49, 54), (50, 54), (47, 55), (48, 55), (49, 55), (50, 55), (51, 55), (52, 55), (53, 55), (54, 55), (47, 56), (48, 56), (49, 56), (50, 56), (51, 56), (52, 56), (53, 56), (54, 56), (55, 56), (47, 57), (48, 57), (49, 57), (50, 57), (51, 57), (52, 57), (53, 57), (54, 57), (47, 58), (48, 58), (49, 58), (50, 58), (51, 58), (52, 58), (53, 58), (54, 58)]) (by kernel_rfl) (by kernel_rfl) ?_ | refine EvK_draw (id := 14) (L := [(0, 1), (0, 4), (1, 4), (2, 4), (3, 4), (0, 5), (1, 5), (2, 5), (3, 5), (4, 5), (9, 10), (9, 13), (10, 13), (11, 13), (12, 13), (9, 14), (10, 14), (11, 14), (12, 14), (13, 14), (19, 20), (19, 23), (20, 23), (21, 23), (22, 23), (19, 24), (20, 24), (21, 24), (22, 24), (19, 25), (20, 25), (21, 25), (22, 25), (23, 25), (24, 25)]) (by kernel_rfl) (by kernel_rfl) ?_
      refine ind_loop (fun t m h' n' => ∃ j : Nat, j ≤ 6 ∧ t = 6 - j ∧ m.n = 124 ∧ m.dfs = [] ∧ m.get 1 = .slice (some ⟨b, 0, none⟩) 120 (capInf + 3) ∧ m.get 2 = .slice (some ⟨n2, 0, none⟩) 6 6 ∧ m.get 3 = .int .i64 i ∧ m.get 4 = .int .i64 j ∧ WfH h' n' ∧ n2 + 1 ≤ n' ∧ Kept h3 h') 6 ?_ ?_
      · refine ⟨0, by omega, by omega, ?_⟩
        simp (config := { maxSteps := 2000000 }) (disch := omega) only [go_sem, *]
      · clear q1 q2 q3 m1 m2 m3 m4 m5
        rintro t m h5 n5 ih2 ⟨j, hj, rfl, m1, m2, m3, m4, m5, m6, q1, q2, q3⟩
        rcases Nat.lt_or_ge j 6 with hlt6 | hge6
        · have e8 : (j : Int) < ((6 : Nat) : Int) := by omega
          obtain ⟨s, hs, hs0, hs1⟩ := hSk j hlt6
          have g1 := q3 _ _ hb3
          have g2 := q3 _ _ e2
          have g3 := q1.lt g1
          have g4 := q1.lt g2
          have hcj : ((j + 1 : Nat) : Int) = (j : Int) + 1 := by omega
          clear hSk hb3 e2 ih
          repeat' first | simp (config := { maxSteps := 2000000 }) (disch := omega) only [go_sem, *, Try.results3, numS_eq, fresh_no] | (first | apply EvG_ndec | apply EvC_ndec | apply EvG_dec | apply EvC_dec | apply EvC_nbool | apply EvC_bool | apply EvG_nbool | apply EvG_bool) <;> intro _ | (first | apply EvH_ndec | apply EvH_dec | apply EvH_nbool | apply EvH_bool) <;> intro _ | refine EvK_draw (id := 9) (L := [(0, 1), (0, 4), (1, 4), (2, 4), (3, 4), (0, 5), (1, 5), (2, 5), (3, 5), (4, 5), (0, 6), (1, 6), (2, 6), (3, 6), (0, 7), (1, 7), (2, 7), (3, 7), (11, 12), (11, 15), (12, 15), (13, 15), (14, 15), (11, 16), (12, 16), (13, 16), (14, 16), (15, 16), (11, 17), (12, 17), (13, 17), (14, 17), (11, 18), (12, 18), (13, 18), (14, 18), (23, 24), (23, 27), (24, 27), (25, 27), (26, 27), (23, 28), (24, 28), (25, 28), (26, 28), (27, 28), (23, 29), (24, 29), (25, 29), (26, 29), (23, 30), (24, 30), (25, 30), (26, 30), (35, 36), (35, 39), (36, 39), (37, 39), (38, 39), (35, 40), (36, 40), (37, 40), (38, 40), (39, 40), (35, 41), (36, 41), (37, 41), (38, 41), (35, 42), (36, 42), (37, 42), (38, 42), (47, 48), (47, 51), (48, 51), (49, 51), (50, 51), (47, 52), (48, 52), (49, 52), (50, 52), (51, 52), (47, 53), (48, 53), (49, 53), (50, 53), (47, 54), (48, 54), (49, 54), (50, 54), (47, 55), (48, 55), (49, 55), (50, 55), (51, 55), (52, 55), (53, 55), (54, 55), (47, 56), (48, 56), (49, 56), (50, 56), (51, 56), (52, 56), (53, 56), (54, 56), (55, 56), (47, 57), (48, 57), (49, 57), (50, 57), (51, 57), (52, 57), (53, 57), (54, 57), (47, 58), (48, 58), (49, 58), (50, 58), (51, 58), (52, 58), (53, 58), (54, 58)]) (by kernel_rfl) (by kernel_rfl) ?_ | refine EvK_draw (id := 14) (L := [(0, 1), (0, 4), (1, 4), (2, 4), (3, 4), (0, 5), (1, 5), (2, 5), (3, 5), (4, 5), (9, 10), (9, 13), (10, 13), (11, 13), (12, 13), (9, 14), (10, 14), (11, 14), (12, 14), (13, 14), (19, 20), (19, 23), (20, 23), (21, 23), (22, 23), (19, 24), (20, 24), (21, 24), (22, 24), (19, 25), (20, 25), (21, 25), (22, 25), (23, 25), (24, 25)]) (by kernel_rfl) (by kernel_rfl) ?_
          refine ih2 (6 - (j + 1)) _ _ _ (by omega) ⟨j + 1, by omega, rfl, ?_⟩
          rw [hcj]
          clear ih2
          simp (config := { maxSteps := 2000000 }) (disch := omega) only [go_sem, *]
        · have e8 : ¬ (j : Int) < ((6 : Nat) : Int) := by omega
          clear ih2
          repeat' first | simp (config := { maxSteps := 2000000 }) (disch := omega) only [go_sem, *, Try.results3] | (first | apply EvG_ndec | apply EvC_ndec | apply EvG_dec | apply EvC_dec | apply EvC_nbool | apply EvC_bool | apply EvG_nbool | apply EvG_bool) <;> intro _ | (first | apply EvH_ndec | apply EvH_dec | apply EvH_nbool | apply EvH_bool) <;> intro _ | refine EvK_draw (id := 9) (L := [(0, 1), (0, 4), (1, 4), (2, 4), (3, 4), (0, 5), (1, 5), (2, 5), (3, 5), (4, 5), (0, 6), (1, 6), (2, 6), (3, 6), (0, 7), (1, 7), (2, 7), (3, 7), (11, 12), (11, 15), (12, 15), (13, 15), (14, 15), (11, 16), (12, 16), (13, 16), (14, 16), (15, 16), (11, 17), (12, 17), (13, 17), (14, 17), (11, 18), (12, 18), (13, 18), (14, 18), (23, 24), (23, 27), (24, 27), (25, 27), (26, 27), (23, 28), (24, 28), (25, 28), (26, 28), (27, 28), (23, 29), (24, 29), (25, 29), (26, 29), (23, 30), (24, 30), (25, 30), (26, 30), (35, 36), (35, 39), (36, 39), (37, 39), (38, 39), (35, 40), (36, 40), (37, 40), (38, 40), (39, 40), (35, 41), (36, 41), (37, 41), (38, 41), (35, 42), (36, 42), (37, 42), (38, 42), (47, 48), (47, 51), (48, 51), (49, 51), (50, 51), (47, 52), (48, 52), (49, 52), (50, 52), (51, 52), (47, 53), (48, 53), (49, 53), (50, 53), (47, 54), (48, 54), (49, 54), (50, 54), (47, 55), (48, 55), (49, 55), (50, 55), (51, 55), (52, 55), (53, 55), (54, 55), (47, 56), (48, 56), (49, 56), (50, 56), (51, 56), (52, 56), (53, 56), (54, 56), (55, 56), (47, 57), (48, 57), (49, 57), (50, 57), (51, 57), (52, 57), (53, 57), (54, 57), (47, 58), (48, 58), (49, 58), (50, 58), (51, 58), (52, 58), (53, 58), (54, 58)]) (by kernel_rfl) (by kernel_rfl) ?_ | refine EvK_draw (id := 14) (L := [(0, 1), (0, 4), (1, 4), (2, 4), (3, 4), (0, 5), (1, 5), (2, 5), (3, 5), (4, 5), (9, 10), (9, 13), (10, 13), (11, 13), (12, 13), (9, 14), (10, 14), (11, 14), (12, 14), (13, 14), (19, 20), (19, 23), (20, 23), (21, 23), (22, 23), (19, 24), (20, 24), (21, 24), (22, 24), (19, 25), (20, 25), (21, 25), (22, 25), (23, 25), (24, 25)]) (by kernel_rfl) (by kernel_rfl) ?_
          refine ind_loop (fun t m h' n' => ∃ j : Int, -1 ≤ j ∧ j ≤ 9 ∧ t = (9 - j).toNat ∧ m.n = 124 ∧ m.dfs = [] ∧ m.get 1 = .slice (some ⟨b, 0, none⟩) 120 (capInf + 3) ∧ m.get 2 = .slice (some ⟨n2, 0, none⟩) 6 6 ∧ m.get 3 = .int .i64 i ∧ m.get 5 = .int .i64 j ∧ WfH h' n' ∧ n2 + 1 ≤ n' ∧ Kept h3 h') 10 ?_ ?_
          · refine ⟨-1, by omega, by omega, by omega, ?_⟩
            simp (config := { maxSteps := 2000000 }) (disch := omega) only [go_sem, *]
          · clear q1 q2 q3 m1 m2 m3 m4 m5 m6 e8 hge6 hj
            rintro t m h6 n6 ih2 ⟨c, hc0, hc9, rfl, m1, m2, m3, m4, m5, m6, q1, q2, q3⟩
            by_cases hc : c < 9
            · have g1 := q3 _ _ hb3
              have g3 := q1.lt g1
              clear hSk hb3 ih
              repeat' first | simp (config := { maxSteps := 2000000 }) (disch := omega) only [go_sem, *, Try.results3, exS, matS, rdArg_some, slK_cap, fresh_no] | (first | apply EvG_ndec | apply EvC_ndec | apply EvG_dec | apply EvC_dec | apply EvC_nbool | apply EvC_bool | apply EvG_nbool | apply EvG_bool) <;> intro _ | (first | apply EvH_ndec | apply EvH_dec | apply EvH_nbool | apply EvH_bool) <;> intro _ | refine EvK_draw (id := 9) (L := [(0, 1), (0, 4), (1, 4), (2, 4), (3, 4), (0, 5), (1, 5), (2, 5), (3, 5), (4, 5), (0, 6), (1, 6), (2, 6), (3, 6), (0, 7), (1, 7), (2, 7), (3, 7), (11, 12), (11, 15), (12, 15), (13, 15), (14, 15), (11, 16), (12, 16), (13, 16), (14, 16), (15, 16), (11, 17), (12, 17), (13, 17), (14, 17), (11, 18), (12, 18), (13, 18), (14, 18), (23, 24), (23, 27), (24, 27), (25, 27), (26, 27), (23, 28), (24, 28), (25, 28), (26, 28), (27, 28), (23, 29), (24, 29), (25, 29), (26, 29), (23, 30), (24, 30), (25, 30), (26, 30), (35, 36), (35, 39), (36, 39), (37, 39), (38, 39), (35, 40), (36, 40), (37, 40), (38, 40), (39, 40), (35, 41), (36, 41), (37, 41), (38, 41), (35, 42), (36, 42), (37, 42), (38, 42), (47, 48), (47, 51), (48, 51), (49, 51), (50, 51), (47, 52), (48, 52), (49, 52), (50, 52), (51, 52), (47, 53), (48, 53), (49, 53), (50, 53), (47, 54), (48, 54), (49, 54), (50, 54), (47, 55), (48, 55), (49, 55), (50, 55), (51, 55), (52, 55), (53, 55), (54, 55), (47, 56), (48, 56), (49, 56), (50, 56), (51, 56), (52, 56), (53, 56), (54, 56), (55, 56), (47, 57), (48, 57), (49, 57), (50, 57), (51, 57), (52, 57), (53, 57), (54, 57), (47, 58), (48, 58), (49, 58), (50, 58), (51, 58), (52, 58), (53, 58), (54, 58)]) (by kernel_rfl) (by kernel_rfl) ?_ | refine EvK_draw (id := 14) (L := [(0, 1), (0, 4), (1, 4), (2, 4), (3, 4), (0, 5), (1, 5), (2, 5), (3, 5), (4, 5), (9, 10), (9, 13), (10, 13), (11, 13), (12, 13), (9, 14), (10, 14), (11, 14), (12, 14), (13, 14), (19, 20), (19, 23), (20, 23), (21, 23), (22, 23), (19, 24), (20, 24), (21, 24), (22, 24), (19, 25), (20, 25), (21, 25), (22, 25), (23, 25), (24, 25)]) (by kernel_rfl) (by kernel_rfl) ?_
              refine ih2 (9 - (c + 1)).toNat _ _ _ (by omega) ⟨c + 1, by omega, by omega, rfl, ?_⟩
              clear ih2
              simp (config := { maxSteps := 2000000 }) (disch := omega) only [go_sem, *]
              exact ⟨WfH.set' (by omega) (WfH.set' (by omega) (q1.set (by omega) (by omega))), by omega, Kept.set' w3 (by omega) (Kept.set' w3 (by omega) (Kept.set' w3 (by omega) q3))⟩
            · have hcn : ¬ c < 9 := hc
              clear ih2
              have hci : ((i + 1 : Nat) : Int) = (i : Int) + 1 := by omega
              repeat' first | simp (config := { maxSteps := 2000000 }) (disch := omega) only [go_sem, *, Try.results3] | (first | apply EvG_ndec | apply EvC_ndec | apply EvG_dec | apply EvC_dec | apply EvC_nbool | apply EvC_bool | apply EvG_nbool | apply EvG_bool) <;> intro _ | (first | apply EvH_ndec | apply EvH_dec | apply EvH_nbool | apply EvH_bool) <;> intro _ | refine EvK_draw (id := 9) (L := [(0, 1), (0, 4), (1, 4), (2, 4), (3, 4), (0, 5), (1, 5), (2, 5), (3, 5), (4, 5), (0, 6), (1, 6), (2, 6), (3, 6), (0, 7), (1, 7), (2, 7), (3, 7), (11, 12), (11, 15), (12, 15), (13, 15), (14, 15), (11, 16), (12, 16), (13, 16), (14, 16), (15, 16), (11, 17), (12, 17), (13, 17), (14, 17), (11, 18), (12, 18), (13, 18), (14, 18), (23, 24), (23, 27), (24, 27), (25, 27), (26, 27), (23, 28), (24, 28), (25, 28), (26, 28), (27, 28), (23, 29), (24, 29), (25, 29), (26, 29), (23, 30), (24, 30), (25, 30), (26, 30), (35, 36), (35, 39), (36, 39), (37, 39), (38, 39), (35, 40), (36, 40), (37, 40), (38, 40), (39, 40), (35, 41), (36, 41), (37, 41), (38, 41), (35, 42), (36, 42), (37, 42), (38, 42), (47, 48), (47, 51), (48, 51), (49, 51), (50, 51), (47, 52), (48, 52), (49, 52), (50, 52), (51, 52), (47, 53), (48, 53), (49, 53), (50, 53), (47, 54), (48, 54), (49, 54), (50, 54), (47, 55), (48, 55), (49, 55), (50, 55), (51, 55), (52, 55), (53, 55), (54, 55), (47, 56), (48, 56), (49, 56), (50, 56), (51, 56), (52, 56), (53, 56), (54, 56), (55, 56), (47, 57), (48, 57), (49, 57), (50, 57), (51, 57), (52, 57), (53, 57), (54, 57), (47, 58), (48, 58), (49, 58), (50, 58), (51, 58), (52, 58), (53, 58), (54, 58)]) (by kernel_rfl) (by kernel_rfl) ?_ | refine EvK_draw (id := 14) (L := [(0, 1), (0, 4), (1, 4), (2, 4), (3, 4), (0, 5), (1, 5), (2, 5), (3, 5), (4, 5), (9, 10), (9, 13), (10, 13), (11, 13), (12, 13), (9, 14), (10, 14), (11, 14), (12, 14), (13, 14), (19, 20), (19, 23), (20, 23), (21, 23), (22, 23), (19, 24), (20, 24), (21, 24), (22, 24), (19, 25), (20, 25), (21, 25), (22, 25), (23, 25), (24, 25)]) (by kernel_rfl) (by kernel_rfl) ?_
              refine ih (120 - (i + 1)) _ _ _ (by omega) ⟨i + 1, by omega, rfl, ?_⟩
              rw [hci]
              clear ih
              simp (config := { maxSteps := 2000000 }) (disch := omega) only [go_sem, *]
    · have e7 : ¬ (i : Int) < ((120 : Nat) : Int) := by omega
      have hro := engRs_row (E := L) (i := 0) (by omega)
      obtain ⟨⟨kd, sl, k⟩, hx⟩ : ∃ x, L[0]'(by omega) = x := ⟨_, rfl⟩
      rw [hx] at hro
      simp only [engR, Nat.zero_mul, List.drop_zero] at hro
      have g1 := q3 _ _ hb3
      clear hx ih hSk hb3
      repeat' first | simp (config := { maxSteps := 2000000 }) (disch := omega) only [go_sem, *, Try.results3, matS, rdArg_nil, trueS] | (first | apply EvG_ndec | apply EvC_ndec | apply EvG_dec | apply EvC_dec | apply EvC_nbool | apply EvC_bool | apply EvG_nbool | apply EvG_bool) <;> intro _ | (first | apply EvH_ndec | apply EvH_dec | apply EvH_nbool | apply EvH_bool) <;> intro _ | refine EvK_draw (id := 9) (L := [(0, 1), (0, 4), (1, 4), (2, 4), (3, 4), (0, 5), (1, 5), (2, 5), (3, 5), (4, 5), (0, 6), (1, 6), (2, 6), (3, 6), (0, 7), (1, 7), (2, 7), (3, 7), (11, 12), (11, 15), (12, 15), (13, 15), (14, 15), (11, 16), (12, 16), (13, 16), (14, 16), (15, 16), (11, 17), (12, 17), (13, 17), (14, 17), (11, 18), (12, 18), (13, 18), (14, 18), (23, 24), (23, 27), (24, 27), (25, 27), (26, 27), (23, 28), (24, 28), (25, 28), (26, 28), (27, 28), (23, 29), (24, 29), (25, 29), (26, 29), (23, 30), (24, 30), (25, 30), (26, 30), (35, 36), (35, 39), (36, 39), (37, 39), (38, 39), (35, 40), (36, 40), (37, 40), (38, 40), (39, 40), (35, 41), (36, 41), (37, 41), (38, 41), (35, 42), (36, 42), (37, 42), (38, 42), (47, 48), (47, 51), (48, 51), (49, 51), (50, 51), (47, 52), (48, 52), (49, 52), (50, 52), (51, 52), (47, 53), (48, 53), (49, 53), (50, 53), (47, 54), (48, 54), (49, 54), (50, 54), (47, 55), (48, 55), (49, 55), (50, 55), (51, 55), (52, 55), (53, 55), (54, 55), (47, 56), (48, 56), (49, 56), (50, 56), (51, 56), (52, 56), (53, 56), (54, 56), (55, 56), (47, 57), (48, 57), (49, 57), (50, 57), (51, 57), (52, 57), (53, 57), (54, 57), (47, 58), (48, 58), (49, 58), (50, 58), (51, 58), (52, 58), (53, 58), (54, 58)]) (by kernel_rfl) (by kernel_rfl) ?_ | refine EvK_draw (id := 14) (L := [(0, 1), (0, 4), (1, 4), (2, 4), (3, 4), (0, 5), (1, 5), (2, 5), (3, 5), (4, 5), (9, 10), (9, 13), (10, 13), (11, 13), (12, 13), (9, 14), (10, 14), (11, 14), (12, 14), (13, 14), (19, 20), (19, 23), (20, 23), (21, 23), (22, 23), (19, 24), (20, 24), (21, 24), (22, 24), (19, 25), (20, 25), (21, 25), (22, 25), (23, 25), (24, 25)]) (by kernel_rfl) (by kernel_rfl) ?_
end Go.Proofs.Ythhohpbghfbkbaa
