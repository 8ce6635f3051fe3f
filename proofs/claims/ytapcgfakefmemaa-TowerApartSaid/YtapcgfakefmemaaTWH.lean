/-
  A part of the proof: contracts of inner functions.
-/
import Derived.Test.YtapcgfakefmemaaTWF
import Derived.Test.YtapcgfakefmemaaT9Q1
import Derived.Test.YtapcgfakefmemaaT9ZD
set_option linter.unusedVariables false
set_option linter.unusedSimpArgs false
namespace Go.Proofs.Ytapcgfakefmemaa
open Go.Am
def mixW (W : List Int) (i : Nat) : List Value := (W.take i).map (.int .u64) ++ List.replicate (W.length - i) (.int .u64 0)
theorem mixW_length (W : List Int) (i : Nat) (hi : i ≤ W.length) : (mixW W i).length = W.length := by
  unfold mixW
  rw [List.length_append, List.length_map, List.length_take, List.length_replicate]
  omega
theorem mixW_zero (W : List Int) : mixW W 0 = rep [.int .u64 0] W.length := by
  rw [rep_one]; rfl
theorem mixW_end (W : List Int) : mixW W W.length = W.map (.int .u64) := by
  unfold mixW
  rw [List.take_length, Nat.sub_self, List.replicate_zero, List.append_nil]
theorem mixW_get {W : List Int} {i : Nat} (hi : i < W.length) : (mixW W i)[i]? = some (.int .u64 0) := by
  unfold mixW
  rw [List.getElem?_append_right (by rw [List.length_map, List.length_take]; omega), List.length_map, List.length_take, Nat.min_eq_left (by omega), Nat.sub_self]
  rw [List.getElem?_replicate, if_pos (by omega)]
theorem mixW_set {W : List Int} {i : Nat} (hi : i < W.length) : (mixW W i).set i (.int .u64 W[i]) = mixW W (i + 1) := by
  unfold mixW
  have e : ((W.take i).map (Value.int .u64)).length = i := by rw [List.length_map, List.length_take]; omega
  rw [List.set_append_right _ _ (by rw [e]; exact Nat.le_refl _), e, Nat.sub_self, List.take_succ_eq_append_getElem hi, List.map_append, List.append_assoc]
  have e2 : W.length - i = (W.length - (i + 1)) + 1 := by omega
  rw [e2, List.replicate_succ]
  rfl
theorem mapW_get {W : List Int} {i : Nat} (hi : i < W.length) : (W.map (Value.int .u64))[i]? = some (.int .u64 W[i]) := by
  rw [List.getElem?_map, List.getElem?_eq_getElem hi]; rfl
theorem sizeB {O : Over} (k : Int) (h : PT ABlk) (n : Nat) (h1 : 0 < k) (h2 : k ≤ 65536) : EvB Try.prog O 65 [.int .i64 k] h n fun r h' n' => r = .int .i64 0 ∧ h' = h ∧ n' = n := by
  have h3 : ¬ k = 0 := by omega
  have h4 : ¬ (65536 : Int) < k := by omega
  clear h1 h2
  refine EvB_run (N := 9) Try.func65 rfl rfl fun z hP hO hro hN hQ => ?_
  repeat' first | simp (maxSteps := 2000000) (disch := omega) only [go_sem, *, Try.results65] | (first | apply xg1 | apply xc1 | apply xg2 | apply xc2 | apply xc3 | apply xc4 | apply xg3 | apply xg4) <;> intro _
set_option maxHeartbeats 2000000 in
theorem memNewB {O : Over} (o65 : O 65 = fun _ => none) (o66 : O 66 = fun _ => none) (b cap : Nat) (W : List Int) (ro : Bool) (h : PT ABlk) (N : Nat) (hW : WfH h N) (hb : h.get b = some (.cells (PT.ofList .leaf 0 (W.map (.int .u64))) ro)) (h1 : 0 < W.length) (h2 : W.length ≤ 65536) :
    EvB Try.prog O 30 [.slice (some ⟨b, 0, none⟩) W.length cap] h N fun v h' n' => v = .tuple ⟨[.pointer (some ⟨N + 1, 0, none⟩), .int .i64 0]⟩ ∧ n' = N + 2 ∧ h'.get (N + 1) = some (.cells (PT.ofList .leaf 0 [.slice (some ⟨N, 0, none⟩) W.length W.length, .slice none 0 0]) false) ∧
      h'.get N = some (.cells (PT.ofList .leaf 0 (W.map (.int .u64))) false) ∧ Kept h h' := by
  have hbN := hW.lt hb
  have hm0 := mixW_zero W
  have hble : W.length.ble 1048576 = true := Nat.ble_eq_true_of_le (by omega)
  refine EvB_run (N := 36) Try.func30 rfl rfl fun z hP hO hro hN hQ => ?_
  repeat' first | simp (maxSteps := 2000000) (disch := omega) only [go_sem, *, Try.results30] | (first | apply xg1 | apply xc1 | apply xg2 | apply xc2 | apply xc3 | apply xc4 | apply xg3 | apply xg4) <;> intro _
  refine EvQ_call ?_ ?_ (by rw [hP, hO]; exact sizeB _ _ _ (by omega) (by omega)) ?_
  · simp (maxSteps := 2000000) (disch := omega) only [go_sem, *]
  · simp (maxSteps := 2000000) (disch := omega) only [go_sem, *]
  rintro r h3 n3 ⟨rfl, hh, hn⟩
  subst hh hn
  repeat' first | simp (maxSteps := 2000000) (disch := omega) only [go_sem, *, Try.results30] | (first | apply xg1 | apply xc1 | apply xg2 | apply xc2 | apply xc3 | apply xc4 | apply xg3 | apply xg4) <;> intro _
  refine ind_loop (fun t m h' n' => ∃ i : Nat, i ≤ W.length ∧ t = W.length - i ∧ m.n = 36 ∧ m.dfs = [] ∧ m.get 5 = .pointer (some ⟨n3 + 1, 0, none⟩) ∧ m.get 19 = .slice (some ⟨b, 0, none⟩) W.length cap ∧ m.get 20 = .int .i64 W.length ∧ m.get 21 = .int .i64 i ∧ n' = n3 + 2 ∧
    h'.get (n3 + 1) = some (.cells (PT.ofList .leaf 0 [.slice (some ⟨n3, 0, none⟩) W.length W.length, .slice none 0 0]) false) ∧ h'.get n3 = some (.cells (PT.ofList .leaf 0 (mixW W i)) false) ∧ Kept h3 h') W.length ?_ ?_
  · refine ⟨0, by omega, by omega, ?_⟩
    rw [hm0]
    simp (maxSteps := 2000000) (disch := omega) only [go_sem, *]
    exact Kept.set' hW (by omega) (hW.kept (Nat.le_refl _))
  · clear hm0
    rintro t m h' n' ih ⟨i, hi, rfl, m1, m2, m3, m4, m5, m6, rfl, q1, q2, q3⟩
    rcases Nat.lt_or_ge i W.length with hlt | hge
    · have e7 : (i : Int) < W.length := by omega
      have hb' := q3 _ _ hb
      have hg := mapW_get hlt
      have hmg := mixW_get hlt
      have hms := mixW_set hlt
      have hml := mixW_length W i (by omega)
      have hci : ((i + 1 : Nat) : Int) = (i : Int) + 1 := by omega
      generalize W[i] = x at *
      clear hb
      repeat' first | simp (maxSteps := 2000000) (disch := omega) only [go_sem, *, Try.results30] | (first | apply xg1 | apply xc1 | apply xg2 | apply xc2 | apply xc3 | apply xc4 | apply xg3 | apply xg4) <;> intro _
      refine EvQ_call ?_ ?_ (by rw [hP, hO]; exact storeAB n3 i (mixW W i) 0 x _ _ q2 hmg) ?_
      · simp (maxSteps := 2000000) (disch := omega) only [go_sem, *]
      · simp (maxSteps := 2000000) (disch := omega) only [go_sem, *]
      rintro r h4 n4 ⟨rfl, hh4, hn4⟩
      rw [hms] at hh4
      have g1 : h4.get (n3 + 1) = some (.cells (PT.ofList .leaf 0 [.slice (some ⟨n3, 0, none⟩) W.length W.length, .slice none 0 0]) false) := by rw [hh4, heap_ne (by omega)]; exact q1
      have g2 : h4.get n3 = some (.cells (PT.ofList .leaf 0 (mixW W (i + 1))) false) := by rw [hh4]; exact heap_same
      have g3 : Kept h3 h4 := by rw [hh4]; exact Kept.set' hW (by omega) q3
      subst hn4
      clear hh4 q1 q2 q3 hmg hms hml hg
      repeat' first | simp (maxSteps := 2000000) (disch := omega) only [go_sem, *, Try.results30] | (first | apply xg1 | apply xc1 | apply xg2 | apply xc2 | apply xc3 | apply xc4 | apply xg3 | apply xg4) <;> intro _
      refine ih (W.length - (i + 1)) _ _ _ (by omega) ⟨i + 1, by omega, rfl, ?_⟩
      rw [hci]
      clear ih
      simp (maxSteps := 2000000) (disch := omega) only [go_sem, *]
    · have e7 : ¬ (i : Int) < W.length := by omega
      obtain rfl : i = W.length := by omega
      rw [mixW_end] at q2
      clear ih
      repeat' first | simp (maxSteps := 2000000) (disch := omega) only [go_sem, *, Try.results30] | (first | apply xg1 | apply xc1 | apply xg2 | apply xc2 | apply xc3 | apply xc4 | apply xg3 | apply xg4) <;> intro _
set_option maxHeartbeats 2000000 in
theorem wordsB {O : Over} (o54 : O 54 = fun _ => none) (mb wb cap : Nat) (lg : Value) (W : List Int) (ro ro2 : Bool) (h : PT ABlk) (N : Nat) (hW : WfH h N) (hm : h.get mb = some (.cells (PT.ofList .leaf 0 [.slice (some ⟨wb, 0, none⟩) W.length cap, lg]) ro)) (hb : h.get wb = some (.cells (PT.ofList .leaf 0 (W.map (.int .u64))) ro2)) (h2 : W.length ≤ 65536) :
    EvB Try.prog O 20 [.pointer (some ⟨mb, 0, none⟩)] h N fun v h' n' => v = .slice (some ⟨N, 0, none⟩) W.length W.length ∧ n' = N + 1 ∧ h'.get N = some (.cells (PT.ofList .leaf 0 (W.map (.int .u64))) false) ∧ Kept h h' := by
  have hbN := hW.lt hb
  have hmN := hW.lt hm
  have hm0 := mixW_zero W
  have hble : W.length.ble 1048576 = true := Nat.ble_eq_true_of_le (by omega)
  refine EvB_run (N := 33) Try.func20 rfl rfl fun z hP hO hro hN hQ => ?_
  repeat' first | simp (maxSteps := 2000000) (disch := omega) only [go_sem, *, Try.results20] | (first | apply xg1 | apply xc1 | apply xg2 | apply xc2 | apply xc3 | apply xc4 | apply xg3 | apply xg4) <;> intro _
  refine ind_loop (fun t m h' n' => ∃ i : Nat, i ≤ W.length ∧ t = W.length - i ∧ m.n = 33 ∧ m.dfs = [] ∧ m.get 0 = .pointer (some ⟨mb, 0, none⟩) ∧ m.get 3 = .slice (some ⟨N, 0, none⟩) W.length W.length ∧ m.get 17 = .int .i64 W.length ∧ m.get 18 = .int .i64 i ∧ n' = N + 1 ∧
    h'.get N = some (.cells (PT.ofList .leaf 0 (mixW W i)) false) ∧ Kept h h') W.length ?_ ?_
  · refine ⟨0, by omega, by omega, ?_⟩
    rw [hm0]
    simp (maxSteps := 2000000) (disch := omega) only [go_sem, *]
    exact hW.kept (Nat.le_refl _)
  · clear hm0
    rintro t m h' n' ih ⟨i, hi, rfl, m1, m2, m3, m4, m5, m6, rfl, q2, q3⟩
    rcases Nat.lt_or_ge i W.length with hlt | hge
    · have e7 : (i : Int) < W.length := by omega
      have hb' := q3 _ _ hb
      have hm' := q3 _ _ hm
      have hg := mapW_get hlt
      have hms := mixW_set hlt
      have hml := mixW_length W i (by omega)
      have hci : ((i + 1 : Nat) : Int) = (i : Int) + 1 := by omega
      generalize W[i] = x at *
      clear hb hm
      repeat' first | simp (maxSteps := 2000000) (disch := omega) only [go_sem, *, Try.results20] | (first | apply xg1 | apply xc1 | apply xg2 | apply xc2 | apply xc3 | apply xc4 | apply xg3 | apply xg4) <;> intro _
      refine EvQ_call ?_ ?_ (by rw [hP, hO]; exact loadB wb i _ ro2 x _ _ hb' hg) ?_
      · simp (maxSteps := 2000000) (disch := omega) only [go_sem, *]
      · simp (maxSteps := 2000000) (disch := omega) only [go_sem, *]
      rintro r h4 n4 ⟨rfl, hh4, hn4⟩
      subst hh4 hn4
      repeat' first | simp (maxSteps := 2000000) (disch := omega) only [go_sem, *, Try.results20] | (first | apply xg1 | apply xc1 | apply xg2 | apply xc2 | apply xc3 | apply xc4 | apply xg3 | apply xg4) <;> intro _
      refine ih (W.length - (i + 1)) _ _ _ (by omega) ⟨i + 1, by omega, rfl, ?_⟩
      rw [hci]
      clear ih
      simp (maxSteps := 2000000) (disch := omega) only [go_sem, *]
      exact Kept.set' hW (Nat.le_refl _) q3
    · have e7 : ¬ (i : Int) < W.length := by omega
      obtain rfl : i = W.length := by omega
      rw [mixW_end] at q2
      clear ih
      repeat' first | simp (maxSteps := 2000000) (disch := omega) only [go_sem, *, Try.results20] | (first | apply xg1 | apply xc1 | apply xg2 | apply xc2 | apply xc3 | apply xc4 | apply xg3 | apply xg4) <;> intro _
end Go.Proofs.Ytapcgfakefmemaa
set_option linter.unusedVariables false
set_option linter.unusedSimpArgs false
namespace Go.Proofs.Ytapcgfakefmemaa
open Go.Am
set_option maxHeartbeats 2000000 in
theorem rmemNewB {O : Over} (b cap : Nat) (W : List Int) (ro : Bool) (h : PT ABlk) (N : Nat) (hW : WfH h N) (hb : h.get b = some (.cells (PT.ofList .leaf 0 (W.map (.int .u64))) ro)) (h1 : 0 < W.length) (h2 : W.length ≤ 65536) :
    EvB Try.prog O 32 [.slice (some ⟨b, 0, none⟩) W.length cap] h N fun v h' n' => v = .tuple ⟨[.pointer (some ⟨N + 2, 0, none⟩), .int .i64 0]⟩ ∧ n' = N + 3 ∧ h'.get (N + 2) = some (.cells (PT.ofList .leaf 0 [.slice (some ⟨N + 1, 0, none⟩) W.length (capInf + 1), .slice none 0 0]) false) ∧
      h'.get (N + 1) = some (.cells (PT.ofList .leaf 0 (W.map (.int .u64))) false) ∧ Kept h h' := by
  have hbN := hW.lt hb
  have c1 : ¬ (W.length : Int) = 0 := by omega
  have c2 : ¬ (65536 : Int) < (W.length : Int) := by omega
  have hble : W.length.ble 1048576 = true := Nat.ble_eq_true_of_le (by omega)
  have hbq : W.length.beq W.length = true := Nat.beq_refl _
  have hb0 : W.length.beq 0 = false := by cases h3 : W.length.beq 0 with | false => rfl | true => have := Nat.eq_of_beq_eq_true h3; omega
  have hb1 : W.length.ble 0 = false := by cases h3 : W.length.ble 0 with | false => rfl | true => have := Nat.le_of_ble_eq_true h3; omega
  have hml : (W.map (Value.int .u64)).length = W.length := List.length_map _
  have hmt : (W.map (Value.int .u64)).take W.length = W.map (.int .u64) := by rw [← hml]; exact List.take_length
  generalize hL : W.map (Value.int .u64) = L at *
  clear hL
  refine EvB_run (N := 15) Try.func32 rfl rfl fun z hP hO hro hN hQ => ?_
  repeat' first | simp (maxSteps := 2000000) (disch := omega) only [go_sem, *, Try.results32] | (first | apply xg1 | apply xc1 | apply xg2 | apply xc2 | apply xc3 | apply xc4 | apply xg3 | apply xg4) <;> intro _
  exact Kept.set' hW (by omega) (Kept.set' hW (by omega) (hW.kept (Nat.le_refl _)))
end Go.Proofs.Ytapcgfakefmemaa
