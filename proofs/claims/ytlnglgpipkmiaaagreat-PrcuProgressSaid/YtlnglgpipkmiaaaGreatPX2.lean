/-
  A part of the proof: contracts of inner functions.
-/
import Derived.Test.YtlnglgpipkmiaaaGreatPV4
set_option linter.unusedVariables false
set_option linter.unusedSimpArgs false
namespace Go.Proofs.YtlnglgpipkmiaaaGreat
open Go.Am
def nums (p : Nat → Bool) (n : Nat) : List Int := ((List.range n).filter p).map fun v : Nat => (v : Int)
theorem nums_in {p : Nat → Bool} {n : Nat} (h : p n = true) : nums p (n + 1) = nums p n ++ [(n : Int)] := by
  unfold nums; rw [List.range_succ, List.filter_append, List.map_append]; simp [h]
theorem nums_out {p : Nat → Bool} {n : Nat} (h : p n = false) : nums p (n + 1) = nums p n := by
  unfold nums; rw [List.range_succ, List.filter_append, List.map_append]; simp [h]
theorem nums_ext {p q : Nat → Bool} {n m : Nat} (h : ∀ i, i < n → p i = q i) (h0 : ∀ i, n ≤ i → i < m → p i = false) (hm : n ≤ m) : nums p m = nums q n := by
  induction m with
  | zero => obtain rfl : n = 0 := by omega
            rfl
  | succ m ih =>
    by_cases c : n = m + 1
    · subst c
      unfold nums
      congr 1
      exact List.filter_congr fun i hi => h i (by simpa using hi)
    · rw [nums_out (h0 m (by omega) (by omega)), ih (fun i a b => h0 i a (by omega)) (by omega)]
theorem nums_len {p : Nat → Bool} {n : Nat} : (nums p n).length ≤ n := by
  unfold nums; rw [List.length_map]; exact Nat.le_trans (List.length_filter_le _ _) (by rw [List.length_range]; exact Nat.le_refl _)
theorem growKept {k : IntKind} {h h' : PT ABlk} {n : Nat} {sl : Value} {X : List Int} (q : Kept h h') (g : GrowInts k h n sl X) : GrowInts k h' n sl X := by
  rcases g with c | ⟨b, c1, c2, c3⟩
  · exact .inl c
  · exact .inr ⟨b, c1, c2, q _ _ c3⟩
theorem slL_take : ∀ (P : List (Int × Bool)) (s : Nat) (x : Int) (b : Bool), P[s]? = some (x, b) → List.take 2 (List.drop (s * 2) (slL P)) = [.int .u64 x, .bool b]
  | [], s, x, b, h => by simp at h
  | p :: P, 0, x, b, h => by simp at h; subst h; rw [slL_cons]; rfl
  | p :: P, s + 1, x, b, h => by
    rw [slL_cons, show (s + 1) * 2 = s * 2 + 1 + 1 by omega, List.drop_succ_cons, List.drop_succ_cons]
    exact slL_take P s x b (by simpa using h)
set_option maxRecDepth 100000 in
set_option maxHeartbeats 8000000 in
theorem fOpenB {h : PT ABlk} {n nn : Nat} {d : Rl → Nat} {C : Rl → Option ABlk} {base : Int} {N : List Int} {B : List Bool} (S : St h nn d C) (E : EngF d C base n N B) (hn : n ≤ 64) (p : Nat → Bool) (hp : ∀ i, i < n → ∃ x, N[i]? = some x ∧ if p i = true then x.tmod 2 = 1 else ¬ x.tmod 2 = 1) :
    EvB Tryz.prog OP 121 [pt (d (5, 0))] h nn fun r h' n' => nn ≤ n' ∧ Kept h h' ∧ WfH h' n' ∧ GrowInts .i64 h' nn r (nums p n) := by
  obtain ⟨e1, e2, e3, e4, e5, e6⟩ := E
  have g2 := S.at e2
  have g3 := S.at e3
  have W0 := S.wf
  clear e1 e2 e3 e4
  generalize d (5, 0) = de at *
  generalize d (6, 0) = d6 at *
  refine EvB_run (N := 24) Tryz.func121 rfl rfl fun z hP hO hro hN hQ => ?_
  repeat' first | simp (maxSteps := 2000000) (disch := first | omega | assumption) only [go_sem, *] | (apply xs <;> intro _) <;> try omega | refine fun (_ _ : List Nat) => ?_ | (first | refine inQ Tryz.func125 rfl ?_ ?_ ?_ ?_ | fail) <;> intros
  refine ind_loop (fun t m h' n' => ∃ (i : Nat) (sl : Value), i + t = n ∧ m.n = 24 ∧ m.dfs = [] ∧ m.get 0 = pt de ∧ m.get 11 = I6 n ∧ m.get 12 = I6 i ∧ m.get 3 = sl ∧ Kept h h' ∧ WfH h' n' ∧ nn ≤ n' ∧ GrowInts .i64 h' nn sl (nums p i)) n ?_ ?_
  · refine ⟨0, .slice none 0 0, by omega, ?_⟩
    simp (maxSteps := 2000000) (disch := first | omega | assumption) only [go_sem, *]
    exact ⟨Kept.refl _, Nat.le_refl _, .inl ⟨rfl, rfl⟩⟩
  · rintro tt m h1 n1 ih ⟨i, sl, hit, m1, m2, m3, m4, m5, m6, q1, q2, q3, q5⟩
    have q6 := q1 _ _ g2
    have q7 := q1 _ _ g3
    clear g2 g3
    by_cases hi : i = n
    · have hi' : (i : Int) = n := by omega
      clear ih hp
      subst hi
      repeat' first | simp (maxSteps := 2000000) (disch := first | omega | assumption) only [go_sem, *] | (apply xs <;> intro _) <;> try omega | refine fun (_ _ : List Nat) => ?_ | (first | refine inQ Tryz.func125 rfl ?_ ?_ ?_ ?_ | fail) <;> intros
    · have hi' : (i : Int) < n := by omega
      obtain ⟨x, hx, hpx⟩ := hp i (by omega)
      have hg : (N.map (Value.int .u64))[i]? = some (.int .u64 x) := by rw [List.getElem?_map, hx]; rfl
      have hXl := nums_len (p := p) (n := i)
      have hb1 : ((i + 1 : Nat) : Int) = (i : Int) + 1 := by omega
      cases hc : p i with
      | false =>
        have hout := nums_out hc
        rw [hc, if_neg (by simp)] at hpx
        generalize nums p i = X at *
        repeat' first | simp (maxSteps := 2000000) (disch := first | omega | assumption) only [go_sem, *] | (apply xs <;> intro _) <;> try omega | refine fun (_ _ : List Nat) => ?_ | (first | refine inQ Tryz.func125 rfl ?_ ?_ ?_ ?_ | fail) <;> intros
        refine ih (n - (i + 1)) _ _ _ (by omega) ⟨i + 1, sl, by omega, ?_⟩
        rw [hb1, hout]
        simp (maxSteps := 2000000) (disch := first | omega | assumption) only [go_sem, *]
      | true =>
        have hin := nums_in hc
        rw [hc, if_pos rfl] at hpx
        generalize nums p i = X at *
        rcases q5 with ⟨rfl, rfl⟩ | ⟨g', rfl, w2, w3⟩
        · repeat' first | simp (maxSteps := 2000000) (disch := first | omega | assumption) only [go_sem, *] | (apply xs <;> intro _) <;> try omega | refine fun (_ _ : List Nat) => ?_ | (first | refine inQ Tryz.func125 rfl ?_ ?_ ?_ ?_ | fail) <;> intros
          refine ih (n - (i + 1)) _ _ _ (by omega) ⟨i + 1, .slice (some ⟨n1 + 1, 0, none⟩) 1 (capInf + 1), by omega, by simp (maxSteps := 2000000) (disch := first | omega | assumption) only [go_sem, *], by simp (maxSteps := 2000000) (disch := first | omega | assumption) only [go_sem, *], by simp (maxSteps := 2000000) (disch := first | omega | assumption) only [go_sem, *], by simp (maxSteps := 2000000) (disch := first | omega | assumption) only [go_sem, *], by rw [hb1]; simp (maxSteps := 2000000) (disch := first | omega | assumption) only [go_sem, *], by simp (maxSteps := 2000000) (disch := first | omega | assumption) only [go_sem, *], ?_, ?_, by omega, ?_⟩
          · repeat refine Kept.set' W0 (by omega) ?_
            exact q1
          · repeat refine WfH.set' (by omega) ?_
            exact q2.mono (by omega)
          · rw [hin]
            exact .inr ⟨n1 + 1, rfl, by omega, by simp (disch := omega) only [heap_ne, heap_same]; rfl⟩
        · have hgn := q2.lt w3
          have htk : List.take X.length (X.map (Value.int .i64)) = X.map (.int .i64) := take_map_self
          have hmX : (X.map (Value.int .i64)).length = X.length := List.length_map _
          have hble : Nat.ble (X.length + 1) 1048576 = true := Nat.ble_eq_true_of_le (by omega)
          have hsn : X.map (Value.int .i64) ++ [.int .i64 (i : Int)] = (X ++ [(i : Int)]).map (.int .i64) := by simp
          repeat' first | simp (maxSteps := 2000000) (disch := first | omega | assumption) only [go_sem, *] | (apply xs <;> intro _) <;> try omega | refine fun (_ _ : List Nat) => ?_ | (first | refine inQ Tryz.func125 rfl ?_ ?_ ?_ ?_ | fail) <;> intros
          refine ih (n - (i + 1)) _ _ _ (by omega) ⟨i + 1, .slice (some ⟨n1 + 1, 0, none⟩) (X.length + 1) (capInf + 1), by omega, by simp (maxSteps := 2000000) (disch := first | omega | assumption) only [go_sem, *], by simp (maxSteps := 2000000) (disch := first | omega | assumption) only [go_sem, *], by simp (maxSteps := 2000000) (disch := first | omega | assumption) only [go_sem, *], by simp (maxSteps := 2000000) (disch := first | omega | assumption) only [go_sem, *], by rw [hb1]; simp (maxSteps := 2000000) (disch := first | omega | assumption) only [go_sem, *], by simp (maxSteps := 2000000) (disch := first | omega | assumption) only [go_sem, *], ?_, ?_, by omega, ?_⟩
          · repeat refine Kept.set' W0 (by omega) ?_
            exact q1
          · repeat refine WfH.set' (by omega) ?_
            exact q2.mono (by omega)
          · rw [hin]
            exact .inr ⟨n1 + 1, by simp, by omega, by simp (disch := omega) only [heap_ne, heap_same]⟩
set_option maxRecDepth 100000 in
set_option maxHeartbeats 8000000 in
theorem eOpenB {h : PT ABlk} {n nn : Nat} {d : Rl → Nat} {C : Rl → Option ABlk} {base : Int} {P : List (Int × Bool)} (S : St h nn d C) (E : EngE d C base n P) (hn : n ≤ 64) (p : Nat → Bool) (hp : ∀ i, i < n → ∃ x b, P[i]? = some (x, b) ∧ if p i = true then x.tmod 2 = 1 else ¬ x.tmod 2 = 1) :
    EvB Tryz.prog OP 141 [pt (d (5, 0))] h nn fun r h' n' => nn ≤ n' ∧ Kept h h' ∧ WfH h' n' ∧ GrowInts .i64 h' nn r (nums p n) := by
  obtain ⟨e1, e2, e3, e4, e5⟩ := E
  have g2 := S.at e2
  have g3 := S.at e3
  have W0 := S.wf
  clear e1 e2 e3 e4
  generalize d (5, 0) = de at *
  generalize d (6, 0) = d6 at *
  refine EvB_run (N := 28) Tryz.func141 rfl rfl fun z hP hO hro hN hQ => ?_
  repeat' first | simp (maxSteps := 2000000) (disch := first | omega | assumption) only [go_sem, *] | (apply xs <;> intro _) <;> try omega
  refine ind_loop (fun t m h' n' => ∃ (i : Nat) (sl : Value), i + t = n ∧ m.n = 28 ∧ m.dfs = [] ∧ m.get 0 = pt de ∧ m.get 11 = .slice (some ⟨d6, 0, none⟩) n n ∧ m.get 12 = I6 n ∧ m.get 13 = I6 i ∧ m.get 3 = sl ∧ Kept h h' ∧ WfH h' n' ∧ nn ≤ n' ∧ GrowInts .i64 h' nn sl (nums p i)) n ?_ ?_
  · refine ⟨0, .slice none 0 0, by omega, ?_⟩
    simp (maxSteps := 2000000) (disch := first | omega | assumption) only [go_sem, *]
    exact ⟨Kept.refl _, Nat.le_refl _, .inl ⟨rfl, rfl⟩⟩
  · rintro tt m h1 n1 ih ⟨i, sl, hit, m1, m2, m3, m4, m5, m6, m7, q1, q2, q3, q5⟩
    have q6 := q1 _ _ g2
    have q7 := q1 _ _ g3
    clear g2 g3
    by_cases hi : i = n
    · have hi' : (i : Int) = n := by omega
      clear ih hp
      subst hi
      repeat' first | simp (maxSteps := 2000000) (disch := first | omega | assumption) only [go_sem, *] | (apply xs <;> intro _) <;> try omega
    · have hi' : (i : Int) < n := by omega
      obtain ⟨x, b, hx, hpx⟩ := hp i (by omega)
      obtain ⟨hg, hg2⟩ := slL_get P i x b hx
      have hlen := slL_length P
      have htd := slL_take P i x b hx
      have hXl := nums_len (p := p) (n := i)
      have hb1 : ((i + 1 : Nat) : Int) = (i : Int) + 1 := by omega
      cases hc : p i with
      | false =>
        have hout := nums_out hc
        rw [hc, if_neg (by simp)] at hpx
        generalize nums p i = X at *
        repeat' first | simp (maxSteps := 2000000) (disch := first | omega | assumption) only [go_sem, *] | (apply xs <;> intro _) <;> try omega
        have k1 : ∀ B, Kept h1 (h1.set n1 B) := fun B => Kept.set' q2 (Nat.le_refl _) (Kept.refl _)
        refine ih (n - (i + 1)) _ _ _ (by omega) ⟨i + 1, sl, by omega, by simp (maxSteps := 2000000) (disch := first | omega | assumption) only [go_sem, *], by simp (maxSteps := 2000000) (disch := first | omega | assumption) only [go_sem, *], by simp (maxSteps := 2000000) (disch := first | omega | assumption) only [go_sem, *], by simp (maxSteps := 2000000) (disch := first | omega | assumption) only [go_sem, *], by simp (maxSteps := 2000000) (disch := first | omega | assumption) only [go_sem, *], by rw [hb1]; simp (maxSteps := 2000000) (disch := first | omega | assumption) only [go_sem, *], by simp (maxSteps := 2000000) (disch := first | omega | assumption) only [go_sem, *], q1.trans (Kept.set' q2 (Nat.le_refl _) (k1 _)), ?_, by omega, ?_⟩
        · repeat refine WfH.set' (by omega) ?_
          exact q2.mono (by omega)
        · rw [hout]
          exact growKept (Kept.set' q2 (Nat.le_refl _) (k1 _)) q5
      | true =>
        have hin := nums_in hc
        rw [hc, if_pos rfl] at hpx
        generalize nums p i = X at *
        rcases q5 with ⟨rfl, rfl⟩ | ⟨g', rfl, w2, w3⟩
        · repeat' first | simp (maxSteps := 2000000) (disch := first | omega | assumption) only [go_sem, *] | (apply xs <;> intro _) <;> try omega
          refine ih (n - (i + 1)) _ _ _ (by omega) ⟨i + 1, .slice (some ⟨n1 + 2, 0, none⟩) 1 (capInf + 1), by omega, by simp (maxSteps := 2000000) (disch := first | omega | assumption) only [go_sem, *], by simp (maxSteps := 2000000) (disch := first | omega | assumption) only [go_sem, *], by simp (maxSteps := 2000000) (disch := first | omega | assumption) only [go_sem, *], by simp (maxSteps := 2000000) (disch := first | omega | assumption) only [go_sem, *], by simp (maxSteps := 2000000) (disch := first | omega | assumption) only [go_sem, *], by rw [hb1]; simp (maxSteps := 2000000) (disch := first | omega | assumption) only [go_sem, *], by simp (maxSteps := 2000000) (disch := first | omega | assumption) only [go_sem, *], ?_, ?_, by omega, ?_⟩
          · repeat refine Kept.set' W0 (by omega) ?_
            exact q1
          · repeat refine WfH.set' (by omega) ?_
            exact q2.mono (by omega)
          · rw [hin]
            exact .inr ⟨n1 + 2, rfl, by omega, by simp (disch := omega) only [heap_ne, heap_same]; rfl⟩
        · have hgn := q2.lt w3
          have htk : List.take X.length (X.map (Value.int .i64)) = X.map (.int .i64) := take_map_self
          have hmX : (X.map (Value.int .i64)).length = X.length := List.length_map _
          have hble : Nat.ble (X.length + 1) 1048576 = true := Nat.ble_eq_true_of_le (by omega)
          have hsn : X.map (Value.int .i64) ++ [.int .i64 (i : Int)] = (X ++ [(i : Int)]).map (.int .i64) := by simp
          repeat' first | simp (maxSteps := 2000000) (disch := first | omega | assumption) only [go_sem, *] | (apply xs <;> intro _) <;> try omega
          refine ih (n - (i + 1)) _ _ _ (by omega) ⟨i + 1, .slice (some ⟨n1 + 2, 0, none⟩) (X.length + 1) (capInf + 1), by omega, by simp (maxSteps := 2000000) (disch := first | omega | assumption) only [go_sem, *], by simp (maxSteps := 2000000) (disch := first | omega | assumption) only [go_sem, *], by simp (maxSteps := 2000000) (disch := first | omega | assumption) only [go_sem, *], by simp (maxSteps := 2000000) (disch := first | omega | assumption) only [go_sem, *], by simp (maxSteps := 2000000) (disch := first | omega | assumption) only [go_sem, *], by rw [hb1]; simp (maxSteps := 2000000) (disch := first | omega | assumption) only [go_sem, *], by simp (maxSteps := 2000000) (disch := first | omega | assumption) only [go_sem, *], ?_, ?_, by omega, ?_⟩
          · repeat refine Kept.set' W0 (by omega) ?_
            exact q1
          · repeat refine WfH.set' (by omega) ?_
            exact q2.mono (by omega)
          · rw [hin]
            exact .inr ⟨n1 + 2, by simp, by omega, by simp (disch := omega) only [heap_ne, heap_same]⟩
set_option maxRecDepth 100000 in
set_option maxHeartbeats 8000000 in
theorem gOpenB {h : PT ABlk} {nb n nn : Nat} {d : Rl → Nat} {C : Rl → Option ABlk} {base : Int} {X : List IEnt} {ck : Nat} (S : St h nn d C) (E : EngG d C base nb n X ck) (p : Nat → Bool) (hp : ∀ i : Nat, i < 64 → (ifind (i : Int) X 0 = none ∧ p i = false) ∨ ∃ j b v, ifind (i : Int) X 0 = some (j, pt b) ∧ h.get b = row [v, .bool (p i)]) :
    EvB Tryz.prog OP 152 [pt (d (5, 0))] h nn fun r h' n' => nn ≤ n' ∧ Kept h h' ∧ WfH h' n' ∧ GrowInts .i64 h' nn r (nums p 64) := by
  obtain ⟨e1, e2, e3⟩ := E
  have g2 := S.at e2
  have g3 := S.at e3
  have W0 := S.wf
  clear e1 e2 e3
  generalize d (5, 0) = de at *
  generalize d (6, 0) = d6 at *
  refine EvB_run (N := 34) Tryz.func152 rfl rfl fun z hP hO hro hN hQ => ?_
  repeat' first | simp (maxSteps := 2000000) (disch := first | omega | assumption) only [go_sem, *] | (apply xs <;> intro _) <;> try omega
  refine ind_loop (fun t m h' n' => ∃ (i : Nat) (sl : Value), i + t = 64 ∧ m.n = 34 ∧ m.dfs = [] ∧ m.get 0 = pt de ∧ m.get 9 = I6 i ∧ m.get 3 = sl ∧ Kept h h' ∧ WfH h' n' ∧ nn ≤ n' ∧ GrowInts .i64 h' nn sl (nums p i)) 64 ?_ ?_
  · refine ⟨0, .slice none 0 0, by omega, ?_⟩
    simp (maxSteps := 2000000) (disch := first | omega | assumption) only [go_sem, *]
    exact ⟨Kept.refl _, Nat.le_refl _, .inl ⟨rfl, rfl⟩⟩
  · rintro tt m h1 n1 ih ⟨i, sl, hit, m1, m2, m3, m4, m5, q1, q2, q3, q5⟩
    have q6 := q1 _ _ g2
    have q7 := q1 _ _ g3
    clear g2 g3
    by_cases hi : i = 64
    · have hi' : (i : Int) = 64 := by omega
      clear ih hp
      subst hi
      repeat' first | simp (maxSteps := 2000000) (disch := first | omega | assumption) only [go_sem, *] | (apply xs <;> intro _) <;> try omega
    · have hi' : (i : Int) < 64 := by omega
      have hpi := hp i (by omega)
      clear hp
      have hXl := nums_len (p := p) (n := i)
      have hb1 : ((i + 1 : Nat) : Int) = (i : Int) + 1 := by omega
      cases hc : p i with
      | false =>
        have hout := nums_out hc
        rw [hc] at hpi
        generalize nums p i = Y at *
        rcases hpi with ⟨hf, _⟩ | ⟨j, b, v, hf, hgb⟩
        · repeat' first | simp (maxSteps := 2000000) (disch := first | omega | assumption) only [go_sem, *] | (apply xs <;> intro _) <;> try omega
          refine ih (64 - (i + 1)) _ _ _ (by omega) ⟨i + 1, sl, by omega, ?_⟩
          rw [hb1, hout]
          simp (maxSteps := 2000000) (disch := first | omega | assumption) only [go_sem, *]
        · have q8 := q1 _ _ hgb
          clear hgb
          repeat' first | simp (maxSteps := 2000000) (disch := first | omega | assumption) only [go_sem, *] | (apply xs <;> intro _) <;> try omega
          refine ih (64 - (i + 1)) _ _ _ (by omega) ⟨i + 1, sl, by omega, ?_⟩
          rw [hb1, hout]
          simp (maxSteps := 2000000) (disch := first | omega | assumption) only [go_sem, *]
      | true =>
        have hin := nums_in hc
        rw [hc] at hpi
        obtain ⟨j, b, v, hf, hgb⟩ := hpi.resolve_left (by simp)
        have q8 := q1 _ _ hgb
        clear hgb hpi
        generalize nums p i = Y at *
        rcases q5 with ⟨rfl, rfl⟩ | ⟨g', rfl, w2, w3⟩
        · repeat' first | simp (maxSteps := 2000000) (disch := first | omega | assumption) only [go_sem, *] | (apply xs <;> intro _) <;> try omega
          refine ih (64 - (i + 1)) _ _ _ (by omega) ⟨i + 1, .slice (some ⟨n1 + 1, 0, none⟩) 1 (capInf + 1), by omega, by simp (maxSteps := 2000000) (disch := first | omega | assumption) only [go_sem, *], by simp (maxSteps := 2000000) (disch := first | omega | assumption) only [go_sem, *], by simp (maxSteps := 2000000) (disch := first | omega | assumption) only [go_sem, *], by rw [hb1]; simp (maxSteps := 2000000) (disch := first | omega | assumption) only [go_sem, *], by simp (maxSteps := 2000000) (disch := first | omega | assumption) only [go_sem, *], ?_, ?_, by omega, ?_⟩
          · repeat refine Kept.set' W0 (by omega) ?_
            exact q1
          · repeat refine WfH.set' (by omega) ?_
            exact q2.mono (by omega)
          · rw [hin]
            exact .inr ⟨n1 + 1, rfl, by omega, by simp (disch := omega) only [heap_ne, heap_same]; rfl⟩
        · have hgn := q2.lt w3
          have htk : List.take Y.length (Y.map (Value.int .i64)) = Y.map (.int .i64) := take_map_self
          have hmX : (Y.map (Value.int .i64)).length = Y.length := List.length_map _
          have hble : Nat.ble (Y.length + 1) 1048576 = true := Nat.ble_eq_true_of_le (by omega)
          have hsn : Y.map (Value.int .i64) ++ [.int .i64 (i : Int)] = (Y ++ [(i : Int)]).map (.int .i64) := by simp
          repeat' first | simp (maxSteps := 2000000) (disch := first | omega | assumption) only [go_sem, *] | (apply xs <;> intro _) <;> try omega
          refine ih (64 - (i + 1)) _ _ _ (by omega) ⟨i + 1, .slice (some ⟨n1 + 1, 0, none⟩) (Y.length + 1) (capInf + 1), by omega, by simp (maxSteps := 2000000) (disch := first | omega | assumption) only [go_sem, *], by simp (maxSteps := 2000000) (disch := first | omega | assumption) only [go_sem, *], by simp (maxSteps := 2000000) (disch := first | omega | assumption) only [go_sem, *], by rw [hb1]; simp (maxSteps := 2000000) (disch := first | omega | assumption) only [go_sem, *], by simp (maxSteps := 2000000) (disch := first | omega | assumption) only [go_sem, *], ?_, ?_, by omega, ?_⟩
          · repeat refine Kept.set' W0 (by omega) ?_
            exact q1
          · repeat refine WfH.set' (by omega) ?_
            exact q2.mono (by omega)
          · rw [hin]
            exact .inr ⟨n1 + 1, by simp, by omega, by simp (disch := omega) only [heap_ne, heap_same]⟩
end Go.Proofs.YtlnglgpipkmiaaaGreat
set_option linter.unusedVariables false
set_option linter.unusedSimpArgs false
namespace Go.Proofs.YtlnglgpipkmiaaaGreat
open Go.Am
structure Fr (d : Rl → Nat) (C : Rl → Option ABlk) (d' : Rl → Nat) (C' : Rl → Option ABlk) (t : Nat) : Prop where
  cli : ∀ a b, a = 3 ∨ a = 14 ∨ 30 ≤ a → d' (a, b) = d (a, b) ∧ C' (a, b) = C (a, b)
  ptr : ∀ u, u ≠ t → d' (8, u) = d (8, u) ∧ d' (10, u) = d (10, u)
  prcu : d' (4, 0) = d (4, 0)
  mem : d' rM = d rM
structure Face (e : Eng) (rep : e.σ → Nat → (Rl → Nat) → (Rl → Option ABlk) → Prop) : Prop where
  enterB : ∀ {h : PT ABlk} {n : Nat} {d : Rl → Nat} {C : Rl → Option ABlk} {s : e.σ} {k t v : Nat}, St h n d C → rep s k d C → k ≤ 90000 → t < 6 → v < 64 → e.ent s t = false → e.inn s t = false → e.wt s t = false →
    EvB Tryz.prog OP 21 [pt (d (4, 0)), I6 t, I6 t, I6 v] h n fun r h' n' => ∃ d' C', r = tup [pt (d' (8, t)), I6 0] ∧ St h' n' d' C' ∧ rep (e.enter s t v) k d' C' ∧ Fr d C d' C' t
  estepB : ∀ {h : PT ABlk} {n : Nat} {d : Rl → Nat} {C : Rl → Option ABlk} {s : e.σ} {k t : Nat}, St h n d C → rep s k d C → k ≤ 90000 → t < 6 → e.ent s t = true → e.inn s t = false →
    EvB Tryz.prog OP 57 [pt (d (8, t))] h n fun r h' n' => ∃ d' C' pc, r = tup [U8 pc, .bool !e.ent (e.estep s t) t] ∧ St h' n' d' C' ∧ rep (e.estep s t) (k + 1) d' C' ∧ Fr d C d' C' t ∧ d' (8, t) = d (8, t)
  exitB : ∀ {h : PT ABlk} {n : Nat} {d : Rl → Nat} {C : Rl → Option ABlk} {s : e.σ} {k t : Nat}, St h n d C → rep s k d C → k ≤ 90000 → t < 6 → e.inn s t = true → e.ent s t = false →
    EvB Tryz.prog OP 23 [pt (d (4, 0)), I6 t, I6 t] h n fun r h' n' => ∃ d' C' pc, r = tup [U8 pc, I6 0] ∧ pc ≠ 0 ∧ St h' n' d' C' ∧ rep (e.exit s t) (k + 1) d' C' ∧ Fr d C d' C' t
  waitB : ∀ {h : PT ABlk} {n : Nat} {d : Rl → Nat} {C : Rl → Option ABlk} {s : e.σ} {k t st : Nat}, St h n d C → rep s k d C → k ≤ 90000 → t < 6 → st ≠ 0 → st < 2 ^ 64 → e.wt s t = false →
    EvB Tryz.prog OP 25 [pt (d (4, 0)), I6 t, U6 st] h n fun r h' n' => ∃ d' C', r = tup [pt (d' (10, t)), I6 0] ∧ St h' n' d' C' ∧ rep (e.wait s t st) k d' C' ∧ Fr d C d' C' t
  wstepB : ∀ {h : PT ABlk} {n : Nat} {d : Rl → Nat} {C : Rl → Option ABlk} {s : e.σ} {k t : Nat}, St h n d C → rep s k d C → k ≤ 90000 → t < 6 → e.wt s t = true →
    EvB Tryz.prog OP 60 [pt (d (10, t))] h n fun r h' n' => ∃ d' C' pc, r = tup [U8 pc, .bool !e.wt (e.wstep s t) t] ∧ St h' n' d' C' ∧ rep (e.wstep s t) (k + 1) d' C' ∧ Fr d C d' C' t ∧ d' (10, t) = d (10, t)
  cliC : ∀ {d : Rl → Nat} {C : Rl → Option ABlk} {s : e.σ} {k a b : Nat} {B : Option ABlk}, rep s k d C → a = 3 ∨ a = 14 ∨ 30 ≤ a → rep s k d (upd C (a, b) B)
  cliD : ∀ {d : Rl → Nat} {C : Rl → Option ABlk} {s : e.σ} {k a b i : Nat}, rep s k d C → a = 3 ∨ a = 14 ∨ 30 ≤ a → rep s k (upd d (a, b) i) C
  openB : ∀ {h : PT ABlk} {n : Nat} {d : Rl → Nat} {C : Rl → Option ABlk} {s : e.σ} {k : Nat}, St h n d C → rep s k d C →
    EvB Tryz.prog OP 14 [pt (d (4, 0))] h n fun r h' n' => n ≤ n' ∧ Kept h h' ∧ WfH h' n' ∧ GrowInts .i64 h' n r (nums (e.inn s) 6)
def nl (m : Nat) (f : Nat → Nat) : List Int := (List.range m).map fun i => (f i : Int)
theorem nl_length {m : Nat} {f : Nat → Nat} : (nl m f).length = m := by simp [nl]
theorem nl_get {m : Nat} {f : Nat → Nat} {i : Nat} (hi : i < m) : (nl m f)[i]? = some (f i : Int) := by
  unfold nl; rw [List.getElem?_map, List.getElem?_range hi]; rfl
theorem nl_getE {m : Nat} {f : Nat → Nat} {i : Nat} (hi : i < (nl m f).length) : (nl m f)[i] = (f i : Int) := by
  have h := nl_get (f := f) (show i < m by rw [nl_length] at hi; exact hi)
  rw [List.getElem?_eq_getElem hi] at h; exact Option.some.inj h
theorem nl_set {m : Nat} {f g : Nat → Nat} {i : Nat} {x : Int} (hx : x = (g i : Int)) (hg : ∀ j, j < m → j ≠ i → g j = f j) : (nl m f).set i x = nl m g := by
  apply List.ext_getElem?
  intro j
  rw [List.getElem?_set]
  by_cases c : i = j
  · subst c
    rw [if_pos rfl]
    by_cases c2 : i < m
    · rw [if_pos (by rw [nl_length]; exact c2), nl_get c2, hx]
    · rw [if_neg (by rw [nl_length]; exact c2)]
      rw [List.getElem?_eq_none (by rw [nl_length]; omega)]
  · rw [if_neg c]
    by_cases c2 : j < m
    · rw [nl_get c2, nl_get c2, hg j c2 (fun q => c q.symm)]
    · rw [List.getElem?_eq_none (by rw [nl_length]; omega), List.getElem?_eq_none (by rw [nl_length]; omega)]
def bl (m : Nat) (f : Nat → Bool) : List Bool := (List.range m).map f
theorem bl_length {m : Nat} {f : Nat → Bool} : (bl m f).length = m := by simp [bl]
theorem bl_get {m : Nat} {f : Nat → Bool} {i : Nat} (hi : i < m) : (bl m f)[i]? = some (f i) := by
  unfold bl; rw [List.getElem?_map, List.getElem?_range hi]; rfl
theorem bl_set {m : Nat} {f : Nat → Bool} {i : Nat} {x : Bool} : (bl m f).set i x = bl m (fs f i x) := by
  apply List.ext_getElem?
  intro j
  rw [List.getElem?_set]
  by_cases c : i = j
  · subst c
    rw [if_pos rfl]
    by_cases c2 : i < m
    · rw [if_pos (by rw [bl_length]; exact c2), bl_get c2, fs_same]
    · rw [if_neg (by rw [bl_length]; exact c2)]
      rw [List.getElem?_eq_none (by rw [bl_length]; omega)]
  · rw [if_neg c]
    by_cases c2 : j < m
    · rw [bl_get c2, bl_get c2, fs_ne (fun q => c q.symm)]
    · rw [List.getElem?_eq_none (by rw [bl_length]; omega), List.getElem?_eq_none (by rw [bl_length]; omega)]
end Go.Proofs.YtlnglgpipkmiaaaGreat
set_option linter.unusedVariables false
set_option linter.unusedSimpArgs false
namespace Go.Proofs.YtlnglgpipkmiaaaGreat
open Go.Am
structure RepF (s : FS) (k : Nat) (d : Rl → Nat) (C : Rl → Option ABlk) : Prop where
  mem : ∃ L, IsM d C (nl 6 s.N) L k
  eng : EngF d C 0 6 (nl 6 s.N) (bl 6 s.E)
  num : ∀ i, i < 6 → s.N i ≤ k
  ev : ∀ t, t < 6 → s.E t = true → s.N t % 2 = 0
  en : ∀ t, t < 6 → s.E t = true → C (8, t) = row [.iface 246 (pt (d (9, t)))] ∧ C (9, t) = row [pt (d (5, 0)), I6 t, I6 t, .func (.func 126) ⟨[pt (d (9, t))]⟩ ⟨[]⟩]
  wa : ∀ t x, t < 6 → s.X t = some x → x.slot < 6 ∧ x.ended = false ∧ C (10, t) = row [.iface 249 (pt (d (11, t)))] ∧ C (11, t) = row (fwRow x (d (5, 0)) (d (11, t)) t)
theorem tmod_nat {x : Nat} : ((x : Nat) : Int).tmod 2 = ((x % 2 : Nat) : Int) := rfl
theorem repF_enter {h : PT ABlk} {n : Nat} {d : Rl → Nat} {C : Rl → Option ABlk} {s : FS} {k t v : Nat} (S : St h n d C) (R : RepF s k d C) (ht : t < 6) (hv : v < 64) (he : s.E t = false) (hi : decide (s.N t % 2 = 1) = false) :
    EvB Tryz.prog OP 21 [pt (d (4, 0)), I6 t, I6 t, I6 v] h n fun r h' n' => ∃ d' C', r = tup [pt (d' (8, t)), I6 0] ∧ St h' n' d' C' ∧ RepF (engF.enter s t v) k d' C' ∧ Fr d C d' C' t := by
  obtain ⟨⟨L, M⟩, E, num, ev, en, wa⟩ := R
  simp only [decide_eq_false_iff_not] at hi
  obtain ⟨kk, r, h', n', e, p, q, q1, q2, q3, rfl, S'⟩ := fEnterB (t := t) (s := t) (base := 0) (th := t) (v := v) S E ⟨by omega, by omega⟩ (by omega) ht ⟨by omega, by omega⟩ (by rw [bl_get ht, he]) ⟨_, nl_get ht, by rw [tmod_nat]; omega⟩
  refine ⟨kk, _, h', n', e, _, _, by simp (disch := first | decide | assumption | omega) only [rM, rW, rL, upd_same, upd_tag, upd_num, memC_ne], S', ⟨⟨L, ((((M.updC (by omega)).updC (by omega)).updC (by omega)).updD (by omega)).updD (by omega)⟩, ?_, num, fun u hu hE => ?_, fun u hu hE => ?_, fun u x hu hX => ?_⟩, ?_⟩
  · obtain ⟨e1, e2, e3, e4, e5, e6⟩ := E
    exact ⟨by simp (disch := first | decide | assumption | omega) only [rM, rW, rL, upd_same, upd_tag, upd_num, memC_ne]; exact e1, by simp (disch := first | decide | assumption | omega) only [rM, rW, rL, upd_same, upd_tag, upd_num, memC_ne]; exact e2, by simp (disch := first | decide | assumption | omega) only [rM, rW, rL, upd_same, upd_tag, upd_num, memC_ne]; exact e3, by simp (disch := first | decide | assumption | omega) only [rM, rW, rL, upd_same, upd_tag, upd_num, memC_ne]; rw [bl_set], e5, bl_length⟩
  · have hE' : fs s.E t true u = true := hE
    show s.N u % 2 = 0
    by_cases c : u = t
    · subst c; omega
    · rw [fs_ne c] at hE'; exact ev u hu hE'
  · have hE' : fs s.E t true u = true := hE
    by_cases c : u = t
    · subst c
      exact ⟨by simp (disch := first | decide | assumption | omega) only [rM, rW, rL, upd_same, upd_tag, upd_num, memC_ne], by simp (disch := first | decide | assumption | omega) only [rM, rW, rL, upd_same, upd_tag, upd_num, memC_ne]⟩
    · rw [fs_ne c] at hE'
      obtain ⟨a1, a2⟩ := en u hu hE'
      exact ⟨by simp (disch := first | decide | assumption | omega) only [rM, rW, rL, upd_same, upd_tag, upd_num, memC_ne]; exact a1, by simp (disch := first | decide | assumption | omega) only [rM, rW, rL, upd_same, upd_tag, upd_num, memC_ne]; exact a2⟩
  · obtain ⟨a1, a2, a3, a4⟩ := wa u x hu hX
    exact ⟨a1, a2, by simp (disch := first | decide | assumption | omega) only [rM, rW, rL, upd_same, upd_tag, upd_num, memC_ne]; exact a3, by simp (disch := first | decide | assumption | omega) only [rM, rW, rL, upd_same, upd_tag, upd_num, memC_ne]; exact a4⟩
  · refine ⟨fun a b c => ?_, fun u c => ⟨by simp (disch := first | decide | assumption | omega) only [rM, rW, rL, upd_same, upd_tag, upd_num, memC_ne], by simp (disch := first | decide | assumption | omega) only [rM, rW, rL, upd_same, upd_tag, upd_num, memC_ne]⟩, by simp (disch := first | decide | assumption | omega) only [rM, rW, rL, upd_same, upd_tag, upd_num, memC_ne], by simp (disch := first | decide | assumption | omega) only [rM, rW, rL, upd_same, upd_tag, upd_num, memC_ne]⟩
    exact ⟨by simp (disch := first | decide | assumption | omega) only [rM, rW, rL, upd_same, upd_tag, upd_num, memC_ne], by simp (disch := first | decide | assumption | omega) only [rM, rW, rL, upd_same, upd_tag, upd_num, memC_ne]⟩
theorem repF_estep {h : PT ABlk} {n : Nat} {d : Rl → Nat} {C : Rl → Option ABlk} {s : FS} {k t : Nat} (S : St h n d C) (R : RepF s k d C) (hk : k ≤ 90000) (ht : t < 6) (he : s.E t = true) :
    EvB Tryz.prog OP 57 [pt (d (8, t))] h n fun r h' n' => ∃ d' C' pc, r = tup [U8 pc, .bool !engF.ent (engF.estep s t) t] ∧ St h' n' d' C' ∧ RepF (engF.estep s t) (k + 1) d' C' ∧ Fr d C d' C' t ∧ d' (8, t) = d (8, t) := by
  obtain ⟨⟨L, M⟩, E, num, ev, en, wa⟩ := R
  obtain ⟨a1, a2⟩ := en t ht he
  have hnt := num t ht
  have hnl : ∀ f, (nl 6 f).length = 6 := fun f => nl_length
  obtain ⟨kk, r, h', n', e, g, q1, q2, rfl, S'⟩ := fEStepB (t := t) (s := t) (ba := t) (base := 0) (th := t) S E M (by omega) ⟨by omega, by omega⟩ (by omega) ht (nl_get ht) ⟨by omega, by omega⟩ (by omega) (by rw [hnl]; exact ht) (by rw [hnl]; omega) a1 a2
  have hset : (nl 6 s.N).set t ((s.N t : Int) + 1) = nl 6 (fs s.N t (s.N t + 1)) := nl_set (by rw [fs_same]; omega) fun j _ c => fs_ne c
  rw [hset] at S'
  have hM : ∀ C g L', L'.length = (k + 1) * 6 → IsM (upd d rL g) (memC C (d rW) g (nl 6 (fs s.N t (s.N t + 1))) L' (k + 1)) (nl 6 (fs s.N t (s.N t + 1))) L' (k + 1) := fun C g L' hL => IsM.next (k := k) (C := C) (L := L) (W := nl 6 s.N) (by rw [hnl, hnl]) hL
  refine ⟨kk, _, h', n', e, _, _, 13, ?_, S', ⟨⟨_, ((hM _ _ _ (by rw [List.length_append, M.len]; show _ + 6 = _; omega)).updC (by omega)).updC (by omega)⟩, ?_, fun i hi => ?_, fun u hu hE => ?_, fun u hu hE => ?_, fun u x hu hX => ?_⟩, ?_, by simp (disch := first | decide | assumption | omega) only [rM, rW, rL, upd_same, upd_tag, upd_num, memC_ne]⟩
  · show _ = tup [_, .bool !(fs s.E t false t)]
    rw [fs_same]; rfl
  · obtain ⟨e1, e2, e3, e4, e5, e6⟩ := E
    exact ⟨by simp (disch := first | decide | assumption | omega) only [rM, rW, rL, upd_same, upd_tag, upd_num, memC_ne]; exact e1, by simp (disch := first | decide | assumption | omega) only [rM, rW, rL, upd_same, upd_tag, upd_num, memC_ne]; exact e2, by simp (disch := first | decide | assumption | omega) only [rM, rW, rL, upd_same, upd_tag, upd_num, memC_ne], by simp (disch := first | decide | assumption | omega) only [rM, rW, rL, upd_same, upd_tag, upd_num, memC_ne]; rw [bl_set], nl_length, bl_length⟩
  · show fs s.N t (s.N t + 1) i ≤ k + 1
    have := num i hi
    unfold fs; split <;> omega
  · have hE' : fs s.E t false u = true := hE
    by_cases c : u = t
    · subst c; rw [fs_same] at hE'; simp at hE'
    · rw [fs_ne c] at hE'; show fs s.N t (s.N t + 1) u % 2 = 0; rw [fs_ne c]; exact ev u hu hE'
  · have hE' : fs s.E t false u = true := hE
    by_cases c : u = t
    · subst c; rw [fs_same] at hE'; simp at hE'
    · rw [fs_ne c] at hE'
      obtain ⟨a1, a2⟩ := en u hu hE'
      exact ⟨by simp (disch := first | decide | assumption | omega) only [rM, rW, rL, upd_same, upd_tag, upd_num, memC_ne]; exact a1, by simp (disch := first | decide | assumption | omega) only [rM, rW, rL, upd_same, upd_tag, upd_num, memC_ne]; exact a2⟩
  · obtain ⟨a1, a2, a3, a4⟩ := wa u x hu hX
    exact ⟨a1, a2, by simp (disch := first | decide | assumption | omega) only [rM, rW, rL, upd_same, upd_tag, upd_num, memC_ne]; exact a3, by simp (disch := first | decide | assumption | omega) only [rM, rW, rL, upd_same, upd_tag, upd_num, memC_ne]; exact a4⟩
  · refine ⟨fun a b c => ?_, fun u c => ⟨by simp (disch := first | decide | assumption | omega) only [rM, rW, rL, upd_same, upd_tag, upd_num, memC_ne], by simp (disch := first | decide | assumption | omega) only [rM, rW, rL, upd_same, upd_tag, upd_num, memC_ne]⟩, by simp (disch := first | decide | assumption | omega) only [rM, rW, rL, upd_same, upd_tag, upd_num, memC_ne], by simp (disch := first | decide | assumption | omega) only [rM, rW, rL, upd_same, upd_tag, upd_num, memC_ne]⟩
    exact ⟨by simp (disch := first | decide | assumption | omega) only [rM, rW, rL, upd_same, upd_tag, upd_num, memC_ne], by simp (disch := first | decide | assumption | omega) only [rM, rW, rL, upd_same, upd_tag, upd_num, memC_ne]⟩
theorem repF_exit {h : PT ABlk} {n : Nat} {d : Rl → Nat} {C : Rl → Option ABlk} {s : FS} {k t : Nat} (S : St h n d C) (R : RepF s k d C) (hk : k ≤ 90000) (ht : t < 6) (hi : decide (s.N t % 2 = 1) = true) (he : s.E t = false) :
    EvB Tryz.prog OP 23 [pt (d (4, 0)), I6 t, I6 t] h n fun r h' n' => ∃ d' C' pc, r = tup [U8 pc, I6 0] ∧ pc ≠ 0 ∧ St h' n' d' C' ∧ RepF (engF.exit s t) (k + 1) d' C' ∧ Fr d C d' C' t := by
  obtain ⟨⟨L, M⟩, E, num, ev, en, wa⟩ := R
  simp only [decide_eq_true_eq] at hi
  have hnt := num t ht
  have hnl : ∀ f, (nl 6 f).length = 6 := fun f => nl_length
  obtain ⟨kk, r, h', n', e, g, q1, q2, rfl, S'⟩ := fExitB (s := t) (ba := t) (base := 0) (th := t) S E M (by omega) ⟨by omega, by omega⟩ (by omega) ht (nl_get ht) ⟨by omega, by omega⟩ (by rw [tmod_nat, hi]; rfl) (by omega) (by rw [hnl]; exact ht) (by rw [hnl]; omega)
  have hset : (nl 6 s.N).set t ((s.N t : Int) + 1) = nl 6 (fs s.N t (s.N t + 1)) := nl_set (by rw [fs_same]; omega) fun j _ c => fs_ne c
  rw [hset] at S'
  have hM : ∀ C g L', L'.length = (k + 1) * 6 → IsM (upd d rL g) (memC C (d rW) g (nl 6 (fs s.N t (s.N t + 1))) L' (k + 1)) (nl 6 (fs s.N t (s.N t + 1))) L' (k + 1) := fun C g L' hL => IsM.next (k := k) (C := C) (L := L) (W := nl 6 s.N) (by rw [hnl, hnl]) hL
  refine ⟨kk, _, h', n', e, _, _, _, rfl, by decide, S', ⟨⟨_, hM _ _ _ (by rw [List.length_append, M.len]; show _ + 6 = _; omega)⟩, ?_, fun i hi => ?_, fun u hu hE => ?_, fun u hu hE => ?_, fun u x hu hX => ?_⟩, ?_⟩
  · obtain ⟨e1, e2, e3, e4, e5, e6⟩ := E
    exact ⟨by simp (disch := first | decide | assumption | omega) only [rM, rW, rL, upd_same, upd_tag, upd_num, memC_ne]; exact e1, by simp (disch := first | decide | assumption | omega) only [rM, rW, rL, upd_same, upd_tag, upd_num, memC_ne]; exact e2, by simp (disch := first | decide | assumption | omega) only [rM, rW, rL, upd_same, upd_tag, upd_num, memC_ne], by simp (disch := first | decide | assumption | omega) only [rM, rW, rL, upd_same, upd_tag, upd_num, memC_ne]; exact e4, nl_length, e6⟩
  · show fs s.N t (s.N t + 1) i ≤ k + 1
    have := num i hi
    unfold fs; split <;> omega
  · have hE' : s.E u = true := hE
    have c : u ≠ t := fun q => by subst q; rw [he] at hE'; simp at hE'
    show fs s.N t (s.N t + 1) u % 2 = 0; rw [fs_ne c]; exact ev u hu hE'
  · obtain ⟨a1, a2⟩ := en u hu hE
    exact ⟨by simp (disch := first | decide | assumption | omega) only [rM, rW, rL, upd_same, upd_tag, upd_num, memC_ne]; exact a1, by simp (disch := first | decide | assumption | omega) only [rM, rW, rL, upd_same, upd_tag, upd_num, memC_ne]; exact a2⟩
  · obtain ⟨a1, a2, a3, a4⟩ := wa u x hu hX
    exact ⟨a1, a2, by simp (disch := first | decide | assumption | omega) only [rM, rW, rL, upd_same, upd_tag, upd_num, memC_ne]; exact a3, by simp (disch := first | decide | assumption | omega) only [rM, rW, rL, upd_same, upd_tag, upd_num, memC_ne]; exact a4⟩
  · refine ⟨fun a b c => ?_, fun u c => ⟨by simp (disch := first | decide | assumption | omega) only [rM, rW, rL, upd_same, upd_tag, upd_num, memC_ne], by simp (disch := first | decide | assumption | omega) only [rM, rW, rL, upd_same, upd_tag, upd_num, memC_ne]⟩, by simp (disch := first | decide | assumption | omega) only [rM, rW, rL, upd_same, upd_tag, upd_num, memC_ne], by simp (disch := first | decide | assumption | omega) only [rM, rW, rL, upd_same, upd_tag, upd_num, memC_ne]⟩
    exact ⟨by simp (disch := first | decide | assumption | omega) only [rM, rW, rL, upd_same, upd_tag, upd_num, memC_ne], by simp (disch := first | decide | assumption | omega) only [rM, rW, rL, upd_same, upd_tag, upd_num, memC_ne]⟩
theorem repF_wait {h : PT ABlk} {n : Nat} {d : Rl → Nat} {C : Rl → Option ABlk} {s : FS} {k t st : Nat} (S : St h n d C) (R : RepF s k d C) (ht : t < 6) (h0 : st ≠ 0) :
    EvB Tryz.prog OP 25 [pt (d (4, 0)), I6 t, U6 st] h n fun r h' n' => ∃ d' C', r = tup [pt (d' (10, t)), I6 0] ∧ St h' n' d' C' ∧ RepF (engF.wait s t st) k d' C' ∧ Fr d C d' C' t := by
  obtain ⟨⟨L, M⟩, E, num, ev, en, wa⟩ := R
  obtain ⟨kk, r, h', n', e, p, q, q1, q2, q3, rfl, S'⟩ := fWaitB (t := t) (base := 0) (th := t) (set := st) S E ⟨by omega, by omega⟩ (by omega)
  refine ⟨kk, _, h', n', e, _, _, by simp (disch := first | decide | assumption | omega) only [rM, rW, rL, upd_same, upd_tag, upd_num, memC_ne], S', ⟨⟨L, (((M.updC (by omega)).updC (by omega)).updD (by omega)).updD (by omega)⟩, ?_, num, ev, fun u hu hE => ?_, fun u x hu hX => ?_⟩, ?_⟩
  · obtain ⟨e1, e2, e3, e4, e5, e6⟩ := E
    exact ⟨by simp (disch := first | decide | assumption | omega) only [rM, rW, rL, upd_same, upd_tag, upd_num, memC_ne]; exact e1, by simp (disch := first | decide | assumption | omega) only [rM, rW, rL, upd_same, upd_tag, upd_num, memC_ne]; exact e2, by simp (disch := first | decide | assumption | omega) only [rM, rW, rL, upd_same, upd_tag, upd_num, memC_ne]; exact e3, by simp (disch := first | decide | assumption | omega) only [rM, rW, rL, upd_same, upd_tag, upd_num, memC_ne]; exact e4, e5, e6⟩
  · obtain ⟨a1, a2⟩ := en u hu hE
    exact ⟨by simp (disch := first | decide | assumption | omega) only [rM, rW, rL, upd_same, upd_tag, upd_num, memC_ne]; exact a1, by simp (disch := first | decide | assumption | omega) only [rM, rW, rL, upd_same, upd_tag, upd_num, memC_ne]; exact a2⟩
  · have hX' : fs s.X t (some ⟨0, false, 0, false⟩) u = some x := hX
    by_cases c : u = t
    · subst c
      rw [fs_same] at hX'
      obtain rfl := Option.some.inj hX'
      exact ⟨by decide, rfl, by simp (disch := first | decide | assumption | omega) only [rM, rW, rL, upd_same, upd_tag, upd_num, memC_ne], by simp (disch := first | decide | assumption | omega) only [rM, rW, rL, upd_same, upd_tag, upd_num, memC_ne]; rfl⟩
    · rw [fs_ne c] at hX'
      obtain ⟨a1, a2, a3, a4⟩ := wa u x hu hX'
      exact ⟨a1, a2, by simp (disch := first | decide | assumption | omega) only [rM, rW, rL, upd_same, upd_tag, upd_num, memC_ne]; exact a3, by simp (disch := first | decide | assumption | omega) only [rM, rW, rL, upd_same, upd_tag, upd_num, memC_ne]; exact a4⟩
  · refine ⟨fun a b c => ?_, fun u c => ⟨by simp (disch := first | decide | assumption | omega) only [rM, rW, rL, upd_same, upd_tag, upd_num, memC_ne], by simp (disch := first | decide | assumption | omega) only [rM, rW, rL, upd_same, upd_tag, upd_num, memC_ne]⟩, by simp (disch := first | decide | assumption | omega) only [rM, rW, rL, upd_same, upd_tag, upd_num, memC_ne], by simp (disch := first | decide | assumption | omega) only [rM, rW, rL, upd_same, upd_tag, upd_num, memC_ne]⟩
    exact ⟨by simp (disch := first | decide | assumption | omega) only [rM, rW, rL, upd_same, upd_tag, upd_num, memC_ne], by simp (disch := first | decide | assumption | omega) only [rM, rW, rL, upd_same, upd_tag, upd_num, memC_ne]⟩
theorem fw_slot {x : FW} {w : Int} (h : x.slot < 6) (he : (x.step 6 w).ended = false) : (x.step 6 w).slot < 6 := by
  unfold FW.step FW.next at *
  split at he
  · split at he
    · rename_i c1 c2; rw [if_pos c1, if_pos c2]; exact h
    · rename_i c1 c2
      rw [if_pos c1, if_neg c2]
      simp only [decide_eq_false_iff_not] at he
      show x.slot + 1 < 6; omega
  · split at he
    · rename_i c1 c2
      rw [if_neg c1, if_pos c2]
      simp only [decide_eq_false_iff_not] at he
      show x.slot + 1 < 6; omega
    · rename_i c1 c2; rw [if_neg c1, if_neg c2]; exact h
theorem repF_wstep {h : PT ABlk} {n : Nat} {d : Rl → Nat} {C : Rl → Option ABlk} {s : FS} {k t : Nat} (S : St h n d C) (R : RepF s k d C) (hk : k ≤ 90000) (ht : t < 6) (hw : (s.X t).isSome = true) :
    EvB Tryz.prog OP 60 [pt (d (10, t))] h n fun r h' n' => ∃ d' C' pc, r = tup [U8 pc, .bool !engF.wt (engF.wstep s t) t] ∧ St h' n' d' C' ∧ RepF (engF.wstep s t) (k + 1) d' C' ∧ Fr d C d' C' t ∧ d' (10, t) = d (10, t) := by
  obtain ⟨⟨L, M⟩, E, num, ev, en, wa⟩ := R
  obtain ⟨x, hX⟩ := Option.isSome_iff_exists.1 hw
  obtain ⟨a1, a2, a3, a4⟩ := wa t x ht hX
  have hnt := num x.slot a1
  have hnl : ∀ f, (nl 6 f).length = 6 := fun f => nl_length
  obtain ⟨kk, r, h', n', e, g, q1, q2, rfl, S'⟩ := fWStepB (t := t) (ba := x.slot) (base := 0) (th := t) S E M (by omega) ⟨by omega, by omega⟩ (by omega) a1 (by omega) (by rw [hnl]; exact a1) (by rw [hnl]; omega) (nl_getE _) ⟨by omega, by omega⟩ a2 a3 a4
  rw [engF_wstep hX]
  have hM : ∀ C g L', L'.length = (k + 1) * 6 → IsM (upd d rL g) (memC C (d rW) g (nl 6 s.N) L' (k + 1)) (nl 6 s.N) L' (k + 1) := fun C g L' hL => IsM.next (k := k) (C := C) (L := L) (W := nl 6 s.N) rfl hL
  refine ⟨kk, _, h', n', e, _, _, 17, ?_, S', ⟨⟨_, (hM _ _ _ (by rw [List.length_append, M.len]; show _ + 6 = _; omega)).updC (by omega)⟩, ?_, fun i hi => Nat.le_succ_of_le (num i hi), ev, fun u hu hE => ?_, fun u y hu hY => ?_⟩, ?_, by simp (disch := first | decide | assumption | omega) only [rM, rW, rL, upd_same, upd_tag, upd_num, memC_ne]⟩
  · show _ = tup [_, .bool !((fs s.X t _ t).isSome)]
    rw [fs_same]
    cases (x.step 6 (s.N x.slot)).ended <;> rfl
  · obtain ⟨e1, e2, e3, e4, e5, e6⟩ := E
    exact ⟨by simp (disch := first | decide | assumption | omega) only [rM, rW, rL, upd_same, upd_tag, upd_num, memC_ne]; exact e1, by simp (disch := first | decide | assumption | omega) only [rM, rW, rL, upd_same, upd_tag, upd_num, memC_ne]; exact e2, by simp (disch := first | decide | assumption | omega) only [rM, rW, rL, upd_same, upd_tag, upd_num, memC_ne]; exact e3, by simp (disch := first | decide | assumption | omega) only [rM, rW, rL, upd_same, upd_tag, upd_num, memC_ne]; exact e4, e5, e6⟩
  · obtain ⟨a1, a2⟩ := en u hu hE
    exact ⟨by simp (disch := first | decide | assumption | omega) only [rM, rW, rL, upd_same, upd_tag, upd_num, memC_ne]; exact a1, by simp (disch := first | decide | assumption | omega) only [rM, rW, rL, upd_same, upd_tag, upd_num, memC_ne]; exact a2⟩
  · have hY' : fs s.X t _ u = some y := hY
    by_cases c : u = t
    · subst c
      rw [fs_same] at hY'
      cases he : (x.step 6 (s.N x.slot)).ended with
      | true => rw [he, if_pos rfl] at hY'; simp at hY'
      | false =>
        rw [he, if_neg (by simp)] at hY'
        obtain rfl := Option.some.inj hY'
        exact ⟨fw_slot a1 he, he, by simp (disch := first | decide | assumption | omega) only [rM, rW, rL, upd_same, upd_tag, upd_num, memC_ne]; exact a3, by simp (disch := first | decide | assumption | omega) only [rM, rW, rL, upd_same, upd_tag, upd_num, memC_ne]⟩
    · rw [fs_ne c] at hY'
      obtain ⟨a1, a2, a3, a4⟩ := wa u y hu hY'
      exact ⟨a1, a2, by simp (disch := first | decide | assumption | omega) only [rM, rW, rL, upd_same, upd_tag, upd_num, memC_ne]; exact a3, by simp (disch := first | decide | assumption | omega) only [rM, rW, rL, upd_same, upd_tag, upd_num, memC_ne]; exact a4⟩
  · refine ⟨fun a b c => ?_, fun u c => ⟨by simp (disch := first | decide | assumption | omega) only [rM, rW, rL, upd_same, upd_tag, upd_num, memC_ne], by simp (disch := first | decide | assumption | omega) only [rM, rW, rL, upd_same, upd_tag, upd_num, memC_ne]⟩, by simp (disch := first | decide | assumption | omega) only [rM, rW, rL, upd_same, upd_tag, upd_num, memC_ne], by simp (disch := first | decide | assumption | omega) only [rM, rW, rL, upd_same, upd_tag, upd_num, memC_ne]⟩
    exact ⟨by simp (disch := first | decide | assumption | omega) only [rM, rW, rL, upd_same, upd_tag, upd_num, memC_ne], by simp (disch := first | decide | assumption | omega) only [rM, rW, rL, upd_same, upd_tag, upd_num, memC_ne]⟩
set_option maxRecDepth 100000 in
set_option maxHeartbeats 4000000 in
theorem repF_open {h : PT ABlk} {n : Nat} {d : Rl → Nat} {C : Rl → Option ABlk} {s : FS} {k : Nat} (S : St h n d C) (R : RepF s k d C) :
    EvB Tryz.prog OP 14 [pt (d (4, 0))] h n fun r h' n' => n ≤ n' ∧ Kept h h' ∧ WfH h' n' ∧ GrowInts .i64 h' n r (nums (engF.inn s) 6) := by
  obtain ⟨⟨L, M⟩, E, num, ev, en, wa⟩ := R
  have g1 := S.at E.prcu
  have q := fOpenB S E (by omega) (engF.inn s) fun i hi => ⟨_, nl_get hi, by
    show if decide (s.N i % 2 = 1) = true then _ else _
    rw [tmod_nat]
    by_cases c : s.N i % 2 = 1
    · rw [if_pos (by simpa using c), c]; rfl
    · rw [if_neg (by simpa using c)]; omega⟩
  clear E M num ev en wa
  refine EvB_run (N := 10) Tryz.func14 rfl rfl fun z hP hO hro hN hQ => ?_
  repeat' first | simp (maxSteps := 2000000) (disch := first | omega | assumption) only [go_sem, *] | (apply xs <;> intro _) <;> try omega
  refine cal (q) (by simp only [*]) (by simp only [*]) (by simp only [go_sem, *]) (by simp only [go_sem, *]) ?_
  rintro r h2 n2 ⟨r1, r2, r3, r4⟩
  clear q g1
  repeat' first | simp (maxSteps := 2000000) (disch := first | omega | assumption) only [go_sem, *] | (apply xs <;> intro _) <;> try omega
theorem repF_cliC {d : Rl → Nat} {C : Rl → Option ABlk} {s : FS} {k a b : Nat} {B : Option ABlk} (R : RepF s k d C) (ha : a = 3 ∨ a = 14 ∨ 30 ≤ a) : RepF s k d (upd C (a, b) B) := by
  obtain ⟨⟨L, M⟩, ⟨e1, e2, e3, e4, e5, e6⟩, num, ev, en, wa⟩ := R
  refine ⟨⟨L, M.updC (by omega)⟩, ⟨by simp (disch := first | decide | assumption | omega) only [rM, rW, rL, upd_same, upd_tag, upd_num, memC_ne]; exact e1, by simp (disch := first | decide | assumption | omega) only [rM, rW, rL, upd_same, upd_tag, upd_num, memC_ne]; exact e2, by simp (disch := first | decide | assumption | omega) only [rM, rW, rL, upd_same, upd_tag, upd_num, memC_ne]; exact e3, by simp (disch := first | decide | assumption | omega) only [rM, rW, rL, upd_same, upd_tag, upd_num, memC_ne]; exact e4, e5, e6⟩, num, ev, fun u hu hE => ?_, fun u x hu hX => ?_⟩
  · obtain ⟨a1, a2⟩ := en u hu hE
    exact ⟨by simp (disch := first | decide | assumption | omega) only [rM, rW, rL, upd_same, upd_tag, upd_num, memC_ne]; exact a1, by simp (disch := first | decide | assumption | omega) only [rM, rW, rL, upd_same, upd_tag, upd_num, memC_ne]; exact a2⟩
  · obtain ⟨a1, a2, a3, a4⟩ := wa u x hu hX
    exact ⟨a1, a2, by simp (disch := first | decide | assumption | omega) only [rM, rW, rL, upd_same, upd_tag, upd_num, memC_ne]; exact a3, by simp (disch := first | decide | assumption | omega) only [rM, rW, rL, upd_same, upd_tag, upd_num, memC_ne]; exact a4⟩
theorem repF_cliD {d : Rl → Nat} {C : Rl → Option ABlk} {s : FS} {k a b i : Nat} (R : RepF s k d C) (ha : a = 3 ∨ a = 14 ∨ 30 ≤ a) : RepF s k (upd d (a, b) i) C := by
  obtain ⟨⟨L, M⟩, ⟨e1, e2, e3, e4, e5, e6⟩, num, ev, en, wa⟩ := R
  refine ⟨⟨L, M.updD (by omega)⟩, ⟨by simp (disch := first | decide | assumption | omega) only [rM, rW, rL, upd_same, upd_tag, upd_num, memC_ne]; exact e1, by simp (disch := first | decide | assumption | omega) only [rM, rW, rL, upd_same, upd_tag, upd_num, memC_ne]; exact e2, e3, e4, e5, e6⟩, num, ev, fun u hu hE => ?_, fun u x hu hX => ?_⟩
  · obtain ⟨a1, a2⟩ := en u hu hE
    exact ⟨by simp (disch := first | decide | assumption | omega) only [rM, rW, rL, upd_same, upd_tag, upd_num, memC_ne]; exact a1, by simp (disch := first | decide | assumption | omega) only [rM, rW, rL, upd_same, upd_tag, upd_num, memC_ne]; exact a2⟩
  · obtain ⟨a1, a2, a3, a4⟩ := wa u x hu hX
    exact ⟨a1, a2, by simp (disch := first | decide | assumption | omega) only [rM, rW, rL, upd_same, upd_tag, upd_num, memC_ne]; exact a3, by simp (disch := first | decide | assumption | omega) only [rM, rW, rL, upd_same, upd_tag, upd_num, memC_ne]; exact a4⟩
theorem faceF : Face engF RepF := ⟨fun S R hk ht hv he hi hw => repF_enter S R ht hv he hi, fun S R hk ht he hi => repF_estep S R hk ht he, fun S R hk ht hi he => repF_exit S R hk ht hi he, fun S R hk ht h0 h1 hw => repF_wait S R ht h0, fun S R hk ht hw => repF_wstep S R hk ht hw, repF_cliC, repF_cliD, fun S R => repF_open S R⟩
end Go.Proofs.YtlnglgpipkmiaaaGreat
