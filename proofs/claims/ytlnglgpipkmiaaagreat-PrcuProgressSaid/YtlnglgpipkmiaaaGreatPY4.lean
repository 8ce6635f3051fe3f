/-
  A part of the proof: contracts of inner functions.
-/
import Derived.Test.YtlnglgpipkmiaaaGreatPX2
import Derived.Test.YtlnglgpipkmiaaaGreatPY2
import Derived.Test.YtlnglgpipkmiaaaGreatPQ0
set_option linter.unusedVariables false
set_option linter.unusedSimpArgs false
namespace Go.Proofs.YtlnglgpipkmiaaaGreat
open Go.Am
variable {O : Over}
theorem take_eq_succ {xs ys : List Int} {i : Nat} (h1 : i < xs.length) (h2 : i < ys.length) (h : xs.take i = ys.take i) (e : xs.getD i 0 = ys.getD i 0) : xs.take (i + 1) = ys.take (i + 1) := by
  rw [List.take_add_one, List.take_add_one, h]
  simp [List.getD, h1, h2] at e
  simp [h1, h2, e]
theorem fresh_no (n a : Nat) : (n.ble a && a.blt n) = false := by
  cases h : n.ble a
  · rfl
  · have := Nat.le_of_ble_eq_true h
    cases h2 : a.blt n
    · rfl
    · have := Nat.le_of_ble_eq_true h2
      omega
theorem getD_ne {xs ys : List Int} {i : Nat} (e : ¬ xs.getD i 0 = ys.getD i 0) : ¬ xs = ys := fun h => e (by rw [h])
set_option maxRecDepth 100000 in
set_option maxHeartbeats 4000000 in
theorem equalInts (xs ys : List Int) (s t : Value) (h : PT ABlk) (n : Nat) (hs : IsInts .i64 h s xs) (ht : IsInts .i64 h t ys) (hl : xs.length < 1000000) (hl2 : ys.length < 1000000) :
    EvB Tryz.prog O 13 [s, t] h n fun v h' n' => v = .bool (decide (xs = ys)) ∧ h' = h ∧ n' = n := by
  obtain ⟨a, cap, rfl, hA⟩ := hs.len
  obtain ⟨b, cap2, rfl, hB⟩ := ht.len
  clear hs ht
  refine EvB_run (N := 26) Tryz.func13 rfl rfl fun z hP hO hro hN hQ => ?_
  by_cases hlen : xs.length = ys.length
  · have hle1 : (xs.length : Int) = ys.length := by omega
    repeat' first | simp (maxSteps := 2000000) (disch := first | omega | assumption) only [go_sem, *] | (apply xs <;> intro _) <;> try omega | ((with_reducible refine isD 6 ?_); refine dw 26 6 w13_6 (by first | (simp only [go_sem, *]; done) | rfl) (by kernel_rfl) (by kernel_rfl) ?_)
    refine ind_loop (fun t m h' n' => h' = h ∧ n' = n ∧ ∃ i : Nat, i ≤ xs.length ∧ t = xs.length - i ∧ xs.take i = ys.take i ∧ m.n = 26 ∧ m.dfs = [] ∧ m.get 0 = .slice a xs.length cap ∧ m.get 1 = .slice b ys.length cap2 ∧ m.get 5 = .int .i64 i) xs.length ?_ ?_
    · refine ⟨rfl, rfl, 0, by omega, by omega, rfl, ?_⟩
      simp (maxSteps := 2000000) (disch := first | omega | assumption) only [go_sem, *]
    · rintro t m h n ih ⟨rfl, rfl, i, hi, rfl, htk, m1, m2, m3, m4, m5⟩
      rcases Nat.lt_or_ge i xs.length with hlt | hge
      · obtain ⟨bk, off, sp, L, ro, rfl, hb, hL⟩ := hA i hlt
        obtain ⟨bk2, off2, sp2, L2, ro2, rfl, hb2, hL2⟩ := hB i (by omega)
        have e1 : (i : Int) < xs.length := by omega
        have e2 : (i : Int) < ys.length := by omega
        clear hA hB
        by_cases e3 : xs.getD i 0 = ys.getD i 0
        · rw [e3] at hL
          have htk' := take_eq_succ hlt (by omega) htk e3
          repeat' first | simp (maxSteps := 2000000) (disch := first | omega | assumption) only [go_sem, *, fresh_no] | (apply xs <;> intro _) <;> try omega | ((with_reducible refine isD 6 ?_); refine dw 26 6 w13_6 (by first | (simp only [go_sem, *]; done) | rfl) (by kernel_rfl) (by kernel_rfl) ?_)
          refine ih (xs.length - (i + 1)) _ _ _ (by omega) ⟨rfl, rfl, i + 1, by omega, by omega, htk', ?_⟩
          simp (maxSteps := 2000000) (disch := first | omega | assumption) only [go_sem, *]
          simp
        · have hxy := getD_ne e3
          repeat' first | simp (maxSteps := 2000000) (disch := first | omega | assumption) only [go_sem, *, fresh_no] | (apply xs <;> intro _) <;> try omega | ((with_reducible refine isD 6 ?_); refine dw 26 6 w13_6 (by first | (simp only [go_sem, *]; done) | rfl) (by kernel_rfl) (by kernel_rfl) ?_)
      · have e1 : ¬ (i : Int) < xs.length := by omega
        have e2 : ¬ (i : Int) < ys.length := by omega
        have hxy : xs = ys := by
          have := htk
          rwa [List.take_of_length_le hge, List.take_of_length_le (by omega)] at this
        repeat' first | simp (maxSteps := 2000000) (disch := first | omega | assumption) only [go_sem, *] | (apply xs <;> intro _) <;> try omega | ((with_reducible refine isD 6 ?_); refine dw 26 6 w13_6 (by first | (simp only [go_sem, *]; done) | rfl) (by kernel_rfl) (by kernel_rfl) ?_)
  · have hle1 : ¬ (xs.length : Int) = ys.length := by omega
    have hxy : ¬ xs = ys := fun e => hlen (by rw [e])
    repeat' first | simp (maxSteps := 2000000) (disch := first | omega | assumption) only [go_sem, *] | (apply xs <;> intro _) <;> try omega | ((with_reducible refine isD 6 ?_); refine dw 26 6 w13_6 (by first | (simp only [go_sem, *]; done) | rfl) (by kernel_rfl) (by kernel_rfl) ?_)
end Go.Proofs.YtlnglgpipkmiaaaGreat
set_option linter.unusedVariables false
set_option linter.unusedSimpArgs false
namespace Go.Proofs.YtlnglgpipkmiaaaGreat
open Go.Am
variable {e : Eng} {rep : e.σ → Nat → (Rl → Nat) → (Rl → Option ABlk) → Prop}
theorem good_J {hasv : e.σ → Nat → Nat → Prop} {guard : e.σ → Nat → Nat → Prop} (G : e.Grace hasv guard) (c : CS e) (t w v st : Nat) (j : c.J hasv guard) (ht : t < 6) (hv : v < 64) (hs0 : st ≠ 0) (hs1 : st < 2 ^ 64) : Good c t w v st ∧ (c.act t w v st).J hasv guard := by
  refine ⟨⟨j.one, fun i _ => (j.val i).1, fun hw => (j.waitP G hw).2, fun he hw hi => ((j.begW G (st := st) hs1 he hi hw).waitP G (show e.wt (e.wait c.s t st) t = true from by rw [(G.fits.wait c.s t st).2.2, if_pos rfl])).2⟩, ?_⟩
  unfold CS.act
  cases he : e.ent c.s t with
  | true => rw [if_pos rfl]; exact j.enterP G he
  | false =>
    rw [if_neg (by simp)]
    cases hw : e.wt c.s t with
    | true => rw [if_pos rfl]; exact (j.waitP G hw).1
    | false =>
      rw [if_neg (by simp)]
      cases hi : e.inn c.s t with
      | true =>
        rw [if_pos rfl]
        split
        · exact j
        · exact j.exit G hi
      | false =>
        rw [if_neg (by simp)]
        split
        · exact (j.begE G hv he hi hw).enterP G (show e.ent (e.enter c.s t v) t = true from by rw [(G.fits.enter c.s t v hi).1, if_pos rfl])
        · exact ((j.begW G hs1 he hi hw).waitP G (show e.wt (e.wait c.s t st) t = true from by rw [(G.fits.wait c.s t st).2.2, if_pos rfl])).1
theorem new_J {hasv : e.σ → Nat → Nat → Prop} {guard : e.σ → Nat → Nat → Prop} {s : e.σ} (h : ∀ t, e.ent s t = false ∧ e.inn s t = false ∧ e.wt s t = false) : (CS.new s).J hasv guard := by
  have h1 : ∀ t, e.ent (CS.new s).s t = false := fun t => (h t).1
  have h2 : ∀ t, e.inn (CS.new s).s t = false := fun t => (h t).2.1
  have h3 : ∀ t, e.wt (CS.new s).s t = false := fun t => (h t).2.2
  refine ⟨fun t => ⟨fun q => by rw [h1] at q; simp at q, fun q => by rw [h2] at q; simp at q⟩, fun i => ⟨by show 0 < 64; omega, fun q => ?_⟩, fun t m i q => by simp [CS.new] at q, fun t m i q => by rw [h3] at q; simp at q⟩
  rw [h1, h2] at q; simp at q
set_option maxRecDepth 100000 in
set_option maxHeartbeats 2000000 in
theorem graceL (F : Face e rep) (fit : e.Fits) (I : CS e → Prop) (hI : ∀ c t w v st, I c → t < 6 → v < 64 → st ≠ 0 → st < 2 ^ 64 → Good c t w v st ∧ I (c.act t w v st)) {h : PT ABlk} {n : Nat} {d : Rl → Nat} {C : Rl → Option ABlk} {c : CS e} {s : Value} {A : List (List Int)} (S : St h n d C) (i0 : I c) (hA : IsActs d C s A) {x y : Nat} {j : Nat} (hj : x % 3 = j)
    (hb : EvB Tryz.prog OP 7 [U8 (1 + j : Nat), I6 (1 + y % 6 : Nat)] h n fun r h' n' => ∃ d' C', r = pt (d' (3, 0)) ∧ St h' n' d' C' ∧ RepC rep c 0 d' C' ∧ ∀ b, d' (30, b) = d (30, b) ∧ C' (30, b) = C (30, b)) :
    EvB Tryz.prog OP 4 [U8 x, U8 y, s] h n fun r h' n' => r = .bool true := by
  obtain ⟨ok, hA'⟩ := hA
  obtain ⟨x0, cap, hs⟩ : ∃ x0 cap, s = .slice x0 A.length cap := by
    rcases hA' with ⟨rfl, rfl⟩ | ⟨cap, rfl, _⟩
    · exact ⟨_, _, rfl⟩
    · exact ⟨_, _, rfl⟩
  have hx : (x : Int).tmod 3 = (j : Int) := by rw [← hj]; rfl
  have hy : (y : Int).tmod 6 = ((y % 6 : Nat) : Int) := rfl
  have hj3 : j < 3 := by rw [← hj]; exact Nat.mod_lt _ (by decide)
  have hy6 : y % 6 < 6 := Nat.mod_lt _ (by decide)
  generalize y % 6 = y6 at *
  have e1 : (1 : Int) + (j : Int) = ((1 + j : Nat) : Int) := by omega
  have e2 : (1 : Int) + (y6 : Int) = ((1 + y6 : Nat) : Int) := by omega
  refine EvB_run (N := 53) Tryz.func4 rfl rfl fun z hP hO hro hN hQ => ?_
  by_cases hl : (400 : Int) < A.length
  · repeat' first | simp (maxSteps := 2000000) (disch := first | omega | assumption) only [go_sem, *] | (apply xs <;> intro _) <;> try omega | refine fun (_ _ : List Nat) => ?_ | (first | refine inQ Tryz.func6 rfl ?_ ?_ ?_ ?_ | fail) <;> intros
  · have hl' : A.length ≤ 400 := by omega
    clear hj
    repeat' first | simp (maxSteps := 2000000) (disch := first | omega | assumption) only [go_sem, *] | (apply xs <;> intro _) <;> try omega | refine fun (_ _ : List Nat) => ?_ | (first | refine inQ Tryz.func6 rfl ?_ ?_ ?_ ?_ | fail) <;> intros
    refine cal (hb) (by simp only [*]) (by simp only [*]) (by simp only [go_sem, *]) (by simp only [go_sem, *]) ?_
    rintro r h2 n2 ⟨d1, C1, rfl, S1, R1, k1⟩
    clear hb
    have hA1 : IsActs d1 C1 s A := by
      refine ⟨ok, ?_⟩
      rw [(k1 0).1, (k1 0).2]; exact hA'
    rw [hs] at hA1
    have pl := playL F fit I hI S1 R1 i0 hA1 hl'
    repeat' first | simp (maxSteps := 2000000) (disch := first | omega | assumption) only [go_sem, *] | (apply xs <;> intro _) <;> try omega | refine fun (_ _ : List Nat) => ?_ | (first | refine inQ Tryz.func6 rfl ?_ ?_ ?_ ?_ | fail) <;> intros
    refine cal (pl) (by simp only [*]) (by simp only [*]) (by simp only [go_sem, *]) (by simp only [go_sem, *]) ?_
    rintro r h3 n3 ⟨rfl, c2, k2, i2, hk2, d2, C2, S2, R2, cl2⟩
    have g3 := S2.at R2.run
    rw [cl2.run] at g3
    have W2 := S2.wf
    clear pl
    repeat' first | simp (maxSteps := 2000000) (disch := first | omega | assumption) only [go_sem, *] | (apply xs <;> intro _) <;> try omega | refine fun (_ _ : List Nat) => ?_ | (first | refine inQ Tryz.func6 rfl ?_ ?_ ?_ ?_ | fail) <;> intros
    refine ind_loop (fun tt m h' n' => ∃ (i : Nat) (sl : Value), i + tt = 6 ∧ m.n = 53 ∧ m.dfs = [] ∧ m.get 7 = pt (d1 (3, 0)) ∧ m.get 9 = I6 i ∧ m.get 8 = sl ∧ Kept h3 h' ∧ WfH h' n' ∧ n3 ≤ n' ∧ GrowInts .i64 h' n3 sl (nums (e.inn c2.s) i)) 6 ?_ ?_
    · refine ⟨0, .slice none 0 0, by omega, ?_⟩
      simp (maxSteps := 2000000) (disch := first | omega | assumption) only [go_sem, *]
      exact ⟨Kept.refl _, Nat.le_refl _, .inl ⟨rfl, rfl⟩⟩
    · rintro tt m h4 n4 ih ⟨i, sl, hit, m1, m2, m3, m4, m5, q1, q2, q3, q5⟩
      have q6 := q1 _ _ g3
      by_cases hi : i = 6
      · subst hi
        have op := F.openB (S2.kept q1 q2) R2.rep
        have fp : cell d2 c2 1 = pt (d2 (4, 0)) := rfl
        clear ih g3 S1 R1 R2 S2 hI
        repeat' first | simp (maxSteps := 2000000) (disch := first | omega | assumption) only [go_sem, *] | (apply xs <;> intro _) <;> try omega | refine fun (_ _ : List Nat) => ?_ | (first | refine inQ Tryz.func6 rfl ?_ ?_ ?_ ?_ | fail) <;> intros
        refine cal (op) (by simp only [*]) (by simp only [*]) (by simp only [go_sem, *]) (by simp only [go_sem, *]) ?_
        rintro r h5 n5 ⟨r1, r2, r3, r4⟩
        have eq := equalInts (O := OP) _ _ r sl h5 n5 r4.isInts (growKept r2 q5).isInts (Nat.lt_of_le_of_lt nums_len (by omega)) (Nat.lt_of_le_of_lt nums_len (by omega))
        rw [decide_eq_true rfl] at eq
        clear op q1 q2 q6 q5
        repeat' first | simp (maxSteps := 2000000) (disch := first | omega | assumption) only [go_sem, *] | (apply xs <;> intro _) <;> try omega | refine fun (_ _ : List Nat) => ?_ | (first | refine inQ Tryz.func6 rfl ?_ ?_ ?_ ?_ | fail) <;> intros
        refine cal (eq) (by simp only [*]) (by simp only [*]) (by simp only [go_sem, *]) (by simp only [go_sem, *]) ?_
        rintro r h6 n6 ⟨rfl, rfl, rfl⟩
        clear eq
        repeat' first | simp (maxSteps := 2000000) (disch := first | omega | assumption) only [go_sem, *, trueS] | (apply xs <;> intro _) <;> try omega | refine fun (_ _ : List Nat) => ?_ | (first | refine inQ Tryz.func6 rfl ?_ ?_ ?_ ?_ | fail) <;> intros
      · have hlt : (i : Int) < 6 := by omega
        have hb1 : ((i + 1 : Nat) : Int) = (i : Int) + 1 := by omega
        have hXl := nums_len (p := e.inn c2.s) (n := i)
        clear g3 S1 R1 R2 S2 hI F fit i2 i0
        cases hc : e.inn c2.s i with
        | false =>
          have hout := nums_out hc
          generalize nums (e.inn c2.s) i = X at *
          repeat' first | simp (maxSteps := 2000000) (disch := first | omega | assumption) only [go_sem, *] | (apply xs <;> intro _) <;> try omega | refine fun (_ _ : List Nat) => ?_ | (first | refine inQ Tryz.func6 rfl ?_ ?_ ?_ ?_ | fail) <;> intros
          refine ih (6 - (i + 1)) _ _ _ (by omega) ⟨i + 1, sl, by omega, ?_⟩
          rw [hb1, hout]
          simp (maxSteps := 2000000) (disch := first | omega | assumption) only [go_sem, *]
        | true =>
          have hin := nums_in hc
          generalize nums (e.inn c2.s) i = X at *
          rcases q5 with ⟨rfl, rfl⟩ | ⟨g', rfl, w2, w3⟩
          · repeat' first | simp (maxSteps := 2000000) (disch := first | omega | assumption) only [go_sem, *] | (apply xs <;> intro _) <;> try omega | refine fun (_ _ : List Nat) => ?_ | (first | refine inQ Tryz.func6 rfl ?_ ?_ ?_ ?_ | fail) <;> intros
            refine ih (6 - (i + 1)) _ _ _ (by omega) ⟨i + 1, .slice (some ⟨n4 + 1, 0, none⟩) 1 (capInf + 1), by omega, by simp (maxSteps := 2000000) (disch := first | omega | assumption) only [go_sem, *], by simp (maxSteps := 2000000) (disch := first | omega | assumption) only [go_sem, *], by simp (maxSteps := 2000000) (disch := first | omega | assumption) only [go_sem, *], by rw [hb1]; simp (maxSteps := 2000000) (disch := first | omega | assumption) only [go_sem, *], by simp (maxSteps := 2000000) (disch := first | omega | assumption) only [go_sem, *], ?_, ?_, by omega, ?_⟩
            · repeat refine Kept.set' W2 (by omega) ?_
              exact q1
            · repeat refine WfH.set' (by omega) ?_
              exact q2.mono (by omega)
            · rw [hin]
              exact .inr ⟨n4 + 1, rfl, by omega, by simp (disch := omega) only [heap_ne, heap_same]; rfl⟩
          · have hgn := q2.lt w3
            have htk : List.take X.length (X.map (Value.int .i64)) = X.map (.int .i64) := take_map_self
            have hmX : (X.map (Value.int .i64)).length = X.length := List.length_map _
            have hble : Nat.ble (X.length + 1) 1048576 = true := Nat.ble_eq_true_of_le (by omega)
            have hsn : X.map (Value.int .i64) ++ [.int .i64 (i : Int)] = (X ++ [(i : Int)]).map (.int .i64) := by simp
            repeat' first | simp (maxSteps := 2000000) (disch := first | omega | assumption) only [go_sem, *] | (apply xs <;> intro _) <;> try omega | refine fun (_ _ : List Nat) => ?_ | (first | refine inQ Tryz.func6 rfl ?_ ?_ ?_ ?_ | fail) <;> intros
            refine ih (6 - (i + 1)) _ _ _ (by omega) ⟨i + 1, .slice (some ⟨n4 + 1, 0, none⟩) (X.length + 1) (capInf + 1), by omega, by simp (maxSteps := 2000000) (disch := first | omega | assumption) only [go_sem, *], by simp (maxSteps := 2000000) (disch := first | omega | assumption) only [go_sem, *], by simp (maxSteps := 2000000) (disch := first | omega | assumption) only [go_sem, *], by rw [hb1]; simp (maxSteps := 2000000) (disch := first | omega | assumption) only [go_sem, *], by simp (maxSteps := 2000000) (disch := first | omega | assumption) only [go_sem, *], ?_, ?_, by omega, ?_⟩
            · repeat refine Kept.set' W2 (by omega) ?_
              exact q1
            · repeat refine WfH.set' (by omega) ?_
              exact q2.mono (by omega)
            · rw [hin]
              exact .inr ⟨n4 + 1, by simp, by omega, by simp (disch := omega) only [heap_ne, heap_same]⟩
end Go.Proofs.YtlnglgpipkmiaaaGreat
set_option linter.unusedVariables false
set_option linter.unusedSimpArgs false
namespace Go.Proofs.YtlnglgpipkmiaaaGreat
open Go.Am
theorem start {h : PT ABlk} {N q : Nat} {s : Value} {A : List (List Int)} (hW : WfH h N) (hs : IsRows ksA h q s A) : ∃ d C, St h N d C ∧ IsActs d C s A ∧ C (20, 0) = none := by
  obtain ⟨ok, e | ⟨cap, e1, e2, e3, e4⟩⟩ := hs
  · exact ⟨_, _, St.none (fun _ => 0) hW, ⟨ok, .inl e⟩, rfl⟩
  · exact ⟨_, _, St.one (30, 0) hW e4, ⟨ok, .inr ⟨cap, e1, upd_same⟩⟩, upd_tag (by decide)⟩
theorem grace (x y : Nat) (s : Value) (A : List (List Int)) (q : Nat) (h : PT ABlk) (N : Nat) (hW : WfH h N) (hs : IsRows ksA h q s A) :
    EvB Tryz.prog OP 4 [U8 x, U8 y, s] h N fun v h' n' => v = .bool true := by
  obtain ⟨d, C, S, hA, hsc⟩ := start hW hs
  have hj : x % 3 = 0 ∨ x % 3 = 1 ∨ x % 3 = 2 := by omega
  rcases hj with hj | hj | hj
  · exact graceL faceF engF_fits _ (fun c t w v st j h1 h2 h3 h4 => good_J graceF c t w v st j h1 h2 h3 h4) (c := CS.new FS.new) S (new_J fun t => ⟨rfl, rfl, rfl⟩) hA hj (beginF (nb := ((1 + y % 6 : Nat) : Int)) S)
  · exact graceL faceE engE_fits _ (fun c t w v st j h1 h2 h3 h4 => good_J graceE c t w v st j h1 h2 h3 h4) (c := CS.new ES.new) S (new_J fun t => ⟨rfl, rfl, rfl⟩) hA hj (beginE (nb := ((1 + y % 6 : Nat) : Int)) S)
  · exact graceL (faceG (1 + y % 6)) (engG_fits _) _ (fun c t w v st j h1 h2 h3 h4 => good_J (graceG (by omega)) c t w v st j h1 h2 h3 h4) (c := CS.new GS.new) S (new_J fun t => ⟨rfl, rfl, rfl⟩) hA hj (beginG S (by omega) hsc)
end Go.Proofs.YtlnglgpipkmiaaaGreat
