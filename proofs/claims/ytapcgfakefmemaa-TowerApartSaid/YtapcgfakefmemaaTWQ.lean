/-
  A part of the proof: contracts of inner functions.
-/
import Derived.Test.YtapcgfakefmemaaTWO
set_option linter.unusedVariables false
set_option linter.unusedSimpArgs false
namespace Go.Proofs.Ytapcgfakefmemaa
open Go.Am
section
variable {O : Over}
theorem take_eq_succ {xs ys : List Int} {i : Nat} (h1 : i < xs.length) (h2 : i < ys.length) (h : xs.take i = ys.take i) (e : xs.getD i 0 = ys.getD i 0) : xs.take (i + 1) = ys.take (i + 1) := by
  rw [List.take_add_one, List.take_add_one, h]
  simp [List.getD, h1, h2] at e
  simp [h1, h2, e]
theorem fresh_no (n a : Nat) : (n.ble a && a.blt n) = false := by
  cases h : n.ble a
  · rfl
  · have := Nat.le_of_ble_eq_true h
    cases h2 : a.blt n
    · rfl
    · have := Nat.le_of_ble_eq_true h2
      omega
theorem getD_ne {xs ys : List Int} {i : Nat} (e : ¬ xs.getD i 0 = ys.getD i 0) : ¬ xs = ys := fun h => e (by rw [h])
set_option maxRecDepth 100000 in
set_option maxHeartbeats 4000000 in
theorem equalInts (xs ys : List Int) (s t : Value) (h : PT ABlk) (n : Nat) (hs : IsInts .i64 h s xs) (ht : IsInts .i64 h t ys) (hl : xs.length < 1000000) (hl2 : ys.length < 1000000) :
    EvB Try.prog O 42 [s, t] h n fun v h' n' => v = .bool (decide (xs = ys)) ∧ h' = h ∧ n' = n := by
  obtain ⟨a, cap, rfl, hA⟩ := hs.len
  obtain ⟨b, cap2, rfl, hB⟩ := ht.len
  clear hs ht
  refine EvB_run (N := 26) Try.func42 rfl rfl ?_
  intro z hP hO hro hN hQ
  by_cases hlen : xs.length = ys.length
  · have hle1 : (xs.length : Int) = ys.length := by omega
    repeat' first | simp (maxSteps := 2000000) (disch := omega) only [go_sem, *, Try.results42] | (first | apply xg1 | apply xc1 | apply xg2 | apply xc2 | apply xc3 | apply xc4 | apply xg3 | apply xg4) <;> intro _ | (first | apply xh1 | apply xh2 | apply xh3 | apply xh4) <;> intro _ | refine EvK_draw (id := 6) (L := w42_6) (by kernel_rfl) (by kernel_rfl) ?_
    refine ind_loop (fun t m h' n' => h' = h ∧ n' = n ∧ ∃ i : Nat, i ≤ xs.length ∧ t = xs.length - i ∧ xs.take i = ys.take i ∧ m.n = 26 ∧ m.dfs = [] ∧ m.get 0 = .slice a xs.length cap ∧ m.get 1 = .slice b ys.length cap2 ∧ m.get 5 = .int .i64 i) xs.length ?_ ?_
    · refine ⟨rfl, rfl, 0, by omega, by omega, rfl, ?_⟩
      simp (maxSteps := 2000000) (disch := omega) only [go_sem, *]
    · rintro t m h n ih ⟨rfl, rfl, i, hi, rfl, htk, m1, m2, m3, m4, m5⟩
      rcases Nat.lt_or_ge i xs.length with hlt | hge
      · obtain ⟨bk, off, sp, L, ro, rfl, hb, hL⟩ := hA i hlt
        obtain ⟨bk2, off2, sp2, L2, ro2, rfl, hb2, hL2⟩ := hB i (by omega)
        have e1 : (i : Int) < xs.length := by omega
        have e2 : (i : Int) < ys.length := by omega
        clear hA hB
        by_cases e3 : xs.getD i 0 = ys.getD i 0
        · rw [e3] at hL
          have htk' := take_eq_succ hlt (by omega) htk e3
          repeat' first | simp (maxSteps := 2000000) (disch := omega) only [go_sem, *, Try.results42, fresh_no] | (first | apply xg1 | apply xc1 | apply xg2 | apply xc2 | apply xc3 | apply xc4 | apply xg3 | apply xg4) <;> intro _ | (first | apply xh1 | apply xh2 | apply xh3 | apply xh4) <;> intro _ | refine EvK_draw (id := 6) (L := w42_6) (by kernel_rfl) (by kernel_rfl) ?_
          refine ih (xs.length - (i + 1)) _ _ _ (by omega) ⟨rfl, rfl, i + 1, by omega, by omega, htk', ?_⟩
          simp (maxSteps := 2000000) (disch := omega) only [go_sem, *]
          simp
        · have hxy := getD_ne e3
          repeat' first | simp (maxSteps := 2000000) (disch := omega) only [go_sem, *, Try.results42, fresh_no] | (first | apply xg1 | apply xc1 | apply xg2 | apply xc2 | apply xc3 | apply xc4 | apply xg3 | apply xg4) <;> intro _ | (first | apply xh1 | apply xh2 | apply xh3 | apply xh4) <;> intro _ | refine EvK_draw (id := 6) (L := w42_6) (by kernel_rfl) (by kernel_rfl) ?_
      · have e1 : ¬ (i : Int) < xs.length := by omega
        have e2 : ¬ (i : Int) < ys.length := by omega
        have hxy : xs = ys := by
          have := htk
          rwa [List.take_of_length_le hge, List.take_of_length_le (by omega)] at this
        repeat' first | simp (maxSteps := 2000000) (disch := omega) only [go_sem, *, Try.results42] | (first | apply xg1 | apply xc1 | apply xg2 | apply xc2 | apply xc3 | apply xc4 | apply xg3 | apply xg4) <;> intro _ | (first | apply xh1 | apply xh2 | apply xh3 | apply xh4) <;> intro _ | refine EvK_draw (id := 6) (L := w42_6) (by kernel_rfl) (by kernel_rfl) ?_
  · have hle1 : ¬ (xs.length : Int) = ys.length := by omega
    have hxy : ¬ xs = ys := fun e => hlen (by rw [e])
    repeat' first | simp (maxSteps := 2000000) (disch := omega) only [go_sem, *, Try.results42] | (first | apply xg1 | apply xc1 | apply xg2 | apply xc2 | apply xc3 | apply xc4 | apply xg3 | apply xg4) <;> intro _ | (first | apply xh1 | apply xh2 | apply xh3 | apply xh4) <;> intro _ | refine EvK_draw (id := 6) (L := w42_6) (by kernel_rfl) (by kernel_rfl) ?_
end
theorem tow_ok {n m0 m1 m2 m3 m4 m5 : Int} (hn : 1 ≤ n ∧ n ≤ 4) (h0 : 0 ≤ m0 ∧ m0 ≤ 12) (h1 : 0 ≤ m1 ∧ m1 ≤ 12) (h2 : 0 ≤ m2 ∧ m2 ≤ 12) (h3 : 0 ≤ m3 ∧ m3 ≤ 12) (h4 : 0 ≤ m4 ∧ m4 ≤ 12) (h5 : 0 ≤ m5 ∧ m5 ≤ 12) : cfgOk 4 2 1 0 2 n m0 m1 m2 m3 m4 m5 2 3 0 [] = true := by
  have hd : domOk 2 n [] = true := by
    have : n = 1 ∨ n = 2 ∨ n = 3 ∨ n = 4 := by omega
    rcases this with rfl | rfl | rfl | rfl <;> decide
  unfold cfgOk
  rw [hd]
  simp (disch := omega) only [decide_eq_true, decide_eq_false, Bool.or_self, Bool.not_false, Bool.and_self, Bool.or_false, Bool.false_or]
  simp
theorem tow_count {n : Int} (hn : 1 ≤ n ∧ n ≤ 4) : domCount 2 n [] = n := by
  have : n = 1 ∨ n = 2 ∨ n = 3 ∨ n = 4 := by omega
  rcases this with rfl | rfl | rfl | rfl <;> decide
theorem chain_length (l : LayV) (W : List Int) (lv : Int) : ∀ (f : Nat) (S : List Bool) (r : Int), (chain l W lv f S r).length ≤ f
  | 0, _, _ => by simp [chain]
  | f + 1, S, r => by
    rw [chain]
    split
    · have := chain_length l W lv f (S.set r.toNat true) (aft l W r lv)
      simp only [List.length_cons]; omega
    · simp
theorem lst_length (l : LayV) (W : List Int) (v lv : Int) : (lst l W v lv).length ≤ l.H.length + 1 := chain_length ..
theorem chain_length' (l : LayV) (W : List Int) (v : Nat) : (lst l W v 0).length ≤ l.H.length + 1 := lst_length ..
def Goes (l : LayV) (lv : Int) (seen : List Int) (x : Int) : Prop := x ≠ 0 ∧ lv < hgtA l.H x ∧ ¬ x ∈ seen
def Walks (l : LayV) (W : List Int) (lv : Int) : List Int → Int → List Int → Prop
  | seen, p, [] => ¬ Goes l lv seen (aft l W p lv)
  | seen, p, c :: C => aft l W p lv = c ∧ Goes l lv seen c ∧ Walks l W lv (seen ++ [c]) c C
theorem all_true_of_count {S : List Bool} (h : S.count false = 0) (k : Nat) : S.getD k true = true := by
  cases hk : S[k]? with
  | none => simp [List.getD, hk]
  | some b =>
    cases b with
    | true => simp [List.getD, hk]
    | false =>
      have := List.count_pos_iff.2 (List.mem_of_getElem? hk)
      omega
theorem walks_chain {l : LayV} {W : List Int} {lv : Int} (hu : ∀ x ∈ W, 0 ≤ x ∧ x < 18446744073709551616) : ∀ (f : Nat) (S : List Bool) (r p : Int) (seen : List Int), aft l W p lv = r → S.length = l.H.length + 1 → S.count false ≤ f → (∀ x : Int, 0 ≤ x → x ≤ l.H.length → (S.getD x.toNat true = false ↔ ¬ x ∈ seen)) → Walks l W lv seen p (chain l W lv f S r)
  | 0, S, r, p, seen, hr, hS, hc, hv => by
    show ¬ Goes l lv seen (aft l W p lv)
    obtain ⟨r0, r1⟩ := @aft_range l W p lv hu
    rw [hr] at r0 r1 ⊢
    intro hg
    have := (hv r r0 r1).2 hg.2.2
    rw [all_true_of_count (by omega)] at this
    simp at this
  | f + 1, S, r, p, seen, hr, hS, hc, hv => by
    obtain ⟨r0, r1⟩ := @aft_range l W p lv hu
    rw [hr] at r0 r1
    rw [chain]
    split
    · rename_i hcd
      obtain ⟨c1, c2, c3⟩ := hcd
      have hsn := (hv r r0 r1).1 c2
      have hrl : r.toNat < S.length := by omega
      have hSr : S[r.toNat]? = some false := by
        rw [List.getElem?_eq_getElem hrl]
        have := c2
        simp only [List.getD, List.getElem?_eq_getElem hrl, Option.getD_some] at this
        rw [this]
      have hcs := count_set hSr
      refine ⟨hr, ⟨by omega, c3, hsn⟩, walks_chain hu f _ _ r _ rfl (by rw [List.length_set]; exact hS) (by omega) fun x x0 x1 => ?_⟩
      by_cases hx : x = r
      · subst hx
        simp only [List.getD, List.getElem?_set, hrl, if_true, Option.getD_some, List.mem_append, List.mem_singleton, or_true, not_true_eq_false]
        simp
      · have hne : r.toNat ≠ x.toNat := by omega
        simp only [List.getD, List.getElem?_set, hne, if_false, List.mem_append, List.mem_singleton, hx, or_false]
        have := hv x x0 x1
        simpa only [List.getD] using this
    · rename_i hcd
      show ¬ Goes l lv seen (aft l W p lv)
      rw [hr]
      rintro ⟨g1, g2, g3⟩
      exact hcd ⟨by omega, (hv r r0 r1).2 g3, g2⟩
theorem walks_lst {l : LayV} {W : List Int} {v lv : Int} (hu : ∀ x ∈ W, 0 ≤ x ∧ x < 18446744073709551616) : Walks l W lv [] (-1 - v) (lst l W v lv) := by
  refine walks_chain hu _ _ _ _ _ rfl (by simp) (by simp) fun x x0 x1 => ?_
  have hx : x.toNat < l.H.length + 1 := by omega
  simp [List.getD, List.getElem?_replicate, hx]
theorem head_next {l : LayV} {V : Int} {sz : Nat} (hn : NumL l V sz) {v lv : Int} (v0 : 0 ≤ v) (v1 : v < V) (l0 : 0 ≤ lv) (l1 : lv ≤ 5) : nxtE l (-1 - v) lv = 0 := by
  have h2 := hn.V2
  have hw : IntKind.i64.wrap (-1 - (-1 - v)) = v := by rw [wrap_i64 (by omega) (by omega)]; omega
  unfold nxtE
  rw [if_pos]
  refine ⟨⟨by omega, ?_⟩, l0, l1⟩
  rw [hw, hn.eV]
  exact v1
end Go.Proofs.Ytapcgfakefmemaa
set_option linter.unusedVariables false
set_option linter.unusedSimpArgs false
namespace Go.Proofs.Ytapcgfakefmemaa
open Go.Am
def smP : List (Nat × Int) := [(34, 4), (35, 40), (38, 1), (46, 6), (47, 60), (48, 61), (50, 5), (21, 1), (39, 3), (22, 3)]
def smW0 : List Int := (((List.replicate 53 0).set 11 1).set 12 3).set 17 2
def smW (i : Nat) : List Int := (smP.take i).foldl (fun W p => W.set p.1 p.2) smW0
def smL : List Value := [.int .u64 34, .int .u64 4, .int .u64 35, .int .u64 40, .int .u64 38, .int .u64 1, .int .u64 46, .int .u64 6, .int .u64 47, .int .u64 60, .int .u64 48, .int .u64 61, .int .u64 50, .int .u64 5, .int .u64 21, .int .u64 1, .int .u64 39, .int .u64 3, .int .u64 22, .int .u64 3]
theorem smP_at {i : Nat} (h : i < 10) : ∃ (x : Nat) (y old : Int), smL[i * 2]? = some (.int .u64 x) ∧ smL[i * 2 + 1]? = some (.int .u64 y) ∧ x < 53 ∧ ((smW i).map (Value.int .u64))[x]? = some (.int .u64 old) ∧ ((smW i).map (Value.int .u64)).set x (.int .u64 y) = (smW (i + 1)).map (.int .u64) ∧ (smL.drop (i * 2)).take 2 = [.int .u64 x, .int .u64 y] := by
  have : i = 0 ∨ i = 1 ∨ i = 2 ∨ i = 3 ∨ i = 4 ∨ i = 5 ∨ i = 6 ∨ i = 7 ∨ i = 8 ∨ i = 9 := by omega
  rcases this with rfl | rfl | rfl | rfl | rfl | rfl | rfl | rfl | rfl | rfl
  · exact ⟨34, 4, 0, rfl, rfl, by omega, rfl, rfl, rfl⟩
  · exact ⟨35, 40, 0, rfl, rfl, by omega, rfl, rfl, rfl⟩
  · exact ⟨38, 1, 0, rfl, rfl, by omega, rfl, rfl, rfl⟩
  · exact ⟨46, 6, 0, rfl, rfl, by omega, rfl, rfl, rfl⟩
  · exact ⟨47, 60, 0, rfl, rfl, by omega, rfl, rfl, rfl⟩
  · exact ⟨48, 61, 0, rfl, rfl, by omega, rfl, rfl, rfl⟩
  · exact ⟨50, 5, 0, rfl, rfl, by omega, rfl, rfl, rfl⟩
  · exact ⟨21, 1, 0, rfl, rfl, by omega, rfl, rfl, rfl⟩
  · exact ⟨39, 3, 0, rfl, rfl, by omega, rfl, rfl, rfl⟩
  · exact ⟨22, 3, 0, rfl, rfl, by omega, rfl, rfl, rfl⟩
theorem smW_length {i : Nat} (h : i ≤ 10) : (smW i).length = 53 := by
  have : i = 0 ∨ i = 1 ∨ i = 2 ∨ i = 3 ∨ i = 4 ∨ i = 5 ∨ i = 6 ∨ i = 7 ∨ i = 8 ∨ i = 9 ∨ i = 10 := by omega
  rcases this with rfl | rfl | rfl | rfl | rfl | rfl | rfl | rfl | rfl | rfl | rfl <;> rfl
theorem smW_u64 : ∀ x ∈ smW 10, 0 ≤ x ∧ x < 18446744073709551616 := by decide
theorem sm_ok : cfgOk 1 2 2 0 2 2 2 1 0 0 0 0 1 1 0 [] = true := by decide
theorem sm_count : domCount 2 2 [] = 2 := by decide
set_option maxRecDepth 100000 in
set_option maxHeartbeats 8000000 in
theorem smallB (h : PT ABlk) (N : Nat) (hW : WfH h N) :
    EvB Try.prog OT 13 [] h N
      fun v h' n' => ∃ lb mb wb tb l gb cv lg, v = .pointer (some ⟨tb, 0, none⟩) ∧ NewL 1 2 2 0 2 2 2 1 0 0 0 0 1 1 0 [] h' lb l gb cv ∧ h'.get tb = some (.cells (PT.ofList .leaf 0 [.pointer (some ⟨mb, 0, none⟩), .pointer (some ⟨lb, 0, none⟩)]) false) ∧ IsMem h' mb wb (smW 10) lg ∧ Kept h h' := by
  have hnil : IsInts .u64 h (.slice none 0 0) [] := .inl ⟨rfl, rfl⟩
  refine EvB_run (N := 67) Try.func13 rfl rfl fun z hP hO hro hN hQ => ?_
  repeat' first | simp (maxSteps := 2000000) (disch := first | omega | assumption | exact Kept.refl _) only [go_sem, *, Try.results13] | (first | apply xg1 | apply xc1 | apply xg2 | apply xc2 | apply xc3 | apply xc4 | apply xg3 | apply xg4) <;> intro _
  generalize hh1 : (h.set N _).set N _ = h1
  have e1 := get_of_set hh1
  have hW1 : WfH h1 (N + 1) := by rw [← hh1]; exact WfH.set' (by omega) (hW.set (by omega) (by omega))
  have k1 : Kept h h1 := by rw [← hh1]; exact Kept.set' hW (by omega) (hW.kept (Nat.le_refl _))
  clear hh1
  refine EvQ_call ?_ ?_ (by rw [hP, hO]; exact (layNewL (O := OT) rfl rfl rfl rfl (fun _ => rfl) 1 2 2 0 2 2 2 1 0 0 0 0 1 1 0 _ [] _ _ hW1 (hnil.keep k1) (by simp)).wf hW1) ?_
  · simp (maxSteps := 2000000) (disch := first | omega | assumption | exact Kept.refl _) only [go_sem, *]
  · simp (maxSteps := 2000000) (disch := first | omega | assumption | exact Kept.refl _) only [go_sem, *]
  rintro v h3 n3 ⟨⟨c1, _⟩ | ⟨lb, l, gb, cv, rfl, k2, hlb, hL⟩, hn2, hW3⟩
  · rw [sm_ok] at c1; simp at c1
  have e2 := k2 N _ e1
  have k03 := k1.trans k2
  clear e1 hnil
  obtain ⟨sz, hnum⟩ := newL_num hL
  have hini2 : @decide (IniOk l) (Classical.propDecidable _) = true := @decide_eq_true _ (Classical.propDecidable _) hnum.ini
  have hsz : sz = 53 := by
    have := hnum.p9
    rw [hL.P] at this
    have e : (placesOf 2 2 0 1 (domCount 2 2 []) (hts 1 [2, 1, 0, 0, 0, 0])).getD 9 0 = 53 := by decide
    rw [e] at this
    omega
  subst hsz
  have hsz9 : (l.P.getD 9 0).toNat = 53 := by rw [hnum.p9]; omega
  have hlk := hL.look
  have hrl := fun h' hk z f d ops r K m n => @EvV_look _ _ _ _ h' hlk z f d ops r K m n hk
  have hWW : iniW l = smW 0 := by
    unfold iniW
    rw [hL.P, hL.H]
    decide
  have hWl : (smW 0).length = 53 := rfl
  obtain ⟨_, _, hlbr⟩ := rdL_get hlk
  have hlbn := hW3.lt hlbr
  clear hlbr
  repeat' first | simp (maxSteps := 2000000) (disch := first | omega | assumption | exact Kept.refl _) only [go_sem, *, Try.results13, iniS] | (first | apply xg1 | apply xc1 | apply xg2 | apply xc2 | apply xc3 | apply xc4 | apply xg3 | apply xg4) <;> intro _
  generalize hh4 : h3.set n3 _ = h4
  have e4 := get_of_set hh4
  have hW4 : WfH h4 (n3 + 1) := by rw [← hh4]; exact hW3.set (by omega) (by omega)
  have k34 : Kept h3 h4 := by rw [← hh4]; exact hW3.kept (Nat.le_refl _)
  have hmn := memNewB (O := OT) rfl rfl n3 53 (smW 0) false h4 (n3 + 1) hW4 e4 (by rw [hWl]; omega) (by rw [hWl]; omega)
  rw [hWl] at hmn
  clear hh4
  repeat' first | simp (maxSteps := 2000000) (disch := first | omega | assumption | exact Kept.refl _) only [go_sem, *, Try.results13, iniS] | (first | apply xg1 | apply xc1 | apply xg2 | apply xc2 | apply xc3 | apply xc4 | apply xg3 | apply xg4) <;> intro _
  refine EvQ_call ?_ ?_ (by rw [hP, hO]; exact hmn.wf hW4) ?_
  · simp (maxSteps := 2000000) (disch := first | omega | assumption | exact Kept.refl _) only [go_sem, *]
  · simp (maxSteps := 2000000) (disch := first | omega | assumption | exact Kept.refl _) only [go_sem, *]
  rintro v h5 n5 ⟨⟨rfl, rfl, hm5, hw5, k45⟩, hn5, hW5⟩
  have k35 := k34.trans k45
  have hMem : IsMem h5 (n3 + 1 + 1) (n3 + 1) (smW 0) (.slice none 0 0) := ⟨by rw [hWl]; exact hm5, hw5⟩
  obtain ⟨q0, q1, q2, q3, q4, q5, q6, q7, q8, hPL⟩ := hnum.PL
  have htn := towNewB (O := OT) rfl rfl rfl (n3 + 1 + 1) (n3 + 1) lb l (smW 0) (.slice none 0 0) q0 q1 q2 q3 q4 q5 q6 q7 q8 h5 _ hW5 hMem (look_keep k35 hlk) (by rw [hWl]; exact hPL) (by rw [hWl]; omega)
  clear hmn e4 k34 k45 hW4 hPL
  repeat' first | simp (maxSteps := 2000000) (disch := first | omega | assumption | exact Kept.refl _) only [go_sem, *, Try.results13] | (first | apply xg1 | apply xc1 | apply xg2 | apply xc2 | apply xc3 | apply xc4 | apply xg3 | apply xg4) <;> intro _
  refine EvQ_call ?_ ?_ (by rw [hP, hO]; exact htn.wf hW5) ?_
  · simp (maxSteps := 2000000) (disch := first | omega | assumption | exact Kept.refl _) only [go_sem, *]
  · simp (maxSteps := 2000000) (disch := first | omega | assumption | exact Kept.refl _) only [go_sem, *]
  rintro v h8 n8 ⟨⟨rfl, rfl, ht8, k58⟩, hn8, hW8⟩
  have k38 := k35.trans k58
  have hm8 := k58 _ _ hm5
  have hw8 := k58 _ _ hw5
  clear hm5 hw5 htn k58 k35 hMem hrl hini2 hsz9
  repeat' first | simp (maxSteps := 2000000) (disch := first | omega | assumption | exact Kept.refl _) only [go_sem, *, Try.results13] | (first | apply xg1 | apply xc1 | apply xg2 | apply xc2 | apply xc3 | apply xc4 | apply xg3 | apply xg4) <;> intro _
  have hLr : smL.length = 20 := rfl
  generalize hh9 : h8.set (n3 + 1 + 2 + 2) _ = h9
  have hb9 : h9.get (n3 + 1 + 2 + 2) = some (.cells (PT.ofList .leaf 0 smL) false) := get_of_set hh9
  have hm9 : h9.get (n3 + 1 + 1) = some (.cells (PT.ofList .leaf 0 [.slice (some ⟨n3 + 1, 0, none⟩) 53 53, .slice none 0 0]) false) := by rw [← hh9, heap_ne (by omega)]; exact hm8
  have hw9 : h9.get (n3 + 1) = some (.cells (PT.ofList .leaf 0 ((smW 0).map (.int .u64))) false) := by rw [← hh9, heap_ne (by omega)]; exact hw8
  have ht9 : h9.get (n3 + 1 + 2 + 1) = some (.cells (PT.ofList .leaf 0 [.pointer (some ⟨n3 + 1 + 1, 0, none⟩), .pointer (some ⟨lb, 0, none⟩)]) false) := by rw [← hh9, heap_ne (by omega)]; exact ht8
  have hW9 : WfH h9 (n3 + 1 + 2 + 2 + 1) := by rw [← hh9]; exact hW8.set (by omega) (by omega)
  have k39 : Kept h3 h9 := by rw [← hh9]; exact Kept.set' hW3 (by omega) k38
  clear hh9 hm8 hw8 ht8 k38 hW8 hn8 hW5 hn5 hlk hWW hWl e2
  generalize gN : n3 + 1 + 2 + 2 + 1 = Nb at *
  generalize gbb : n3 + 1 + 2 + 2 = bb at *
  generalize gt : n3 + 1 + 2 + 1 = tb at *
  generalize gmb : n3 + 1 + 1 = mb at *
  generalize gwb : n3 + 1 = wb at *
  have ord : n3 < wb ∧ wb < mb ∧ mb < tb ∧ tb < bb ∧ bb < Nb := by omega
  clear gN gt gbb gmb gwb
  refine ind_loop (fun t m h' n' => ∃ (i : Nat) (lg : Value), i ≤ 10 ∧ t = 10 - i ∧
    ((i ≤ 0 ∧ lg = .slice none 0 0) ∨ ∃ g G, 0 < i ∧ lg = .slice (some ⟨g, 0, none⟩) i (capInf + 6) ∧ h'.get g = some (.cells (PT.ofList .leaf 0 G) false) ∧ G.length = i * 6 ∧ Nb ≤ g) ∧
    m.n = 67 ∧ m.dfs = [] ∧ m.get 4 = .pointer (some ⟨mb, 0, none⟩) ∧ m.get 5 = .pointer (some ⟨tb, 0, none⟩) ∧ m.get 52 = .slice (some ⟨bb, 0, none⟩) 10 10 ∧ m.get 53 = .int .i64 ((10 : Nat) : Int) ∧ m.get 54 = .int .i64 i ∧
    h'.get mb = some (.cells (PT.ofList .leaf 0 [.slice (some ⟨wb, 0, none⟩) 53 53, lg]) false) ∧ h'.get wb = some (.cells (PT.ofList .leaf 0 ((smW i).map (.int .u64))) false) ∧ h'.get bb = some (.cells (PT.ofList .leaf 0 smL) false) ∧
    h'.get tb = some (.cells (PT.ofList .leaf 0 [.pointer (some ⟨mb, 0, none⟩), .pointer (some ⟨lb, 0, none⟩)]) false) ∧ Kept h3 h' ∧ WfH h' n' ∧ Nb ≤ n') 10 ?_ ?_
  · refine ⟨0, .slice none 0 0, by omega, by omega, .inl ⟨Nat.le_refl _, rfl⟩, ?_⟩
    clear hL hnum
    simp (maxSteps := 2000000) (disch := first | omega | assumption | exact Kept.refl _) only [go_sem, *]
    try exact Nat.le_refl _
  · rintro t m h' n' ih ⟨i, lg, hi, rfl, hlg, m1, m2, m3, m4, m5, m6, m7, q1, q2, q3, q4, q5, q6, q7⟩
    rcases Nat.lt_or_ge i 10 with hlt | hge
    · have e7 : (i : Int) < ((10 : Nat) : Int) := by omega
      obtain ⟨x, y, old, p1, p2, p3, p4, p5, p6⟩ := smP_at hlt
      have hb1 : Nat.ble (i * 2 + 2) 20 = true := Nat.ble_eq_true_of_le (by omega)
      have hx : (x : Int) < ((53 : Nat) : Int) := by omega
      have hx0 : (0 : Int) ≤ (x : Int) := by omega
      have hx1 : (x : Int) < 53 := by omega
      have hne1 : ¬ wb = mb := by omega
      have hci : ((i + 1 : Nat) : Int) = (i : Int) + 1 := by omega
      clear hL hnum hm9 hw9 ht9 hb9 k39 hW9
      generalize smL = L at *
      generalize (smW i).map (Value.int .u64) = WL at *
      generalize hWL2 : (smW (i + 1)).map (Value.int .u64) = WL2 at *
      rcases hlg with ⟨hi0, rfl⟩ | ⟨g, G, hi0, rfl, g1, g3, g5⟩
      · repeat' first | simp (maxSteps := 2000000) (disch := first | omega | assumption | exact Kept.refl _) only [go_sem, *, Try.results13, storeS, stM, Int.toNat_natCast] | (first | apply xg1 | apply xc1 | apply xg2 | apply xc2 | apply xc3 | apply xc4 | apply xg3 | apply xg4) <;> intro _
        obtain rfl : i = 0 := by omega
        refine ih (10 - (0 + 1)) _ _ _ (by omega) ⟨0 + 1, .slice (some ⟨n' + 1, 0, none⟩) (0 + 1) (capInf + 6), by omega, rfl, .inr ⟨n' + 1, acc 0 x old y, by omega, rfl, ?_, rfl, by omega⟩, ?_⟩
        · clear ih; simp (maxSteps := 2000000) (disch := first | omega | assumption | exact Kept.refl _) only [go_sem, *]
        · rw [hci]
          clear ih
          simp (maxSteps := 2000000) (disch := first | omega | assumption | exact Kept.refl _) only [go_sem, *]
          refine ⟨?_, ?_, by omega⟩
          · repeat first | assumption | refine Kept.set' hW3 (by omega) ?_
          · repeat refine WfH.set' (by omega) ?_
            exact q6.mono (by omega)
      · have hg1 : g ≠ mb ∧ g ≠ wb ∧ g ≠ bb ∧ g ≠ tb := by omega
        have hik : i ≤ 1000000 := by omega
        have hgn := q6.lt g1
        repeat' first | simp (maxSteps := 2000000) (disch := first | omega | assumption | exact Kept.refl _) only [go_sem, *, Try.results13, storeS, stM, Int.toNat_natCast] | (first | apply xg1 | apply xc1 | apply xg2 | apply xc2 | apply xc3 | apply xc4 | apply xg3 | apply xg4) <;> intro _
        refine ih (10 - (i + 1)) _ _ _ (by omega) ⟨i + 1, .slice (some ⟨n' + 1, 0, none⟩) (i + 1) (capInf + 6), by omega, rfl, .inr ⟨n' + 1, G ++ acc 0 x old y, by omega, rfl, ?_, by rw [List.length_append, g3]; simp only [acc, List.length_cons, List.length_nil]; omega, by omega⟩, ?_⟩
        · clear ih; simp (maxSteps := 2000000) (disch := first | omega | assumption | exact Kept.refl _) only [go_sem, *]
        · rw [hci]
          clear ih
          simp (maxSteps := 2000000) (disch := first | omega | assumption | exact Kept.refl _) only [go_sem, *]
          refine ⟨?_, ?_, by omega⟩
          · repeat first | assumption | refine Kept.set' hW3 (by omega) ?_
          · repeat refine WfH.set' (by omega) ?_
            exact q6.mono (by omega)
    · obtain rfl : i = 10 := by omega
      have e7 : ¬ ((10 : Nat) : Int) < ((10 : Nat) : Int) := by omega
      have hL' := hL.keep q5
      clear ih
      repeat' first | simp (maxSteps := 2000000) (disch := first | omega | assumption | exact Kept.refl _) only [go_sem, *, Try.results13] | (first | apply xg1 | apply xc1 | apply xg2 | apply xc2 | apply xc3 | apply xc4 | apply xg3 | apply xg4) <;> intro _
      exact ⟨lb, mb, wb, tb, l, gb, cv, lg, rfl, hL', q4, ⟨q1, q2⟩, k03.trans q5⟩
end Go.Proofs.Ytapcgfakefmemaa
