/-
  A part of the proof: contracts of inner functions.
-/
import Derived.Test.YtapcgfakefmemaaT9P4
import Derived.Test.YtapcgfakefmemaaT9S5
import Derived.Test.YtapcgfakefmemaaT9Q1
set_option linter.unusedVariables false
set_option linter.unusedSimpArgs false
namespace Go.Proofs.Ytapcgfakefmemaa
def fs : List Int → Int → Int → Int
  | [], _, _ => 0
  | x :: xs, h, b => if x = h then b else fs xs h (b + 1)
theorem fs_append : ∀ (L M : List Int) (h b : Int), fs (L ++ M) h b = if h ∈ L then fs L h b else fs M h (b + L.length)
  | [], M, h, b => by simp [fs]
  | x :: L, M, h, b => by
    rw [List.cons_append, fs, fs, fs_append L M h (b + 1)]
    by_cases e : x = h
    · simp [e]
    · have e' : ¬ h = x := fun q => e q.symm
      simp only [if_neg e, List.mem_cons, e', false_or, List.length_cons]
      split
      · rfl
      · congr 1; omega
theorem fs_none : ∀ (L : List Int) (h b : Int), ¬ h ∈ L → fs L h b = 0
  | [], _, _, _ => rfl
  | x :: L, h, b, e => by
    simp only [List.mem_cons, not_or] at e
    rw [fs, if_neg (fun q => e.1 q.symm), fs_none L h (b + 1) e.2]
def iniAt (p5 p6 : Nat) (H : List Int) (t k : Nat) : Int :=
  if p6 + t ≤ k ∧ k < p6 + H.length then fs (H.drop (k - p6 + 1)) (H.getD (k - p6) 0) (((k - p6 : Nat) : Int) + 2)
  else if p5 ≤ k ∧ k < p5 + 6 then fs (H.drop t) (((k - p5 : Nat) : Int) + 1) ((t : Int) + 1) else 0
def iniL (p5 p6 sz : Nat) (H : List Int) (t : Nat) : List Int := (List.range sz).map (iniAt p5 p6 H t)
def fwdAt (p5 p6 : Nat) (H : List Int) (i k : Nat) : Int :=
  if p6 ≤ k ∧ k < p6 + H.length then (if k - p6 + 1 < i ∧ H.getD (k - p6 + 1) 0 = H.getD (k - p6) 0 then ((k - p6 : Nat) : Int) + 2 else 0)
  else if p5 ≤ k ∧ k < p5 + 6 then fs (H.take i) (((k - p5 : Nat) : Int) + 1) 1 else 0
def fwdL (p5 p6 sz : Nat) (H : List Int) (i : Nat) : List Int := (List.range sz).map (fwdAt p5 p6 H i)
theorem iniL_length (p5 p6 sz : Nat) (H : List Int) (t : Nat) : (iniL p5 p6 sz H t).length = sz := by simp [iniL]
theorem fwdL_length (p5 p6 sz : Nat) (H : List Int) (t : Nat) : (fwdL p5 p6 sz H t).length = sz := by simp [fwdL]
theorem map_range_set {f : Nat → Int} {sz j : Nat} {v : Int} : ((List.range sz).map f).set j v = (List.range sz).map fun k => if k = j then v else f k := by
  apply List.ext_getElem?
  intro k
  rw [List.getElem?_set, List.getElem?_map, List.getElem?_map, List.length_map, List.length_range]
  by_cases hk : j = k
  · subst hk
    by_cases hj : j < sz
    · simp [hj]
    · simp [hj]
  · have hk' : ¬ k = j := fun e => hk e.symm
    simp only [if_neg hk]
    by_cases hj : k < sz
    · simp [hj, hk']
    · simp [hj]
theorem map_range_getD {f : Nat → Int} {sz j : Nat} (hj : j < sz) : ((List.range sz).map f).getD j 0 = f j := by
  simp [List.getD, hj]
theorem iniL_last (p5 p6 sz : Nat) (H : List Int) : iniL p5 p6 sz H H.length = List.replicate sz 0 := by
  apply List.ext_getElem?
  intro k
  simp only [iniL, List.getElem?_map, List.getElem?_replicate]
  by_cases hk : k < sz
  · simp only [List.getElem?_range hk, hk, if_true, Option.map_some, iniAt, List.drop_length, fs]
    rw [if_neg (by omega)]; simp
  · simp [hk]
theorem fwdL_zero (p5 p6 sz : Nat) (H : List Int) : fwdL p5 p6 sz H 0 = List.replicate sz 0 := by
  apply List.ext_getElem?
  intro k
  simp only [fwdL, List.getElem?_map, List.getElem?_replicate]
  by_cases hk : k < sz
  · simp only [List.getElem?_range hk, hk, if_true, Option.map_some, fwdAt, List.take_zero, fs]
    simp
  · simp [hk]
theorem drop_one {H : List Int} {t : Nat} (ht : t < H.length) : H.drop t = H.getD t 0 :: H.drop (t + 1) := by
  rw [List.drop_eq_getElem_cons ht]; simp [List.getD, ht]
theorem iniL_step {p5 p6 sz : Nat} {H : List Int} {t h : Nat} (h6 : p5 + 6 = p6) (hs : p6 + H.length ≤ sz) (ht : t < H.length) (hh : H.getD t 0 = (h : Int)) (h1 : 1 ≤ h) (h2 : h ≤ 6) :
    iniL p5 p6 sz H t = ((iniL p5 p6 sz H (t + 1)).set (p6 + t) ((iniL p5 p6 sz H (t + 1)).getD (p5 + h - 1) 0)).set (p5 + h - 1) ((t : Int) + 1) := by
  unfold iniL
  rw [map_range_getD (by omega), map_range_set, map_range_set]
  apply List.map_congr_left
  intro k hk
  rw [List.mem_range] at hk
  by_cases e1 : k = p5 + h - 1
  · subst e1
    simp only [if_true]
    unfold iniAt
    rw [if_neg (by omega), if_pos (by omega), drop_one ht, fs, if_pos (by rw [hh]; omega)]
  · rw [if_neg e1]
    by_cases e2 : k = p6 + t
    · subst e2
      rw [if_pos rfl]
      unfold iniAt
      rw [if_pos (by omega), if_neg (by omega), if_pos (by omega), show p6 + t - p6 = t by omega, hh]
      congr 1 <;> omega
    · rw [if_neg e2]
      unfold iniAt
      by_cases e3 : p6 + t ≤ k ∧ k < p6 + H.length
      · rw [if_pos e3, if_pos (by omega)]
      · have e4 : ¬ (p6 + (t + 1) ≤ k ∧ k < p6 + H.length) := by omega
        rw [if_neg e3, if_neg e4]
        by_cases e5 : p5 ≤ k ∧ k < p5 + 6
        · rw [if_pos e5, if_pos e5, drop_one ht, fs, if_neg (by rw [hh]; omega)]
          congr 1
        · rw [if_neg e5, if_neg e5]
def Asc (H : List Int) : Prop := H.Pairwise (· ≤ ·)
theorem asc_getD {H : List Int} (hs : Asc H) {i j : Nat} (hij : i < j) (hj : j < H.length) : H.getD i 0 ≤ H.getD j 0 := by
  have := List.pairwise_iff_getElem.1 hs i j (by omega) hj hij
  simpa [List.getD, hj, show i < H.length by omega] using this
theorem not_mem_take {H : List Int} (hs : Asc H) {i : Nat} (hi : i < H.length) (h : i = 0 ∨ H.getD (i - 1) 0 ≠ H.getD i 0) : ¬ H.getD i 0 ∈ H.take i := by
  intro hm
  obtain ⟨j, hj, e⟩ := List.mem_take_iff_getElem.1 hm
  have hj1 : j < i := by omega
  have e' : H.getD j 0 = H.getD i 0 := by simpa [List.getD, show j < H.length by omega] using e
  rcases h with h | h
  · omega
  · rcases Nat.lt_or_ge j (i - 1) with hlt | hge
    · have a1 := asc_getD hs hlt (by omega)
      have a2 := asc_getD hs (show i - 1 < i by omega) hi
      omega
    · have : j = i - 1 := by omega
      subst this
      exact h e'
theorem mem_take_of {H : List Int} {i : Nat} (hi : i < H.length) (h0 : 0 < i) (h : H.getD (i - 1) 0 = H.getD i 0) : H.getD i 0 ∈ H.take i := by
  rw [← h]
  refine List.mem_take_iff_getElem.2 ⟨i - 1, by omega, ?_⟩
  simp [List.getD, show i - 1 < H.length by omega]
theorem not_mem_drop {H : List Int} (hs : Asc H) {i : Nat} (hi : i + 1 < H.length) (h : H.getD (i + 1) 0 ≠ H.getD i 0) : ¬ H.getD i 0 ∈ H.drop (i + 1) := by
  intro hm
  obtain ⟨j, hj, e⟩ := List.mem_drop_iff_getElem.1 hm
  have hj2 : i + 1 + j < H.length := by omega
  have e' : H.getD (i + 1 + j) 0 = H.getD i 0 := by
    rw [← e]; simp [List.getD, hj2]
  have a2 := asc_getD hs (show i < i + 1 by omega) hi
  rcases Nat.eq_zero_or_pos j with rfl | hp
  · exact h e'
  · have a1 := asc_getD hs (show i + 1 < i + 1 + j by omega) (by omega)
    omega
theorem take_one {H : List Int} {t : Nat} (ht : t < H.length) : H.take (t + 1) = H.take t ++ [H.getD t 0] := by
  rw [List.take_add_one]; simp [List.getD, ht]
theorem fwdL_same {p5 p6 sz : Nat} {H : List Int} {i : Nat} (h6 : p5 + 6 = p6) (hi : i < H.length) (h0 : 0 < i) (h : H.getD (i - 1) 0 = H.getD i 0) :
    fwdL p5 p6 sz H (i + 1) = (fwdL p5 p6 sz H i).set (p6 + i - 1) ((i : Int) + 1) := by
  unfold fwdL
  rw [map_range_set]
  apply List.map_congr_left
  intro k hk
  by_cases e1 : k = p6 + i - 1
  · subst e1
    rw [if_pos rfl]
    unfold fwdAt
    have e : p6 + i - 1 - p6 = i - 1 := by omega
    rw [if_pos (by omega), e, show i - 1 + 1 = i by omega, if_pos ⟨by omega, h.symm⟩]
    omega
  · rw [if_neg e1]
    unfold fwdAt
    by_cases e3 : p6 ≤ k ∧ k < p6 + H.length
    · rw [if_pos e3, if_pos e3]
      have : (k - p6 + 1 < i + 1) = (k - p6 + 1 < i) := by apply propext; omega
      simp only [this]
    · rw [if_neg e3, if_neg e3]
      by_cases e5 : p5 ≤ k ∧ k < p5 + 6
      · rw [if_pos e5, if_pos e5, take_one hi, fs_append]
        split
        · rfl
        · rename_i hn
          have : ¬ H.getD i 0 = (((k - p5 : Nat) : Int) + 1) := fun e => hn (by rw [← e]; exact mem_take_of hi h0 h)
          rw [fs, if_neg this, fs_none _ _ _ hn]; rfl
      · rw [if_neg e5, if_neg e5]
theorem fwdL_new {p5 p6 sz : Nat} {H : List Int} {i h : Nat} (h6 : p5 + 6 = p6) (hs : Asc H) (hi : i < H.length) (hn : i = 0 ∨ H.getD (i - 1) 0 ≠ H.getD i 0) (hh : H.getD i 0 = (h : Int)) (h1 : 1 ≤ h) (h2 : h ≤ 6) :
    fwdL p5 p6 sz H (i + 1) = (fwdL p5 p6 sz H i).set (p5 + h - 1) ((i : Int) + 1) := by
  have hnm := not_mem_take hs hi hn
  unfold fwdL
  rw [map_range_set]
  apply List.map_congr_left
  intro k hk
  by_cases e1 : k = p5 + h - 1
  · subst e1
    rw [if_pos rfl]
    unfold fwdAt
    have e : ((p5 + h - 1 - p5 : Nat) : Int) + 1 = H.getD i 0 := by rw [hh]; omega
    rw [if_neg (by omega), if_pos (by omega), e, take_one hi, fs_append, if_neg hnm, fs, if_pos rfl, List.length_take]
    omega
  · rw [if_neg e1]
    unfold fwdAt
    by_cases e3 : p6 ≤ k ∧ k < p6 + H.length
    · rw [if_pos e3, if_pos e3]
      by_cases e4 : k - p6 + 1 = i
      · have e5 : ¬ H.getD (k - p6 + 1) 0 = H.getD (k - p6) 0 := by
          rw [e4, show k - p6 = i - 1 by omega]
          rcases hn with hn | hn
          · omega
          · exact fun q => hn q.symm
        rw [if_neg (fun q => e5 q.2), if_neg (fun q => e5 q.2)]
      · have : (k - p6 + 1 < i + 1) = (k - p6 + 1 < i) := by apply propext; omega
        simp only [this]
    · rw [if_neg e3, if_neg e3]
      by_cases e5 : p5 ≤ k ∧ k < p5 + 6
      · rw [if_pos e5, if_pos e5, take_one hi, fs_append]
        split
        · rfl
        · rename_i hn2
          have : ¬ H.getD i 0 = (((k - p5 : Nat) : Int) + 1) := by rw [hh]; omega
          rw [fs, if_neg this, fs_none _ _ _ hn2]; rfl
      · rw [if_neg e5, if_neg e5]
theorem fwdL_end {p5 p6 sz : Nat} {H : List Int} (hs : Asc H) : fwdL p5 p6 sz H H.length = iniL p5 p6 sz H 0 := by
  unfold fwdL iniL
  apply List.map_congr_left
  intro k hk
  unfold fwdAt iniAt
  rw [List.take_length, List.drop_zero]
  by_cases e3 : p6 ≤ k ∧ k < p6 + H.length
  · have e3' : p6 + 0 ≤ k ∧ k < p6 + H.length := by omega
    rw [if_pos e3, if_pos e3']
    by_cases e4 : k - p6 + 1 < H.length
    · by_cases e5 : H.getD (k - p6 + 1) 0 = H.getD (k - p6) 0
      · rw [if_pos ⟨e4, e5⟩, drop_one e4, fs, if_pos e5]
      · have e6 : ¬ (k - p6 + 1 < H.length ∧ H.getD (k - p6 + 1) 0 = H.getD (k - p6) 0) := fun q => e5 q.2
        rw [if_neg e6, fs_none _ _ _ (not_mem_drop hs e4 e5)]
    · have e6 : ¬ (k - p6 + 1 < H.length ∧ H.getD (k - p6 + 1) 0 = H.getD (k - p6) 0) := fun q => e4 q.1
      rw [if_neg e6, List.drop_eq_nil_of_le (by omega)]; rfl
  · have e3' : ¬ (p6 + 0 ≤ k ∧ k < p6 + H.length) := by omega
    rw [if_neg e3, if_neg e3']
    rfl
end Go.Proofs.Ytapcgfakefmemaa
set_option linter.unusedVariables false
set_option linter.unusedSimpArgs false
namespace Go.Proofs.Ytapcgfakefmemaa
open Go.Am
def topS : List Value → Option (AP Value)
  | [.int .u64 w, .int .i64 i] => if w = 0 ∧ 0 ≤ i ∧ i ≤ 1024 then some (.pure (.tuple ⟨[.int .u64 i, .int .i64 0]⟩)) else none
  | _ => none
set_option maxRecDepth 100000 in
theorem topF : SoundF Try.prog 67 topS := by
  refine soundF_query (tab_sound .nil) orders ?_
  intro args m hm
  unfold topS at hm
  split at hm
  · rename_i w i
    split at hm
    · rename_i hc
      obtain ⟨rfl, h0, h1⟩ := hc
      simp only [Option.some.injEq] at hm
      subst hm
      refine ⟨fun h v => v = .tuple ⟨[.int .u64 i, .int .i64 0]⟩, fun h n v s' _ e => ?_, fun h N v hlt hv => ?_⟩
      · obtain ⟨h1, rfl⟩ := run_pure e
        exact ⟨h1, .tuple _ (by simp; exact ⟨.int _ _, .int _ _⟩), rfl⟩
      · subst hv
        have e1 : ¬ i < 0 := by omega
        have e2 : ¬ (1024 : Int) < i := by omega
        refine EvB_run (N := 21) Try.func67 rfl rfl ?_
        intro z hP hO hro hN hQ
        repeat' first | simp (maxSteps := 2000000) (disch := omega) only [go_sem, *, Try.results67] | (first | apply xg1 | apply xc1 | apply xg2 | apply xc2 | apply xc3 | apply xc4 | apply xg3 | apply xg4) <;> intro _ | (first | apply xh1 | apply xh2 | apply xh3 | apply xh4) <;> intro _ | refine EvK_draw (by cbv) (by first | rfl | cbv) ?_
        simp
    · simp at hm
  · simp at hm
end Go.Proofs.Ytapcgfakefmemaa
set_option linter.unusedVariables false
set_option linter.unusedSimpArgs false
namespace Go.Proofs.Ytapcgfakefmemaa
open Go.Am
theorem rep_ints (n : Nat) : rep [Value.int .u64 0] n = (List.replicate n (0 : Int)).map (.int .u64) := by
  induction n with
  | zero => rfl
  | succ n ih => simp_all [rep, List.replicate_succ]
set_option maxRecDepth 100000 in
set_option maxHeartbeats 8000000 in
theorem refIni {O : Over} (v0 v1 v2 v3 v4 v5 v6 v7 v8 v9 v10 v11 v12 v13 v14 v15 : Value) (q0 q1 q2 q3 q4 q7 q8 q9 : Int) (p5 p6 sz : Nat) (a wa : Option Addr) (cap wc : Nat) (H : List Int) (lb2 : Nat) (ro : Bool) (h : PT ABlk) (N : Nat) (hW : WfH h N)
    (hb : h.get lb2 = some (.cells (PT.ofList .leaf 0 [v0, v1, v2, v3, v4, v5, v6, v7, v8, v9, v10, v11, v12, v13, v14, v15, .int .i64 q0, .int .i64 q1, .int .i64 q2, .int .i64 q3, .int .i64 q4, .int .i64 (p5 : Int), .int .i64 (p6 : Int), .int .i64 q7, .int .i64 q8, .int .i64 q9, .slice a H.length cap, .slice wa sz wc]) ro)) (hH : IsInts .i64 h (.slice a H.length cap) H)
    (hbd : ∀ i, i < H.length → 1 ≤ H.getD i 0 ∧ H.getD i 0 ≤ 6) (h6 : p5 + 6 = p6) (hs : p6 + H.length ≤ sz) (hz : sz ≤ 100000) :
    EvB Try.prog O 33 [.pointer (some ⟨lb2, 0, none⟩)] h N fun v h' n' => v = .slice (some ⟨N, 0, none⟩) sz sz ∧ Kept h h' ∧ n' = N + 1 ∧ h'.get N = some (.cells (PT.ofList .leaf 0 ((iniL p5 p6 sz H 0).map (.int .u64))) false) := by
  have hlbn := hW.lt hb
  obtain ⟨a', cap', e, hA⟩ := hH.len
  injection e with e1 e2 e3
  subst e1 e3
  have hlast := iniL_last p5 p6 sz H
  have hrep := rep_ints sz
  refine EvB_run (N := 65) Try.func33 rfl rfl fun z hP hO hro hN hQ => ?_
  repeat' first | simp (maxSteps := 2000000) (disch := omega) only [go_sem, *, Try.results33] | (first | apply xg1 | apply xc1 | apply xg2 | apply xc2 | apply xc3 | apply xc4 | apply xg3 | apply xg4) <;> intro _ | (first | apply xh1 | apply xh2 | apply xh3 | apply xh4) <;> intro _ | refine EvK_draw (id := 8) (L := w33_8) (by kernel_rfl) (by kernel_rfl) ?_
  refine ind_loop (fun t m h' n' => t ≤ H.length ∧ m.n = 65 ∧ m.dfs = [] ∧ m.get 0 = .pointer (some ⟨lb2, 0, none⟩) ∧ m.get 3 = .slice (some ⟨N, 0, none⟩) sz sz ∧ m.get 4 = .int .i64 t ∧ n' = N + 1 ∧ (∀ j, j < N → h'.get j = h.get j) ∧ h'.get N = some (.cells (PT.ofList .leaf 0 ((iniL p5 p6 sz H t).map (.int .u64))) false)) H.length ?_ ?_
  · refine ⟨Nat.le_refl _, ?_⟩
    rw [hlast]
    simp (maxSteps := 2000000) (disch := omega) only [go_sem, *]
    exact fun j hj => by simp (disch := omega) only [heap_ne]
  · rintro t m h' n' ih ⟨ht, m1, m2, m3, m4, m5, rfl, q1, q2⟩
    have hb' := (q1 _ hlbn).trans hb
    rcases Nat.eq_zero_or_pos t with rfl | hpos
    · repeat' first | simp (maxSteps := 2000000) (disch := omega) only [go_sem, *, Try.results33] | (first | apply xg1 | apply xc1 | apply xg2 | apply xc2 | apply xc3 | apply xc4 | apply xg3 | apply xg4) <;> intro _ | (first | apply xh1 | apply xh2 | apply xh3 | apply xh4) <;> intro _ | refine EvK_draw (id := 8) (L := w33_8) (by kernel_rfl) (by kernel_rfl) ?_
      exact fun i B e => (q1 i (hW.lt e)).trans e
    · obtain ⟨u, rfl⟩ : ∃ u, t = u + 1 := ⟨t - 1, by omega⟩
      obtain ⟨hd, ehd⟩ : ∃ hd : Nat, H.getD u 0 = (hd : Int) := ⟨(H.getD u 0).toNat, by have := (hbd u (by omega)).1; omega⟩
      obtain ⟨b1, b2⟩ := hbd u (by omega)
      rw [ehd] at b1 b2
      have hstep := iniL_step h6 hs (show u < H.length by omega) ehd (by omega) (by omega)
      obtain ⟨bk, off, sp, L, ro', rfl, hbk, hL⟩ := hA u (by omega)
      rw [ehd] at hL
      have hbkn := hW.lt hbk
      have hbk' := (q1 _ hbkn).trans hbk
      have hWl : (iniL p5 p6 sz H (u + 1)).length = sz := iniL_length ..
      generalize iniL p5 p6 sz H (u + 1) = W at *
      have hx : (W.map (Value.int .u64))[p5 + hd - 1]? = some (.int .u64 (W.getD (p5 + hd - 1) 0)) := by
        rw [List.getElem?_map, List.getElem?_eq_getElem (by omega)]; simp [List.getD, show p5 + hd - 1 < W.length by omega]
      have hWm : (W.map (Value.int .u64)).length = sz := by rw [List.length_map]; exact hWl
      have m5' : m.get 4 = .int .i64 ((u : Int) + 1) := by rw [m5]; simp
      have g1 : (1 : Int) ≤ (u : Int) + 1 := by omega
      have g2 : (u : Int) + 1 - 1 = u := by omega
      have g3 : (p6 : Int) + ((u : Int) + 1) - 1 = ((p6 + u : Nat) : Int) := by omega
      have g4 : (p5 : Int) + (hd : Int) - 1 = ((p5 + hd - 1 : Nat) : Int) := by omega
      have g5 : p6 + u < sz := by omega
      have g6 : p5 + hd - 1 < sz := by omega
      generalize p5 + hd - 1 = y5 at *
      generalize p6 + u = y6 at *
      clear m5 hbd hA hlast hrep e2
      repeat' first | simp (maxSteps := 2000000) (disch := omega) only [go_sem, *, Try.results33, List.length_set] | (first | apply xg1 | apply xc1 | apply xg2 | apply xc2 | apply xc3 | apply xc4 | apply xg3 | apply xg4) <;> intro _ | (first | apply xh1 | apply xh2 | apply xh3 | apply xh4) <;> intro _ | refine EvK_draw (id := 8) (L := w33_8) (by kernel_rfl) (by kernel_rfl) ?_
      refine ih u _ _ _ (by omega) ⟨by omega, ?_⟩
      rw [hstep, List.map_set, List.map_set]
      simp (maxSteps := 2000000) (disch := omega) only [go_sem, *]
      exact fun j hj => by simp (disch := omega) only [heap_ne, q1 j hj]
end Go.Proofs.Ytapcgfakefmemaa
set_option linter.unusedVariables false
set_option linter.unusedSimpArgs false
namespace Go.Proofs.Ytapcgfakefmemaa
open Go.Am
set_option maxRecDepth 100000 in
set_option maxHeartbeats 8000000 in
theorem layIni {O : Over} (o53 : O 67 = topS) (v0 v1 v2 v3 v4 v5 v6 v7 v8 v9 v10 v11 v12 v13 v14 v15 gv tv Vv : Value) (q0 q1 q2 q3 q4 q7 q8 : Int) (p5 p6 sz : Nat) (a : Option Addr) (cap : Nat) (H : List Int) (lb2 : Nat) (ro : Bool) (h : PT ABlk) (N : Nat) (hW : WfH h N)
    (hb : h.get lb2 = some (.cells (PT.ofList .leaf 0 [v0, v1, v2, v3, v4, v5, v6, v7, v8, v9, v10, v11, v12, v13, v14, v15, .int .i64 q0, .int .i64 q1, .int .i64 q2, .int .i64 q3, .int .i64 q4, .int .i64 (p5 : Int), .int .i64 (p6 : Int), .int .i64 q7, .int .i64 q8, .int .i64 (sz : Int), gv, .slice a H.length cap, tv, Vv]) ro)) (hH : IsInts .i64 h (.slice a H.length cap) H)
    (hbd : ∀ i, i < H.length → 1 ≤ H.getD i 0 ∧ H.getD i 0 ≤ 6) (hasc : Asc H) (h6 : p5 + 6 = p6) (hs : p6 + H.length ≤ sz) (hz : sz ≤ 100000) (hn : H.length ≤ 1024) :
    EvB Try.prog O 31 [.pointer (some ⟨lb2, 0, none⟩)] h N fun v h' n' => v = .slice (some ⟨N, 0, none⟩) sz sz ∧ Kept h h' ∧ n' = N + 1 ∧ h'.get N = some (.cells (PT.ofList .leaf 0 ((iniL p5 p6 sz H 0).map (.int .u64))) false) := by
  have hlbn := hW.lt hb
  obtain ⟨a', cap', e, hA⟩ := hH.len
  injection e with e1 e2 e3
  subst e1 e3
  have hzero := fwdL_zero p5 p6 sz H
  have hrep := rep_ints sz
  have hend := fwdL_end (p5 := p5) (p6 := p6) (sz := sz) hasc
  refine EvB_run (N := 69) Try.func31 rfl rfl fun z hP hO hro hN hQ => ?_
  repeat' first | simp (maxSteps := 2000000) (disch := omega) only [go_sem, *, Try.results31] | (first | apply xg1 | apply xc1 | apply xg2 | apply xc2 | apply xc3 | apply xc4 | apply xg3 | apply xg4) <;> intro _ | (first | apply xh1 | apply xh2 | apply xh3 | apply xh4) <;> intro _ | refine EvK_draw (id := 9) (L := w31_9) (by kernel_rfl) (by kernel_rfl) ?_
  refine ind_loop (fun t m h' n' => ∃ i : Nat, i ≤ H.length ∧ t = H.length - i ∧ m.n = 69 ∧ m.dfs = [] ∧ m.get 0 = .pointer (some ⟨lb2, 0, none⟩) ∧ m.get 3 = .slice (some ⟨N, 0, none⟩) sz sz ∧ m.get 17 = .slice a H.length cap ∧ m.get 18 = .int .i64 H.length ∧ m.get 19 = .int .i64 i ∧ n' = N + 1 ∧ (∀ j, j < N → h'.get j = h.get j) ∧ h'.get N = some (.cells (PT.ofList .leaf 0 ((fwdL p5 p6 sz H i).map (.int .u64))) false)) H.length ?_ ?_
  · refine ⟨0, by omega, by omega, ?_⟩
    rw [hzero]
    simp (maxSteps := 2000000) (disch := omega) only [go_sem, *]
    exact fun j hj => by simp (disch := omega) only [heap_ne]
  · rintro t m h' n' ih ⟨i, hi, rfl, m1, m2, m3, m4, m5, m6, m7, rfl, q1, q2⟩
    have hb' := (q1 _ hlbn).trans hb
    rcases Nat.lt_or_ge i H.length with hlt | hge
    · have e7 : (i : Int) < H.length := by omega
      obtain ⟨hd, ehd⟩ : ∃ hd : Nat, H.getD i 0 = (hd : Int) := ⟨(H.getD i 0).toNat, by have := (hbd i hlt).1; omega⟩
      obtain ⟨b1, b2⟩ := hbd i hlt
      rw [ehd] at b1 b2
      obtain ⟨bk, off, sp, L, ro', rfl, hbk, hL⟩ := hA i hlt
      have hL' := hL
      rw [ehd] at hL'
      have hbkn := hW.lt hbk
      have hWl : (fwdL p5 p6 sz H i).length = sz := fwdL_length ..
      have hWm : ((fwdL p5 p6 sz H i).map (Value.int .u64)).length = sz := by rw [List.length_map]; exact hWl
      by_cases hi0 : i = 0
      · subst hi0
        have hstep := fwdL_new h6 hasc hlt (.inl rfl) ehd (by omega) (by omega) (sz := sz)
        generalize fwdL p5 p6 sz H 0 = W at *
        have m7' : m.get 19 = .int .i64 (0 : Int) := m7
        have g4 : (p5 : Int) + (hd : Int) - 1 = ((p5 + hd - 1 : Nat) : Int) := by omega
        have g6 : p5 + hd - 1 < sz := by omega
        have e8 : (0 : Int) < H.length := by omega
        have hL2 : L[off]? = some (.int .i64 (hd : Int)) := by simpa using hL'
        generalize p5 + hd - 1 = y5 at *
        clear m7 hbd hA hrep hzero hend e2 hL hL' e7
        repeat' first | simp (maxSteps := 2000000) (disch := omega) only [go_sem, *, Try.results31, topS] | (first | apply xg1 | apply xc1 | apply xg2 | apply xc2 | apply xc3 | apply xc4 | apply xg3 | apply xg4) <;> intro _ | (first | apply xh1 | apply xh2 | apply xh3 | apply xh4) <;> intro _ | refine EvK_draw (id := 9) (L := w31_9) (by kernel_rfl) (by kernel_rfl) ?_
        refine ih (H.length - 1) _ _ _ (by omega) ⟨1, by omega, rfl, ?_⟩
        rw [hstep, List.map_set]
        simp (maxSteps := 2000000) (disch := omega) only [go_sem, *]
        exact ⟨by simp, fun j hj => by simp (disch := omega) only [heap_ne, q1 j hj]⟩
      · obtain ⟨u, rfl⟩ : ∃ u, i = u + 1 := ⟨i - 1, by omega⟩
        obtain ⟨bk', off', sp', L2, ro2, e', hbk2, hL2⟩ := hA u (by omega)
        cases e'
        rw [hbk] at hbk2
        obtain rfl := ofList_inj (ABlk.cells.inj (Option.some.inj hbk2)).1
        have m7' : m.get 19 = .int .i64 ((u : Int) + 1) := by rw [m7]; simp
        have e8 : (u : Int) + 1 < H.length := by omega
        have e9 : (u : Int) + 1 - 1 = u := by omega
        have e10 : (0 : Int) < (u : Int) + 1 := by omega
        have e11 : (u : Int) < H.length := by omega
        have hL3 : L[off + ((u : Int) + 1).toNat]? = some (.int .i64 (hd : Int)) := hL'
        by_cases hsm : H.getD u 0 = (hd : Int)
        · have hstep := fwdL_same h6 hlt (by omega) (by rw [ehd]; exact hsm) (sz := sz)
          rw [show p6 + (u + 1) - 1 = p6 + u by omega] at hstep
          rw [hsm] at hL2
          have g3 : (p6 : Int) + ((u : Int) + 1) - 1 = ((p6 + u : Nat) : Int) := by omega
          have g5 : p6 + u < sz := by omega
          generalize p6 + u = y6 at *
          generalize fwdL p5 p6 sz H (u + 1) = W at *
          clear m7 hbd hA hrep hzero hend e2 hL hL' e7 hbk2 hi0
          repeat' first | simp (maxSteps := 2000000) (disch := omega) only [go_sem, *, Try.results31, topS] | (first | apply xg1 | apply xc1 | apply xg2 | apply xc2 | apply xc3 | apply xc4 | apply xg3 | apply xg4) <;> intro _ | (first | apply xh1 | apply xh2 | apply xh3 | apply xh4) <;> intro _ | refine EvK_draw (id := 9) (L := w31_9) (by kernel_rfl) (by kernel_rfl) ?_
          refine ih (H.length - (u + 1 + 1)) _ _ _ (by omega) ⟨u + 1 + 1, by omega, rfl, ?_⟩
          rw [hstep, List.map_set]
          simp (maxSteps := 2000000) (disch := omega) only [go_sem, *]
          exact ⟨by simp, fun j hj => by simp (disch := omega) only [heap_ne, q1 j hj], by simp⟩
        · have hstep := fwdL_new h6 hasc hlt (.inr (by rw [ehd]; exact hsm)) ehd (by omega) (by omega) (sz := sz)
          have g4 : (p5 : Int) + (hd : Int) - 1 = ((p5 + hd - 1 : Nat) : Int) := by omega
          have g6 : p5 + hd - 1 < sz := by omega
          generalize p5 + hd - 1 = y5 at *
          generalize fwdL p5 p6 sz H (u + 1) = W at *
          clear m7 hbd hA hrep hzero hend e2 hL hL' e7 hbk2 hi0
          have htop : topS [.int .u64 0, .int .i64 ((u : Int) + 1 + 1)] = some (.pure (.tuple ⟨[.int .u64 ((u : Int) + 1 + 1), .int .i64 0]⟩)) := by
            simp only [topS]; rw [if_pos ⟨trivial, by omega, by omega⟩]
          repeat' first | simp (maxSteps := 2000000) (disch := omega) only [go_sem, *, Try.results31] | (first | apply xg1 | apply xc1 | apply xg2 | apply xc2 | apply xc3 | apply xc4 | apply xg3 | apply xg4) <;> intro _ | (first | apply xh1 | apply xh2 | apply xh3 | apply xh4) <;> intro _ | refine EvK_draw (id := 9) (L := w31_9) (by kernel_rfl) (by kernel_rfl) ?_
          refine ih (H.length - (u + 1 + 1)) _ _ _ (by omega) ⟨u + 1 + 1, by omega, rfl, ?_⟩
          rw [hstep, List.map_set]
          simp (maxSteps := 2000000) (disch := omega) only [go_sem, *]
          exact ⟨by simp, fun j hj => by simp (disch := omega) only [heap_ne, q1 j hj], by simp⟩
    · have e7 : ¬ (i : Int) < H.length := by omega
      obtain rfl : i = H.length := by omega
      rw [hend] at q2
      repeat' first | simp (maxSteps := 2000000) (disch := omega) only [go_sem, *, Try.results31] | (first | apply xg1 | apply xc1 | apply xg2 | apply xc2 | apply xc3 | apply xc4 | apply xg3 | apply xg4) <;> intro _ | (first | apply xh1 | apply xh2 | apply xh3 | apply xh4) <;> intro _ | refine EvK_draw (id := 9) (L := w31_9) (by kernel_rfl) (by kernel_rfl) ?_
      exact fun i B e => (q1 i (hW.lt e)).trans e
end Go.Proofs.Ytapcgfakefmemaa
set_option linter.unusedVariables false
set_option linter.unusedSimpArgs false
namespace Go.Proofs.Ytapcgfakefmemaa
open Go.Am
theorem hts_low9 : ∀ (ts : List Int) (k : Int), ∀ x ∈ hts k ts, k ≤ x
  | [], k, x, h => by simp [hts] at h
  | t :: ts, k, x, h => by
    simp only [hts, List.mem_append, List.mem_replicate] at h
    rcases h with ⟨_, rfl⟩ | h
    · omega
    · have := hts_low9 ts (k + 1) x h; omega
theorem hts_asc9 : ∀ (ts : List Int) (k : Int), Asc (hts k ts)
  | [], k => .nil
  | t :: ts, k => by
    rw [hts]
    unfold Asc
    rw [List.pairwise_append]
    refine ⟨List.pairwise_replicate.2 (.inr (by omega)), hts_asc9 ts (k + 1), fun a ha b hb => ?_⟩
    rw [List.mem_replicate] at ha
    have := hts_low9 ts (k + 1) b hb
    omega
structure IniOk (l : LayV) : Prop where
  p5 : 0 ≤ l.P.getD 5 0
  p6 : l.P.getD 6 0 = l.P.getD 5 0 + 6
  p9 : l.P.getD 6 0 + l.H.length ≤ l.P.getD 9 0
  sz : l.P.getD 9 0 ≤ 100000
  len : l.H.length ≤ 1024
  bd : ∀ i, i < l.H.length → 1 ≤ l.H.getD i 0 ∧ l.H.getD i 0 ≤ 6
  asc : Asc l.H
def iniW (l : LayV) : List Int := iniL (l.P.getD 5 0).toNat (l.P.getD 6 0).toNat (l.P.getD 9 0).toNat l.H 0
noncomputable def iniS : List Value → Option (AP Value)
  | [.pointer (some p)] => some <| (rdL (.pointer (some p))).bind fun l => cond (@decide (IniOk l) (Classical.propDecidable _)) (.newRow ((iniW l).map (.int .u64)) fun g => .pure (.slice (some ⟨g, 0, none⟩) (l.P.getD 9 0).toNat (l.P.getD 9 0).toNat)) (.fail "")
  | _ => none
theorem run_bind_reads {α β : Type} {p : AP α} {f : α → AP β} {h : PT ABlk} {n : Nat} {v : β} {s' : HS} (hp : Reads p) (e : (p.bind f).run 0 (S0 h n) = .ok v s') : ∃ a, p.look h = some a ∧ (f a).run 0 (S0 h n) = .ok v s' := by
  rw [AP.run_bind] at e
  cases hr : p.run 0 (S0 h n) with
  | fail w => rw [hr] at e; simp [bnd] at e
  | ok a s1 =>
    rw [hr] at e
    obtain ⟨rfl, hl⟩ := hp.run hr
    exact ⟨a, hl, e⟩
theorem list30 {α : Type} {cs : List α} (h : cs.length = 30) : ∃ c0 c1 c2 c3 c4 c5 c6 c7 c8 c9 c10 c11 c12 c13 c14 c15 c16 c17 c18 c19 c20 c21 c22 c23 c24 c25 c26 c27 c28 c29, cs = [c0, c1, c2, c3, c4, c5, c6, c7, c8, c9, c10, c11, c12, c13, c14, c15, c16, c17, c18, c19, c20, c21, c22, c23, c24, c25, c26, c27, c28, c29] := by
  match cs, h with
  | [c0, c1, c2, c3, c4, c5, c6, c7, c8, c9, c10, c11, c12, c13, c14, c15, c16, c17, c18, c19, c20, c21, c22, c23, c24, c25, c26, c27, c28, c29], _ => exact ⟨c0, c1, c2, c3, c4, c5, c6, c7, c8, c9, c10, c11, c12, c13, c14, c15, c16, c17, c18, c19, c20, c21, c22, c23, c24, c25, c26, c27, c28, c29, rfl⟩
theorem list10 {α : Type} {cs : List α} (h : cs.length = 10) : ∃ c0 c1 c2 c3 c4 c5 c6 c7 c8 c9, cs = [c0, c1, c2, c3, c4, c5, c6, c7, c8, c9] := by
  match cs, h with
  | [c0, c1, c2, c3, c4, c5, c6, c7, c8, c9], _ => exact ⟨c0, c1, c2, c3, c4, c5, c6, c7, c8, c9, rfl⟩
noncomputable abbrev Oto : Over := tabO [(67, topS)]
theorem iniF : SoundF Try.prog 31 iniS := by
  refine soundF (O := Oto) (tab_sound (.cons topF .nil)) orders ?_
  intro args m hm h n N Old OldId v h1 n1 hr hold hid hN
  unfold iniS at hm
  split at hm
  · rename_i p
    simp only [Option.some.injEq] at hm
    subst hm
    obtain ⟨l, hl, hr⟩ := run_bind_reads (rdL_reads _) hr
    replace hr := run_cond hr
    obtain ⟨hc, hr⟩ := hr
    have hok : IniOk l := @of_decide_eq_true _ (Classical.propDecidable _) hc
    replace hr := run_new hr
    obtain ⟨hs, rfl⟩ := run_pure hr
    have e1 : h1 = _ := congrArg HS.heap hs
    have e2 : n1 = _ := congrArg HS.next hs
    simp only [S0] at e1 e2
    subst e1 e2
    clear hs hr hc
    have hlt : ∀ i B, h.get i = some B → i < N ∧ ¬ (n ≤ i ∧ i < n + 1) := fun i B e => hid i (hold.id i B e)
    have hW : WfH h N := WfH.of_lt fun i B e => (hlt i B e).1
    obtain ⟨lb, ro, hv, tv, hp, hb, h27, h28, hH, hT, hHl, hTl, hSl, hPm, hVm, hP7⟩ := rdL_look hold.rows hl
    cases hp
    obtain ⟨S, H, T, P, V⟩ := l
    simp only at hb h27 h28 hH hT hHl hTl hSl hPm hVm hP7
    obtain ⟨s0, s1, s2, s3, s4, s5, s6, s7, s8, s9, s10, s11, s12, s13, s14, s15, s16, s17, s18, s19, s20, s21, s22, s23, s24, s25, s26, s27, s28, s29, rfl⟩ := list30 hSl
    have hPl : P.length = 10 := by have := congrArg List.length hPm; simp at this; omega
    obtain ⟨q0, q1, q2, q3, q4, q5, q6, q7, q8, q9, rfl⟩ := list10 hPl
    simp only [List.drop_succ_cons, List.drop_zero, List.take_succ_cons, List.take_zero, List.map_cons, List.map_nil, List.cons.injEq, and_true] at hPm
    obtain ⟨rfl, rfl, rfl, rfl, rfl, rfl, rfl, rfl, rfl, rfl⟩ := hPm
    obtain ⟨k5, k6, k9, kz, kn, kb, ka⟩ := hok
    simp only [List.getD_cons_succ, List.getD_cons_zero] at k5 k6 k9 kz kn kb ka
    obtain ⟨p5, rfl⟩ := Int.eq_ofNat_of_zero_le k5
    subst k6
    obtain ⟨sz, rfl⟩ := Int.eq_ofNat_of_zero_le (show 0 ≤ q9 by omega)
    simp only [List.getElem?_cons_succ, List.getElem?_cons_zero, Option.some.injEq] at h27
    subst h27
    obtain ⟨ha, hcap, rfl, -⟩ := hH.len
    have hb' : h.get lb = some (.cells (PT.ofList .leaf 0 [s0, s1, s2, s3, s4, s5, s6, s7, s8, s9, s10, s11, s12, s13, s14, s15, .int .i64 q0, .int .i64 q1, .int .i64 q2, .int .i64 q3, .int .i64 q4, .int .i64 (p5 : Int), .int .i64 ((p5 + 6 : Nat) : Int), .int .i64 q7, .int .i64 q8, .int .i64 (sz : Int), s26, .slice ha H.length hcap, s28, s29]) ro) := hb
    have hw : iniW ⟨[s0, s1, s2, s3, s4, s5, s6, s7, s8, s9, s10, s11, s12, s13, s14, s15, .int .i64 q0, .int .i64 q1, .int .i64 q2, .int .i64 q3, .int .i64 q4, .int .i64 (p5 : Int), .int .i64 ((p5 : Int) + 6), .int .i64 q7, .int .i64 q8, .int .i64 (sz : Int), s26, .slice ha H.length hcap, s28, s29], H, T, [q0, q1, q2, q3, q4, (p5 : Int), (p5 : Int) + 6, q7, q8, (sz : Int)], V⟩ = iniL p5 (p5 + 6) sz H 0 := rfl
    simp only [List.getD_cons_succ, List.getD_cons_zero, hw]
    refine (layIni (O := Oto) rfl _ _ _ _ _ _ _ _ _ _ _ _ _ _ _ _ _ _ _ _ _ _ _ _ _ _ p5 (p5 + 6) sz _ _ H lb ro h N hW hb' hH kb ka rfl (by omega) (by omega) kn).mono ?_
    rintro v2 h2 n2 ⟨rfl, hk, rfl, hr2⟩
    have hnew : IdR OldId n (n + 1) (fun _ => N) n N := .inr ⟨Nat.le_refl _, Nat.lt_succ_self _, rfl⟩
    refine ⟨fun _ => N, fun i q1 q2 => Nat.le_refl N, fun i j q1 q2 q3 q4 _ => by omega, .slice n 0 _ _ N hnew, fun i B e => ?_⟩
    rw [PT.get_set] at e
    split at e
    · rename_i hi; subst hi
      obtain rfl := Option.some.inj e
      refine .inr ⟨_, ?_, .cells _ _ _ (VRens.refl _ fun u hu => ?_)⟩
      · rw [sg_new (by omega)]
        exact hr2
      · obtain ⟨x, _, rfl⟩ := List.mem_map.1 hu
        exact .int _ _
    · exact .inl ⟨e, hk _ _ e⟩
  · simp at hm
end Go.Proofs.Ytapcgfakefmemaa
