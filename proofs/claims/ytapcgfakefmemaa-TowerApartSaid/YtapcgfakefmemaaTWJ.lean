/-
  A part of the proof: contracts of inner functions.
-/
import Derived.Test.YtapcgfakefmemaaTWH
set_option linter.unusedVariables false
set_option linter.unusedSimpArgs false
namespace Go.Proofs.Ytapcgfakefmemaa
open Go.Am
def wat (W : List Int) (a : Int) : Int := if 0 ≤ a ∧ a < W.length then W.getD a.toNat 0 else 0
theorem wat_in {W : List Int} {i : Nat} (hi : i < W.length) : wat W i = W[i] := by
  unfold wat
  rw [if_pos (by omega), Int.toNat_natCast]
  simp [List.getD, hi]
theorem wat_out {W : List Int} {a : Int} (h : a < 0 ∨ (W.length : Int) ≤ a) : wat W a = 0 := if_neg (by omega)
structure IsMem (h : PT ABlk) (mb wb : Nat) (W : List Int) (lg : Value) : Prop where
  row : h.get mb = some (.cells (PT.ofList .leaf 0 [.slice (some ⟨wb, 0, none⟩) W.length W.length, lg]) false)
  words : h.get wb = some (.cells (PT.ofList .leaf 0 (W.map (.int .u64))) false)
theorem IsMem.keep {h h' : PT ABlk} {mb wb : Nat} {W : List Int} {lg : Value} (H : IsMem h mb wb W lg) (k : Kept h h') : IsMem h' mb wb W lg := ⟨k _ _ H.row, k _ _ H.words⟩
theorem memPeekB {O : Over} (o51 : O 51 = fun _ => none) (o54 : O 54 = fun _ => none) (mb wb : Nat) (W : List Int) (lg : Value) (a : Int) (h : PT ABlk) (n : Nat) (hM : IsMem h mb wb W lg) :
    EvB Try.prog O 72 [.pointer (some ⟨mb, 0, none⟩), .int .i64 a] h n fun r h' n' => r = .tuple ⟨[.int .u64 (wat W a), .bool (decide (0 ≤ a ∧ a < W.length))]⟩ ∧ h' = h ∧ n' = n := by
  obtain ⟨hm, hw⟩ := hM
  refine EvB_run (N := 17) Try.func72 rfl rfl fun z hP hO hro hN hQ => ?_
  repeat' first | simp (maxSteps := 2000000) (disch := omega) only [go_sem, *, Try.results72] | (first | apply xg1 | apply xc1 | apply xg2 | apply xc2 | apply xc3 | apply xc4 | apply xg3 | apply xg4) <;> intro _
  refine EvQ_call ?_ ?_ (by rw [hP, hO]; exact memCheckB mb _ _ _ _ false 0 a _ _ hm (by omega)) ?_
  · simp (maxSteps := 2000000) (disch := omega) only [go_sem, *]
  · simp (maxSteps := 2000000) (disch := omega) only [go_sem, *]
  rintro r h1 n1 ⟨rfl, hh, hn⟩
  subst hh hn
  by_cases hc : 0 ≤ a ∧ a < W.length
  · rw [if_pos hc]
    rw [decide_eq_true hc] at hQ
    obtain ⟨i, rfl⟩ : ∃ i : Nat, a = i := ⟨a.toNat, by omega⟩
    have hi : i < W.length := by omega
    rw [wat_in hi] at hQ
    have hg := mapW_get hi
    have hml : (W.map (Value.int .u64)).length = W.length := List.length_map _
    clear hc
    generalize W[i] = x at *
    repeat' first | simp (maxSteps := 2000000) (disch := omega) only [go_sem, *, Try.results72] | (first | apply xg1 | apply xc1 | apply xg2 | apply xc2 | apply xc3 | apply xc4 | apply xg3 | apply xg4) <;> intro _
    refine EvQ_call ?_ ?_ (by rw [hP, hO]; exact loadB wb i _ false x _ _ hw hg) ?_
    · simp (maxSteps := 2000000) (disch := omega) only [go_sem, *]
    · simp (maxSteps := 2000000) (disch := omega) only [go_sem, *]
    rintro r h2 n2 ⟨rfl, hh, hn⟩
    subst hh hn
    repeat' first | simp (maxSteps := 2000000) (disch := omega) only [go_sem, *, Try.results72] | (first | apply xg1 | apply xc1 | apply xg2 | apply xc2 | apply xc3 | apply xc4 | apply xg3 | apply xg4) <;> intro _
  · rw [if_neg hc]
    rw [decide_eq_false hc, wat_out (by omega)] at hQ
    clear hc
    repeat' first | simp (maxSteps := 2000000) (disch := omega) only [go_sem, *, Try.results72] | (first | apply xg1 | apply xc1 | apply xg2 | apply xc2 | apply xc3 | apply xc4 | apply xg3 | apply xg4) <;> intro _
theorem towPeekB {O : Over} (o72 : O 72 = fun _ => none) (o51 : O 51 = fun _ => none) (o54 : O 54 = fun _ => none) (tb mb wb : Nat) (lp : Value) (W : List Int) (lg : Value) (a e : Int) (h : PT ABlk) (n : Nat) (ht : h.get tb = some (.cells (PT.ofList .leaf 0 [.pointer (some ⟨mb, 0, none⟩), lp]) false)) (hM : IsMem h mb wb W lg) :
    EvB Try.prog O 39 [.pointer (some ⟨tb, 0, none⟩), .int .i64 a, .int .i64 e] h n fun r h' n' => r = .int .u64 (if e = 0 then wat W a else 0) ∧ h' = h ∧ n' = n := by
  refine EvB_run (N := 21) Try.func39 rfl rfl fun z hP hO hro hN hQ => ?_
  by_cases he : e = 0
  · subst he
    rw [if_pos rfl] at hQ
    repeat' first | simp (maxSteps := 2000000) (disch := omega) only [go_sem, *, Try.results39] | (first | apply xg1 | apply xc1 | apply xg2 | apply xc2 | apply xc3 | apply xc4 | apply xg3 | apply xg4) <;> intro _
    refine EvQ_call ?_ ?_ (by rw [hP, hO]; exact memPeekB o51 o54 mb wb W lg a _ _ hM) ?_
    · simp (maxSteps := 2000000) (disch := omega) only [go_sem, *]
    · simp (maxSteps := 2000000) (disch := omega) only [go_sem, *]
    rintro r h1 n1 ⟨rfl, hh, hn⟩
    subst hh hn
    repeat' first | simp (maxSteps := 2000000) (disch := omega) only [go_sem, *, Try.results39] | (first | apply xg1 | apply xc1 | apply xg2 | apply xc2 | apply xc3 | apply xc4 | apply xg3 | apply xg4) <;> intro _
  · rw [if_neg he] at hQ
    repeat' first | simp (maxSteps := 2000000) (disch := omega) only [go_sem, *, Try.results39] | (first | apply xg1 | apply xc1 | apply xg2 | apply xc2 | apply xc3 | apply xc4 | apply xg3 | apply xg4) <;> intro _
def aft (l : LayV) (W : List Int) (r lv : Int) : Int := if nxtE l r lv = 0 then (if wat W (nxtA l r lv) ≤ l.H.length then wat W (nxtA l r lv) else 0) else 0
theorem wat_u64 {W : List Int} (h : ∀ x ∈ W, 0 ≤ x ∧ x < 18446744073709551616) (a : Int) : 0 ≤ wat W a ∧ wat W a < 18446744073709551616 := by
  unfold wat
  split
  · rename_i hc
    have : W.getD a.toNat 0 = W[a.toNat]'(by omega) := by simp [List.getD, show a.toNat < W.length by omega]
    rw [this]
    exact h _ (List.getElem_mem _)
  · omega
end Go.Proofs.Ytapcgfakefmemaa
set_option linter.unusedVariables false
set_option linter.unusedSimpArgs false
namespace Go.Proofs.Ytapcgfakefmemaa
open Go.Am
noncomputable def rdM : Value → AP (List Int)
  | .pointer (some ⟨mb, 0, none⟩) => AP.row mb fun (S : List Value) ro => match S with
    | [.slice (some ⟨wb, 0, none⟩) len cap, lg] => AP.row wb fun (L : List Value) ro2 => match decInts .u64 L with
      | some W => cond (Nat.beq len W.length && Nat.beq cap W.length && !ro && !ro2) (.pure W) (.fail "")
      | none => .fail ""
    | _ => .fail ""
  | _ => .fail ""
theorem rdM_reads (v : Value) : Reads (rdM v) := by
  unfold rdM
  split
  · refine row_reads fun S ro => ?_
    split
    · refine row_reads fun L ro2 => ?_
      split
      · exact .cond (.pure _) (.fail _)
      · exact .fail _
    · exact .fail _
  · exact .fail _
theorem rdM_look {v : Value} {h : PT ABlk} {W : List Int} (e : (rdM v).look h = some W) : ∃ mb wb lg, v = .pointer (some ⟨mb, 0, none⟩) ∧ IsMem h mb wb W lg := by
  unfold rdM at e
  split at e
  · rename_i mb
    obtain ⟨S, ro, hb, e⟩ := look_row e
    split at e
    · rename_i wb len cap lg
      obtain ⟨L, ro2, hw, e⟩ := look_row e
      split at e
      · rename_i W' hd
        obtain ⟨hc, e⟩ := look_cond e
        rw [look_pure] at e
        obtain rfl := Option.some.inj e
        simp only [Bool.and_eq_true, Bool.not_eq_true'] at hc
        obtain ⟨⟨⟨h1, h2⟩, rfl⟩, rfl⟩ := hc
        have h1 := Nat.eq_of_beq_eq_true h1
        have h2 := Nat.eq_of_beq_eq_true h2
        subst h1 h2
        rw [decInts_eq hd] at hw
        exact ⟨mb, wb, lg, rfl, hb, hw⟩
      · simp [AP.look] at e
    · simp [AP.look] at e
  · simp [AP.look] at e
theorem IsMem.look {h : PT ABlk} {mb wb : Nat} {W : List Int} {lg : Value} (H : IsMem h mb wb W lg) : (rdM (.pointer (some ⟨mb, 0, none⟩))).look h = some W := by
  unfold rdM
  simp only [AP.row, look_get, H.row, rowB_row, H.words, decInts_map, show ∀ n, Nat.beq n n = true from Nat.beq_refl, Bool.and_self, Bool.not_false, cond_true, look_pure]
noncomputable def peekS : List Value → Option (AP Value)
  | [.pointer (some a), .int .i64 x] => some ((rdM (.pointer (some a))).bind fun W => .pure (.tuple ⟨[.int .u64 (wat W x), .bool (decide (0 ≤ x ∧ x < W.length))]⟩))
  | _ => none
theorem peekF : SoundF Try.prog 72 peekS := by
  refine soundF_look (O := tabO []) (tab_sound .nil) orders ?_ ?_ ?_
  · intro args m hm
    unfold peekS at hm
    split at hm
    · obtain rfl := Option.some.inj hm; exact (rdM_reads _).bind fun l => .pure _
    · simp at hm
  · intro args m h v hm e
    unfold peekS at hm
    split at hm
    · obtain rfl := Option.some.inj hm
      obtain ⟨l, _, e⟩ := look_bind_some e
      rw [look_pure] at e; obtain rfl := Option.some.inj e
      exact .tuple _ (by simp; exact ⟨.int _ _, .bool _⟩)
    · simp at hm
  · intro args m h N v hm hR hlt e
    unfold peekS at hm
    split at hm
    · rename_i pa x
      obtain rfl := Option.some.inj hm
      obtain ⟨W, hl, e⟩ := look_bind_some e
      rw [look_pure] at e; obtain rfl := Option.some.inj e
      obtain ⟨mb, wb, lg, hp, hM⟩ := rdM_look hl
      cases hp
      refine (memPeekB (O := tabO []) rfl rfl mb wb W lg x h N hM).mono ?_
      rintro r h' n' ⟨rfl, rfl, rfl⟩
      exact ⟨rfl, fun _ _ => rfl⟩
    · simp at hm
noncomputable def towPeekS : List Value → Option (AP Value)
  | [.pointer (some ⟨tb, 0, none⟩), .int .i64 a, .int .i64 e] => some (AP.row tb fun (S : List Value) ro => match S with
    | [.pointer (some m), lp] => (rdM (.pointer (some m))).bind fun W => cond ro (.fail "") (.pure (.int .u64 (if e = 0 then wat W a else 0)))
    | _ => .fail "")
  | _ => none
theorem towPeekF : SoundF Try.prog 39 towPeekS := by
  refine soundF_look (O := tabO []) (tab_sound .nil) orders ?_ ?_ ?_
  · intro args m hm
    unfold towPeekS at hm
    split at hm
    · obtain rfl := Option.some.inj hm
      refine row_reads fun S ro => ?_
      split
      · refine (rdM_reads _).bind fun l => ?_
        cases ro
        · exact .pure _
        · exact .fail _
      · exact .fail _
    · simp at hm
  · intro args m h v hm e
    unfold towPeekS at hm
    split at hm
    · obtain rfl := Option.some.inj hm
      obtain ⟨S, ro, hb, e⟩ := look_row e
      split at e
      · obtain ⟨W, _, e⟩ := look_bind_some e
        cases ro with
        | true => simp [AP.look] at e
        | false =>
          simp only [cond_false] at e
          rw [look_pure] at e; obtain rfl := Option.some.inj e
          exact .int _ _
      · simp [AP.look] at e
    · simp at hm
  · intro args m h N v hm hR hlt e
    unfold towPeekS at hm
    split at hm
    · rename_i tb a x
      obtain rfl := Option.some.inj hm
      obtain ⟨S, ro, hb, e⟩ := look_row e
      split at e
      · rename_i mp lp
        obtain ⟨W, hl, e⟩ := look_bind_some e
        cases ro with
        | true => simp [AP.look] at e
        | false =>
          simp only [cond_false] at e
          rw [look_pure] at e; obtain rfl := Option.some.inj e
          obtain ⟨mb, wb, lg, hp, hM⟩ := rdM_look hl
          cases hp
          refine (towPeekB (O := tabO []) rfl rfl rfl tb mb wb lp W lg a x h N hb hM).mono ?_
          rintro r h' n' ⟨rfl, rfl, rfl⟩
          exact ⟨rfl, fun _ _ => rfl⟩
      · simp [AP.look] at e
    · simp at hm
theorem afterB {O : Over} (oN : O 18 = nextS) (oT : O 40 = towersS) (o39 : O 39 = towPeekS) (tb mb lb wb : Nat) (l : LayV) (W : List Int) (lg : Value) (r lv : Int) (h : PT ABlk) (n : Nat)
    (ht : h.get tb = some (.cells (PT.ofList .leaf 0 [.pointer (some ⟨mb, 0, none⟩), .pointer (some ⟨lb, 0, none⟩)]) false)) (hM : IsMem h mb wb W lg) (hl : (rdL (.pointer (some ⟨lb, 0, none⟩))).look h = some l) (hu : ∀ x ∈ W, 0 ≤ x ∧ x < 18446744073709551616) (hH : l.H.length ≤ 2000) :
    EvB Try.prog O 11 [.pointer (some ⟨tb, 0, none⟩), .int .i64 r, .int .i64 lv] h n fun v h' n' => v = .tuple ⟨[.int .i64 (aft l W r lv), .int .i64 (nxtE l r lv)]⟩ ∧ h' = h ∧ n' = n := by
  have hrm := fun h' hk z f d ops r K m n => @EvV_look _ _ _ _ h' hM.look z f d ops r K m n hk
  have hrl := fun h' hk z f d ops r K m n => @EvV_look _ _ _ _ h' hl z f d ops r K m n hk
  refine EvB_run (N := 40) Try.func11 rfl rfl fun z hP hO hro hN hQ => ?_
  unfold aft at hQ
  obtain ⟨u0, u1⟩ := wat_u64 hu (nxtA l r lv)
  by_cases he : nxtE l r lv = 0
  · rw [if_pos he, he] at hQ
    by_cases hw : wat W (nxtA l r lv) ≤ (l.H.length : Int)
    · rw [if_pos hw] at hQ
      repeat' first | simp (maxSteps := 2000000) (disch := first | omega | assumption | exact Kept.refl _) only [go_sem, *, Try.results11, nextS, nextV, towersS, towPeekS] | (first | apply xg1 | apply xc1 | apply xg2 | apply xc2 | apply xc3 | apply xc4 | apply xg3 | apply xg4) <;> intro _
    · rw [if_neg hw] at hQ
      repeat' first | simp (maxSteps := 2000000) (disch := first | omega | assumption | exact Kept.refl _) only [go_sem, *, Try.results11, nextS, nextV, towersS, towPeekS] | (first | apply xg1 | apply xc1 | apply xg2 | apply xc2 | apply xc3 | apply xc4 | apply xg3 | apply xg4) <;> intro _
  · rw [if_neg he] at hQ
    clear u0 u1
    repeat' first | simp (maxSteps := 2000000) (disch := first | omega | assumption | exact Kept.refl _) only [go_sem, *, Try.results11, nextS, nextV, towersS, towPeekS] | (first | apply xg1 | apply xc1 | apply xg2 | apply xc2 | apply xc3 | apply xc4 | apply xg3 | apply xg4) <;> intro _
end Go.Proofs.Ytapcgfakefmemaa
set_option linter.unusedVariables false
set_option linter.unusedSimpArgs false
namespace Go.Proofs.Ytapcgfakefmemaa
open Go.Am
def idx (i n : Int) : Int := (i.tmod n + n).tmod n
theorem idx_range {i n : Int} (h : 0 < n) : 0 ≤ idx i n ∧ idx i n < n := by
  unfold idx
  have h1 : -n < i.tmod n := by
    have := Int.lt_tmod_of_pos i h
    omega
  have h2 : 0 ≤ i.tmod n + n := by omega
  exact ⟨Int.tmod_nonneg _ h2, Int.tmod_lt_of_pos _ h⟩
noncomputable def idxS : List Value → Option (AP Value)
  | [.int .i64 i, .int .i64 n] => some (cond (decide (0 < n ∧ n ≤ 100000)) (.pure (.int .i64 (idx i n))) (.fail ""))
  | _ => none
theorem idxB {O : Over} (i n : Int) (h : PT ABlk) (N : Nat) (h1 : 0 < n) (h2 : n ≤ 100000) : EvB Try.prog O 9 [.int .i64 i, .int .i64 n] h N fun r h' n' => r = .int .i64 (idx i n) ∧ h' = h ∧ n' = N := by
  have a1 := Int.lt_tmod_of_pos i h1
  have a2 := Int.tmod_lt_of_pos i h1
  have hn0 : ¬ n = 0 := by omega
  unfold idx
  obtain ⟨x, hx⟩ : ∃ x, i.tmod n = x := ⟨_, rfl⟩
  rw [hx] at a1 a2 ⊢
  obtain ⟨y, hy⟩ : ∃ y, (x + n).tmod n = y := ⟨_, rfl⟩
  have b1 : 0 ≤ y := by rw [← hy]; exact Int.tmod_nonneg _ (by omega)
  have b2 : y < n := by rw [← hy]; exact Int.tmod_lt_of_pos _ h1
  rw [hy]
  refine EvB_run (N := 12) Try.func9 rfl rfl fun z hP hO hro hN hQ => ?_
  repeat' first | simp (maxSteps := 2000000) (disch := first | omega | assumption | exact Kept.refl _) only [go_sem, *, Try.results9] | (first | apply xg1 | apply xc1 | apply xg2 | apply xc2 | apply xc3 | apply xc4 | apply xg3 | apply xg4) <;> intro _
theorem idxF : SoundF Try.prog 9 idxS := by
  refine soundF_query (tab_sound .nil) orders ?_
  intro args m hm
  unfold idxS at hm
  split at hm
  · rename_i i n
    simp only [Option.some.injEq] at hm
    subst hm
    refine ⟨fun h v2 => (0 < n ∧ n ≤ 100000) ∧ v2 = .int .i64 (idx i n), fun h k v2 s' hR e => ?_, fun h N v2 hlt ⟨hp, e⟩ => ?_⟩
    · obtain ⟨hc, e⟩ := run_cond e
      obtain ⟨rfl, rfl⟩ := run_pure e
      exact ⟨rfl, .int _ _, of_decide_eq_true hc, rfl⟩
    · subst e
      refine (idxB (O := tabO []) i n h N hp.1 hp.2).mono ?_
      rintro r h' n' ⟨rfl, rfl, rfl⟩
      exact ⟨rfl, fun _ _ => rfl⟩
  · simp at hm
theorem idxS_eq {i n : Int} (h1 : 0 < n) (h2 : n ≤ 100000) : idxS [.int .i64 i, .int .i64 n] = some (.pure (.int .i64 (idx i n))) := by
  show some (cond (decide (0 < n ∧ n ≤ 100000)) (AP.pure (Value.int .i64 (idx i n))) (AP.fail "")) = _
  rw [decide_eq_true ⟨h1, h2⟩]
  rfl
set_option maxHeartbeats 2000000 in
theorem towNewB {O : Over} (oP : O 27 = placesS) (o20 : O 20 = fun _ => none) (o54 : O 54 = fun _ => none) (mb wb lb : Nat) (l : LayV) (W : List Int) (lg : Value) (q0 q1 q2 q3 q4 q5 q6 q7 q8 : Int) (h : PT ABlk) (N : Nat) (hW : WfH h N) (hM : IsMem h mb wb W lg) (hl : (rdL (.pointer (some ⟨lb, 0, none⟩))).look h = some l) (hP9 : l.P = [q0, q1, q2, q3, q4, q5, q6, q7, q8, (W.length : Int)]) (h2 : W.length ≤ 65536) :
    EvB Try.prog O 34 [.pointer (some ⟨mb, 0, none⟩), .pointer (some ⟨lb, 0, none⟩)] h N fun v h' n' => v = .tuple ⟨[.pointer (some ⟨N + 1, 0, none⟩), .int .i64 0]⟩ ∧ n' = N + 2 ∧ h'.get (N + 1) = some (.cells (PT.ofList .leaf 0 [.pointer (some ⟨mb, 0, none⟩), .pointer (some ⟨lb, 0, none⟩)]) false) ∧ Kept h h' := by
  refine EvB_run (N := 23) Try.func34 rfl rfl fun z hP hO hro hN hQ => ?_
  repeat' first | simp (maxSteps := 2000000) (disch := first | omega | assumption | exact Kept.refl _) only [go_sem, *, Try.results34] | (first | apply xg1 | apply xc1 | apply xg2 | apply xc2 | apply xc3 | apply xc4 | apply xg3 | apply xg4) <;> intro _
  refine EvQ_call ?_ ?_ (by rw [hP, hO]; exact wordsB o54 mb wb _ lg W false false _ _ hW hM.row hM.words h2) ?_
  · simp (maxSteps := 2000000) (disch := first | omega | assumption | exact Kept.refl _) only [go_sem, *]
  · simp (maxSteps := 2000000) (disch := first | omega | assumption | exact Kept.refl _) only [go_sem, *]
  rintro v h1 n1 ⟨rfl, rfl, hr, k1⟩
  have hl1 := look_keep k1 hl
  have hrl := fun h' hk z f d ops r K m n => @EvV_look _ _ _ _ h' hl1 z f d ops r K m n hk
  clear hr hl
  repeat' first | simp (maxSteps := 2000000) (disch := first | omega | assumption | exact Kept.refl _) only [go_sem, *, Try.results34, placesS, List.map_cons, List.map_nil] | (first | apply xg1 | apply xc1 | apply xg2 | apply xc2 | apply xc3 | apply xc4 | apply xg3 | apply xg4) <;> intro _
  exact Kept.set' hW (by omega) k1
set_option maxHeartbeats 2000000 in
theorem rtowNewB {O : Over} (rb lb : Nat) (x : Option Addr) (len cap : Nat) (lg : Value) (S : List Value) (h : PT ABlk) (N : Nat) (hW : WfH h N) (hm : h.get rb = some (.cells (PT.ofList .leaf 0 [.slice x len cap, lg]) false)) (hl : h.get lb = some (.cells (PT.ofList .leaf 0 S) false)) (hS : S[25]? = some (.int .i64 (len : Int))) :
    EvB Try.prog O 35 [.pointer (some ⟨rb, 0, none⟩), .pointer (some ⟨lb, 0, none⟩)] h N fun v h' n' => v = .tuple ⟨[.pointer (some ⟨N, 0, none⟩), .int .i64 0]⟩ ∧ n' = N + 1 ∧ Kept h h' := by
  have h1 := hW.lt hm
  have h2 := hW.lt hl
  refine EvB_run (N := 27) Try.func35 rfl rfl fun z hP hO hro hN hQ => ?_
  repeat' first | simp (maxSteps := 2000000) (disch := first | omega | assumption | exact Kept.refl _) only [go_sem, *, Try.results35] | (first | apply xg1 | apply xc1 | apply xg2 | apply xc2 | apply xc3 | apply xc4 | apply xg3 | apply xg4) <;> intro _ | (first | apply xh1 | apply xh2 | apply xh3 | apply xh4) <;> intro _ | refine EvK_draw (id := 3) (L := w35_3) (by kernel_rfl) (by kernel_rfl) ?_
  exact hW.kept (Nat.le_refl _)
end Go.Proofs.Ytapcgfakefmemaa
