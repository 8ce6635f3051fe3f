/-
  A part of the proof: contracts of inner functions.
-/
import Derived.Test.YtapcgfakefmemaaT9P4
import Derived.Test.YtapcgfakefmemaaT9GC
import Derived.Test.YtapcgfakefmemaaT9P7
set_option linter.unusedVariables false
set_option linter.unusedSimpArgs false
namespace Go.Proofs.Ytapcgfakefmemaa
open Go.Am
theorem asc_zero {xs : List Int} (h : 0 < xs.length) (h0 : ∀ x ∈ xs, 0 ≤ x) : asc 0 xs = if xs.getD 0 0 = 0 then false else asc (xs.getD 0 0) (xs.drop 1) := by
  have := asc_drop (b := 0) (xs := xs) (i := 0) h
  rw [List.drop_zero] at this
  rw [this]
  have h1 : 0 ≤ xs.getD 0 0 := by
    match xs, h with
    | x :: r, _ => exact h0 x (by simp)
  by_cases hx : xs.getD 0 0 = 0
  · rw [if_pos (by omega), if_pos hx]
  · rw [if_neg (by omega), if_neg hx]
set_option maxRecDepth 100000 in
set_option maxHeartbeats 4000000 in
theorem refDom {O : Over} (kd n : Int) (s : Value) (xs : List Int) (h : PT ABlk) (N : Nat) (hN : ∀ i B, h.get i = some B → i < N) (hs : IsInts .u64 h s xs) (hl : xs.length < 1000000000000000) (h0 : ∀ x ∈ xs, 0 ≤ x) :
    EvB Try.prog O 86 [.agg ⟨[.int .u8 kd, .int .i64 n, s]⟩] h N fun v h' n' => v = .int .i64 (errIf (domOk kd n xs)) ∧ ∀ i, i < N → h'.get i = h.get i := by
  have hW := WfH.of_lt hN
  by_cases h3 : kd = 3 ∧ n = 0 ∧ 1 ≤ xs.length ∧ xs.length ≤ 63
  · obtain ⟨rfl, rfl, hx1, hx2⟩ := h3
    rcases hs.shapes with ⟨rfl, rfl⟩ | ⟨b, off, sp, cap, L, ro, rfl, rfl, hb⟩ | ⟨b, off, sp, cap, L, ro, rfl, hb, hB, hT⟩
    · simp at hx1
    · simp at hx1
    clear hB hs
    have hL := isInts_at hT 0 (by omega)
    have hbN := hN _ _ hb
    have hlt1 : ¬ ((xs.length : Int) < 1) := by omega
    have hlt2 : ¬ (63 < (xs.length : Int)) := by omega
    have hd : domOk 3 0 xs = asc 0 xs := by
      have e1 : (1 : Int) ≤ xs.length := by omega
      have e2 : (xs.length : Int) < 64 := by omega
      simp [domOk, e1, e2]
    rw [hd, asc_zero hx1 h0]
    clear hN h0 hd
    refine EvB_run (N := 76) Try.func86 rfl rfl fun z hP hO hro hN hQ => ?_
    rw [Nat.add_zero] at hL
    repeat' first | simp (maxSteps := 2000000) (disch := omega) only [go_sem, *, Try.results86] | (first | apply xg1 | apply xc1 | apply xg2 | apply xc2 | apply xc3 | apply xc4 | apply xg3 | apply xg4) <;> intro _ | (first | apply xh1 | apply xh2 | apply xh3 | apply xh4) <;> intro _ | refine EvK_draw (id := 14) (L := w86_14) (by kernel_rfl) (by kernel_rfl) ?_
    · refine ⟨by simp [errIf, *], fun i hi => by simp (disch := omega) only [heap_ne]⟩
    · rename_i hx0
      rw [if_neg hx0] at hQ
      clear hL hx0
      have hbn : (h.set N (some (.cells (PT.ofList .leaf 0 [.int .u8 3, .int .i64 0, .slice (some ⟨b, off, sp⟩) xs.length cap]) false))).get b = some (.cells (PT.ofList .leaf 0 L) ro) := by rw [heap_ne (by omega)]; exact hb
      have hold2 : ∀ i, i < N → (h.set N (some (.cells (PT.ofList .leaf 0 [.int .u8 3, .int .i64 0, .slice (some ⟨b, off, sp⟩) xs.length cap]) false))).get i = h.get i := fun i hi => by rw [heap_ne (by omega)]
      generalize hh2 : h.set N _ = h2 at *
      have e2 := get_of_set hh2
      clear hh2
      refine ind_loop (fun t m h' n' => ∃ i : Nat, 1 ≤ i ∧ i ≤ xs.length ∧ t = xs.length + 1 - i ∧ asc (xs.getD 0 0) (xs.drop 1) = asc (xs.getD (i - 1) 0) (xs.drop i) ∧ m.n = 76 ∧ m.dfs = [] ∧ m.get 1 = .pointer (some ⟨N, 0, none⟩) ∧ m.get 3 = .int .i64 i ∧ h2 = h') xs.length ?_ ?_
      · refine ⟨1, by omega, by omega, by omega, rfl, ?_⟩
        simp (maxSteps := 2000000) (disch := omega) only [go_sem, *]
        all_goals simp
      · rintro t m h' n' ih ⟨i, hi1, hi2, rfl, hasc, m1, m2, m3, m4, e⟩
        subst e
        by_cases hlt : i < xs.length
        · obtain ⟨j, hj⟩ : ∃ j, j = i - 1 := ⟨_, rfl⟩
          have hL1 := isInts_at hT i hlt
          have hL2 := isInts_at hT j (by omega)
          have hji : (i : Int) - 1 = j := by omega
          have hi7 : (i : Int) < xs.length := by omega
          rw [asc_drop hlt, ← hj] at hasc
          clear hT hj
          repeat' first | simp (maxSteps := 2000000) (disch := omega) only [go_sem, *, Try.results86] | (first | apply xg1 | apply xc1 | apply xg2 | apply xc2 | apply xc3 | apply xc4 | apply xg3 | apply xg4) <;> intro _ | (first | apply xh1 | apply xh2 | apply xh3 | apply xh4) <;> intro _ | refine EvK_draw (id := 14) (L := w86_14) (by kernel_rfl) (by kernel_rfl) ?_
          · exact ⟨by simp [errIf], hold2⟩
          · rename_i hle
            rw [if_neg hle] at hasc
            refine ih (xs.length + 1 - (i + 1)) _ _ _ (by omega) ⟨i + 1, by omega, by omega, by omega, by simpa using hasc, ?_⟩
            clear ih
            simp (maxSteps := 2000000) (disch := omega) only [go_sem, *]
            all_goals simp
        · have hi7 : ¬ (i : Int) < xs.length := by omega
          have hnil : xs.drop i = [] := List.drop_eq_nil_of_le (by omega)
          rw [hnil, asc] at hasc
          clear hT hnil
          repeat' first | simp (maxSteps := 2000000) (disch := omega) only [go_sem, *, Try.results86] | (first | apply xg1 | apply xc1 | apply xg2 | apply xc2 | apply xc3 | apply xc4 | apply xg3 | apply xg4) <;> intro _ | (first | apply xh1 | apply xh2 | apply xh3 | apply xh4) <;> intro _ | refine EvK_draw (id := 14) (L := w86_14) (by kernel_rfl) (by kernel_rfl) ?_
          exact ⟨by simp [errIf], hold2⟩
  · obtain ⟨a, cap, rfl, hA⟩ := hs.len
    clear hs hA
    refine EvB_run (N := 76) Try.func86 rfl rfl fun z hP hO hro hN hQ => ?_
    repeat' first | simp (maxSteps := 2000000) (disch := omega) only [go_sem, *, Try.results86] | (first | apply xg1 | apply xc1 | apply xg2 | apply xc2 | apply xc3 | apply xc4 | apply xg3 | apply xg4) <;> intro _ | (first | apply xh1 | apply xh2 | apply xh3 | apply xh4) <;> intro _ | refine EvK_draw (id := 14) (L := w86_14) (by kernel_rfl) (by kernel_rfl) ?_
    all_goals first | (exfalso; omega) | skip
    all_goals refine ⟨?_, fun i hi => by simp (disch := omega) only [heap_ne]⟩
    all_goals simp (maxSteps := 2000000) (disch := omega) only [go_sem, *, errIf, domOk, Bool.false_eq_true]
    all_goals rw [if_neg (fun hh => by simp only [Bool.and_eq_true, decide_eq_true_eq] at hh; omega)]
end Go.Proofs.Ytapcgfakefmemaa
set_option linter.unusedVariables false
set_option linter.unusedSimpArgs false
namespace Go.Proofs.Ytapcgfakefmemaa
open Go.Am
def nonneg (xs : List Int) : Bool := decide (xs.length < 1000000000000000) && xs.all fun x => decide (0 ≤ x)
theorem nonneg_of {xs : List Int} (hl : xs.length < 1000000000000000) (h0 : ∀ x ∈ xs, 0 ≤ x) : nonneg xs = true := by
  simp [nonneg, hl]; exact h0
theorem of_nonneg {xs : List Int} (h : nonneg xs = true) : xs.length < 1000000000000000 ∧ ∀ x ∈ xs, 0 ≤ x := by
  simp [nonneg] at h; exact h
def refDomS : List Value → Option (AP Value)
  | [.agg ⟨[.int .u8 kind, .int .i64 n, s]⟩] => some ((rdInts .u64 s).bind fun xs => cond (nonneg xs) (.pure (.int .i64 (errIf (domOk kind n xs)))) (.fail ""))
  | _ => none
theorem refDomF : SoundF Try.prog 86 refDomS := by
  refine soundF_query (tab_sound .nil) orders ?_
  intro args m hm
  unfold refDomS at hm
  split at hm
  · rename_i kind n s
    simp only [Option.some.injEq] at hm
    subst hm
    refine ⟨fun h v => ∃ xs, IsInts .u64 h s xs ∧ nonneg xs = true ∧ v = .int .i64 (errIf (domOk kind n xs)), fun h n v s' hR e => ?_, fun h N v hlt hv => ?_⟩
    · obtain ⟨xs, hx, e⟩ := run_ints hR e
      obtain ⟨hl, e⟩ := run_cond e
      obtain ⟨h1, rfl⟩ := run_pure e
      exact ⟨h1, .int _ _, xs, hx, hl, rfl⟩
    · obtain ⟨xs, hx, hl, rfl⟩ := hv
      exact refDom kind n s xs h N hlt hx (of_nonneg hl).1 (of_nonneg hl).2
  · simp at hm
abbrev Or3 : Over := tabO [(86, refDomS)]
theorem Or3ok : SoundO Try.prog Or3 := tab_sound (.cons refDomF .nil)
def refValuesS : List Value → Option (AP Value)
  | [.agg ⟨[.int .u8 kd, .int .i64 dn, s]⟩] => some ((rdInts .u64 s).bind fun xs => cond (nonneg xs) (.pure (if domOk kd dn xs then .tuple ⟨[.int .i64 (domCount kd dn xs), .int .i64 0]⟩ else .tuple ⟨[.int .i64 0, .int .i64 2]⟩)) (.fail ""))
  | _ => none
set_option maxRecDepth 100000 in
theorem refValuesF : SoundF Try.prog 63 refValuesS := by
  refine soundF_query Or3ok orders ?_
  intro args m hm
  unfold refValuesS at hm
  split at hm
  · rename_i kd dn s
    simp only [Option.some.injEq] at hm
    subst hm
    refine ⟨fun h v => ∃ xs, IsInts .u64 h s xs ∧ nonneg xs = true ∧ v = if domOk kd dn xs then .tuple ⟨[.int .i64 (domCount kd dn xs), .int .i64 0]⟩ else .tuple ⟨[.int .i64 0, .int .i64 2]⟩, fun h n v s' hR e => ?_, fun h N v hlt hv => ?_⟩
    · obtain ⟨xs, hx, e⟩ := run_ints hR e
      obtain ⟨hl, e⟩ := run_cond e
      obtain ⟨h1, rfl⟩ := run_pure e
      refine ⟨h1, ?_, xs, hx, hl, rfl⟩
      split
      · exact .tuple _ (by simp; exact ⟨.int _ _, .int _ _⟩)
      · exact .tuple _ (by simp; exact ⟨.int _ _, .int _ _⟩)
    · obtain ⟨xs, hx, hl, rfl⟩ := hv
      have hll := (of_nonneg hl).1
      have hrd := fun h' hk z f d ops r K m n => @EvV_ints _ _ h' _ _ hx z f d ops r K m n hk
      obtain ⟨a, cap, rfl, -⟩ := hx.len
      refine EvB_run (N := 22) Try.func63 rfl rfl ?_
      intro z hP hO hro hN hQ
      repeat' first | simp (maxSteps := 2000000) (disch := first | omega | (repeat first | assumption | exact Kept.refl _ | refine Kept.set' (by assumption) ?_ ?_ | refine Kept.set (by assumption) ?_ ?_ | omega)) only [go_sem, *, Try.results63, refDomS, errIf_eq] | (first | apply xg1 | apply xc1 | apply xg2 | apply xc2 | apply xc3 | apply xc4 | apply xg3 | apply xg4) <;> intro _ | (first | apply xh1 | apply xh2 | apply xh3 | apply xh4) <;> intro _ | refine EvK_draw (by cbv) (by first | rfl | cbv) ?_
      all_goals refine ⟨?_, fun i hi => by simp (disch := omega) only [heap_ne]⟩
      all_goals (try simp only [Bool.not_eq_false] at *)
      all_goals simp (maxSteps := 2000000) (disch := first | omega | (repeat first | assumption | exact Kept.refl _ | refine Kept.set' (by assumption) ?_ ?_ | refine Kept.set (by assumption) ?_ ?_ | omega)) only [go_sem, *, errIf, domCount, Bool.false_eq_true]
      all_goals (rename_i hk hd; subst hk; rw [if_pos hd])
  · simp at hm
theorem cfgOk_iff {th sl en bu kd dn t0 t1 t2 t3 t4 t5 lo tr ba : Int} {xs : List Int} : cfgOk th sl en bu kd dn t0 t1 t2 t3 t4 t5 lo tr ba xs = true ↔
    (0 ≤ t0 ∧ 0 ≤ t1 ∧ 0 ≤ t2 ∧ 0 ≤ t3 ∧ 0 ≤ t4 ∧ 0 ≤ t5 ∧ t0 + t1 + t2 + t3 + t4 + t5 ≤ 1024 ∧ 1 ≤ th ∧ th ≤ 64 ∧ 1 ≤ sl ∧ sl ≤ 64 ∧ 1 ≤ en ∧ en ≤ 3 ∧ (en = 3 → 1 ≤ bu ∧ bu ≤ 16) ∧ (en ≠ 3 → bu = 0) ∧ 1 ≤ lo ∧ lo ≤ 16 ∧ 1 ≤ tr ∧ tr ≤ 255 ∧ 0 ≤ ba ∧ ba ≤ 64) ∧ domOk kd dn xs = true := by
  simp only [cfgOk, Bool.and_eq_true, Bool.not_eq_true', Bool.or_eq_false_iff, decide_eq_true_eq, decide_eq_false_iff_not]
  by_cases h3 : en = 3
  · simp only [h3, if_true, Bool.and_eq_true, decide_eq_true_eq, forall_const, ne_eq, not_true_eq_false, false_implies, true_and, and_true, Std.le_refl, Int.reduceLE, implies_true]
    constructor
    · rintro ⟨⟨⟨⟨⟨⟨⟨⟨⟨⟨⟨⟨⟨⟨a0, a1⟩, a2⟩, a3⟩, a4⟩, a5⟩, a6⟩, a7⟩, a8⟩, a9⟩, a10⟩, a11⟩, a12⟩, a13⟩, a14⟩
      exact ⟨by omega, a11⟩
    · rintro ⟨hh, hd⟩
      refine ⟨⟨⟨⟨⟨⟨⟨⟨⟨⟨⟨⟨⟨⟨?_, ?_⟩, ?_⟩, ?_⟩, ?_⟩, ?_⟩, ?_⟩, ?_⟩, ?_⟩, ?_⟩, ?_⟩, hd⟩, ?_⟩, ?_⟩, ?_⟩ <;> omega
  · simp only [if_neg h3, decide_eq_true_eq]
    constructor
    · rintro ⟨⟨⟨⟨⟨⟨⟨⟨⟨⟨⟨⟨⟨⟨a0, a1⟩, a2⟩, a3⟩, a4⟩, a5⟩, a6⟩, a7⟩, a8⟩, a9⟩, a10⟩, a11⟩, a12⟩, a13⟩, a14⟩
      exact ⟨by omega, a11⟩
    · rintro ⟨hh, hd⟩
      refine ⟨⟨⟨⟨⟨⟨⟨⟨⟨⟨⟨⟨⟨⟨?_, ?_⟩, ?_⟩, ?_⟩, ?_⟩, ?_⟩, ?_⟩, ?_⟩, ?_⟩, ?_⟩, ?_⟩, hd⟩, ?_⟩, ?_⟩, ?_⟩ <;> omega
theorem errIf_bad {b : Bool} (h : ¬ b = true) : errIf b = 2 := by simp [errIf, h]
theorem errIf_good {b : Bool} (h : b = true) : errIf b = 0 := by simp [errIf, h]
end Go.Proofs.Ytapcgfakefmemaa
set_option linter.unusedVariables false
set_option linter.unusedSimpArgs false
namespace Go.Proofs.Ytapcgfakefmemaa
open Go.Am
set_option maxHeartbeats 4000000 in
set_option maxRecDepth 100000 in
theorem refCheck (th sl en bu kd dn t0 t1 t2 t3 t4 t5 lo tr ba : Int) (s : Value) (xs : List Int) (h : PT ABlk) (N : Nat) (hN : ∀ i B, h.get i = some B → i < N) (hs : IsInts .u64 h s xs) (hl : nonneg xs = true) :
    EvB Try.prog Or3 62 [.agg ⟨[.int .i64 th, .int .i64 sl, .int .u8 en, .int .i64 bu, .int .u8 kd, .int .i64 dn, s, .int .i64 t0, .int .i64 t1, .int .i64 t2, .int .i64 t3, .int .i64 t4, .int .i64 t5, .int .i64 lo, .int .i64 tr, .int .i64 ba]⟩] h N
      fun v h' n' => v = .int .i64 (errIf (cfgOk th sl en bu kd dn t0 t1 t2 t3 t4 t5 lo tr ba xs)) ∧ ∀ i, i < N → h'.get i = h.get i := by
  obtain ⟨a, cap, rfl, -⟩ := hs.len
  have hrd := fun h' hk z f d ops r K m n => @EvV_ints _ _ h' _ _ hs z f d ops r K m n hk
  refine EvB_run (N := 112) Try.func62 rfl rfl ?_
  intro z hP hO hro hN hQ
  repeat' first | simp (maxSteps := 2000000) (disch := first | omega | (repeat first | assumption | exact Kept.refl _ | refine Kept.set' (by assumption) ?_ ?_ | refine Kept.set (by assumption) ?_ ?_ | omega)) only [go_sem, *, Try.results62, refDomS, EvK_loop, errIf_eq] | (first | apply xg1 | apply xc1 | apply xg2 | apply xc2 | apply xc3 | apply xc4 | apply xg3 | apply xg4) <;> intro _ | (first | apply xh1 | apply xh2 | apply xh3 | apply xh4) <;> intro _ | refine EvK_draw (by cbv) (by first | rfl | cbv) ?_
  all_goals refine ⟨?_, fun i hi => by simp (disch := omega) only [heap_ne]⟩
  all_goals first
    | (rw [errIf_bad]; rw [cfgOk_iff]; intro hh; omega)
    | (rw [errIf_bad]; rw [cfgOk_iff]; intro hh; simp_all; done)
    | (rw [errIf_good]; rw [cfgOk_iff]; refine ⟨by omega, by simp_all⟩)
def refCheckS : List Value → Option (AP Value)
  | [.agg ⟨[.int .i64 th, .int .i64 sl, .int .u8 en, .int .i64 bu, .int .u8 kd, .int .i64 dn, s, .int .i64 t0, .int .i64 t1, .int .i64 t2, .int .i64 t3, .int .i64 t4, .int .i64 t5, .int .i64 lo, .int .i64 tr, .int .i64 ba]⟩] =>
    some ((rdInts .u64 s).bind fun xs => cond (nonneg xs) (.pure (.int .i64 (errIf (cfgOk th sl en bu kd dn t0 t1 t2 t3 t4 t5 lo tr ba xs)))) (.fail ""))
  | _ => none
theorem refCheckF : SoundF Try.prog 62 refCheckS := by
  refine soundF_query Or3ok orders ?_
  intro args m hm
  unfold refCheckS at hm
  split at hm
  · rename_i th sl en bu kd dn s t0 t1 t2 t3 t4 t5 lo tr ba
    simp only [Option.some.injEq] at hm
    subst hm
    refine ⟨fun h v => ∃ xs, IsInts .u64 h s xs ∧ nonneg xs = true ∧ v = .int .i64 (errIf (cfgOk th sl en bu kd dn t0 t1 t2 t3 t4 t5 lo tr ba xs)), fun h n v s' hR e => ?_, fun h N v hlt hv => ?_⟩
    · obtain ⟨xs, hx, e⟩ := run_ints hR e
      obtain ⟨hl, e⟩ := run_cond e
      obtain ⟨h1, rfl⟩ := run_pure e
      exact ⟨h1, .int _ _, xs, hx, hl, rfl⟩
    · obtain ⟨xs, hx, hl, rfl⟩ := hv
      exact refCheck th sl en bu kd dn t0 t1 t2 t3 t4 t5 lo tr ba s xs h N hlt hx hl
  · simp at hm
end Go.Proofs.Ytapcgfakefmemaa
set_option linter.unusedVariables false
set_option linter.unusedSimpArgs false
namespace Go.Proofs.Ytapcgfakefmemaa
open Go.Am
def GrowCells (sz : Nat) (h : PT ABlk) (s : Value) (L : List Value) (k : Nat) : Prop :=
  (s = .slice none 0 0 ∧ L = [] ∧ k = 0) ∨ ∃ b, s = .slice (some ⟨b, 0, none⟩) k (capInf + sz) ∧ h.get b = some (.cells (PT.ofList .leaf 0 L) false) ∧ L.length = k * sz
def plc (x : Int × Int × Int) : List Value := [.int .u8 x.1, .int .i64 x.2.1, .int .i64 x.2.2]
def plcs (W : List (Int × Int × Int)) : List Value := W.flatMap plc
theorem plcs_length : ∀ W : List (Int × Int × Int), (plcs W).length = W.length * 3
  | [] => rfl
  | x :: W => by
    have := plcs_length W
    unfold plcs at *
    rw [List.flatMap_cons, List.length_append, this]
    simp only [plc, List.length_cons, List.length_nil]; omega
theorem plcs_append (W V : List (Int × Int × Int)) : plcs (W ++ V) = plcs W ++ plcs V := List.flatMap_append
def grp (kind first : Int) (p n : Nat) : List (Int × Int × Int) := (List.range n).map fun i => (kind, first + ((i / p : Nat) : Int), ((i % p : Nat) : Int))
theorem grp_succ {kind first : Int} {p n : Nat} : grp kind first p (n + 1) = grp kind first p n ++ [(kind, first + ((n / p : Nat) : Int), ((n % p : Nat) : Int))] := by
  simp [grp, List.range_succ]
theorem grp_length {kind first : Int} {p n : Nat} : (grp kind first p n).length = n := by simp [grp]
set_option maxRecDepth 100000 in
set_option maxHeartbeats 4000000 in
theorem group {O : Over} (lb : Nat) (S : List Value) (wv : Value) (L : List Value) (k n p : Nat) (kind first : Int) (h : PT ABlk) (N : Nat) (hW : WfH h N) (hb : h.get lb = some (.cells (PT.ofList .leaf 0 S) false)) (hS : S.length = 28) (h27 : S[27]? = some wv)
    (hg : GrowCells 3 h wv L k) (hne : ∀ b k c, wv = .slice (some ⟨b, 0, none⟩) k c → b ≠ lb) (hk : k + n ≤ 1000000) (hp : 1 ≤ p) (hp2 : p ≤ 1000000) (hf : 0 ≤ first) (hf2 : first ≤ 1000000) :
    EvB Try.prog O 64 [.pointer (some ⟨lb, 0, none⟩), .int .i64 n, .int .u8 kind, .int .i64 first, .int .i64 p] h N fun v h' n' => v = .int .i64 k ∧
      ∃ wv', h'.get lb = some (.cells (PT.ofList .leaf 0 (S.set 27 wv')) false) ∧ GrowCells 3 h' wv' (L ++ plcs (grp kind first p n)) (k + n) ∧ (wv' = wv ∧ n = 0 ∨ ∃ b, wv' = .slice (some ⟨b, 0, none⟩) (k + n) (capInf + 3) ∧ N ≤ b ∧ 0 < n) ∧
        ∀ i, i < N → i ≠ lb → (∀ k c, wv ≠ .slice (some ⟨i, 0, none⟩) k c) → h'.get i = h.get i := by
  have hlbN := hW.lt hb
  have hlen : (.slice none 0 0 : Value) = .slice none 0 0 := rfl
  refine EvB_run (N := 43) Try.func64 rfl rfl fun z hP hO hro hN hQ => ?_
  have hx : ∃ a c, wv = .slice a k c := by
    rcases hg with ⟨rfl, rfl, rfl⟩ | ⟨b, rfl, _, _⟩
    · exact ⟨_, _, rfl⟩
    · exact ⟨_, _, rfl⟩
  obtain ⟨a, c, hwv⟩ := hx
  rw [hwv] at h27
  repeat' first | simp (maxSteps := 2000000) (disch := omega) only [go_sem, *, Try.results64] | (first | apply xg1 | apply xc1 | apply xg2 | apply xc2 | apply xc3 | apply xc4 | apply xg3 | apply xg4) <;> intro _ | (first | apply xh1 | apply xh2 | apply xh3 | apply xh4) <;> intro _ | refine EvK_draw (id := 5) (L := w64_5) (by kernel_rfl) (by kernel_rfl) ?_
  rw [← hwv] at h27
  clear hwv
  have hset : S.set 27 wv = S := by
    apply List.ext_getElem?
    intro i
    rw [List.getElem?_set]
    split
    · rename_i e; subst e; rw [if_pos (by omega)]; exact h27.symm
    · rfl
  refine ind_loop (fun t m h' n' => ∃ (j : Nat) (wv' : Value), j ≤ n ∧ t = n - j ∧ m.n = 43 ∧ m.dfs = [] ∧ m.get 0 = .pointer (some ⟨lb, 0, none⟩) ∧ m.get 1 = .int .i64 n ∧ m.get 2 = .int .u8 kind ∧ m.get 3 = .int .i64 first ∧ m.get 4 = .int .i64 p ∧ m.get 11 = .int .i64 k ∧ m.get 12 = .int .i64 j ∧
    WfH h' n' ∧ N ≤ n' ∧ h'.get lb = some (.cells (PT.ofList .leaf 0 (S.set 27 wv')) false) ∧ GrowCells 3 h' wv' (L ++ plcs (grp kind first p j)) (k + j) ∧ (wv' = wv ∧ j = 0 ∨ ∃ b, wv' = .slice (some ⟨b, 0, none⟩) (k + j) (capInf + 3) ∧ N ≤ b ∧ 0 < j) ∧ (∀ b k c, wv' = .slice (some ⟨b, 0, none⟩) k c → b ≠ lb) ∧
      ∀ i, i < N → i ≠ lb → (∀ k c, wv ≠ .slice (some ⟨i, 0, none⟩) k c) → h'.get i = h.get i) n ?_ ?_
  · refine ⟨0, wv, by omega, by omega, ?_⟩
    rw [hset]
    simp (maxSteps := 2000000) (disch := omega) only [go_sem, *]
    have e0 : plcs (grp kind first p 0) = [] := rfl
    rw [e0, List.append_nil]
    exact ⟨Nat.le_refl _, hg, fun b k c e => hne b k c e, fun _ _ _ _ => trivial⟩
  · rintro t m h' n' ih ⟨j, wv', hj, rfl, m1, m2, m3, m4, m5, m6, m7, m8, m9, q1, q2, q3, q4, q5, q7, q6⟩
    by_cases hjn : j < n
    · have hji : (j : Int) < n := by omega
      have hpp : ¬ (p : Int) = 0 := by omega
      have hd1 : j / p ≤ j := Nat.div_le_self _ _
      have hd2 : j % p < p := Nat.mod_lt _ (by omega)
      have hq : (j : Int).tdiv p = ((j / p : Nat) : Int) := rfl
      have hr : (j : Int).tmod p = ((j % p : Nat) : Int) := rfl
      have hlb := q1.lt q3
      have hS2 : (S.set 27 wv').length = 28 := by simpa using hS
      have h27b : (S.set 27 wv')[27]? = some wv' := by rw [List.getElem?_set, if_pos rfl, if_pos (by omega)]
      have hnew : ∀ wn, S.set 27 wn = (S.set 27 wv').set 27 wn := fun wn => by rw [List.set_set]
      have hrow : L ++ plcs (grp kind first p (j + 1)) = (L ++ plcs (grp kind first p j)) ++ [.int .u8 kind, .int .i64 (first + ((j / p : Nat) : Int)), .int .i64 ((j % p : Nat) : Int)] := by
        rw [grp_succ, plcs_append, ← List.append_assoc]; rfl
      generalize hu : j / p = u at *
      generalize hv : j % p = v at *
      generalize hS3 : S.set 27 wv' = S3 at *
      generalize hX : L ++ plcs (grp kind first p j) = X at *
      generalize hK : k + j = K at *
      rcases q4 with ⟨rfl, rfl, hk0⟩ | ⟨b, rfl, hb1, hb2⟩
      · clear hQ q7
        repeat' first | simp (maxSteps := 2000000) (disch := omega) only [go_sem, *, Try.results64] | (first | apply xg1 | apply xc1 | apply xg2 | apply xc2 | apply xc3 | apply xc4 | apply xg3 | apply xg4) <;> intro _ | (first | apply xh1 | apply xh2 | apply xh3 | apply xh4) <;> intro _ | refine EvK_draw (id := 5) (L := w64_5) (by kernel_rfl) (by kernel_rfl) ?_
        refine ih (n - (j + 1)) _ _ _ (by omega) ⟨j + 1, .slice (some ⟨n' + 1, 0, none⟩) 1 (capInf + 3), by omega, by omega, ?_⟩
        clear ih
        rw [hnew, hrow, show k + (j + 1) = 1 by omega]
        clear hnew hrow
        simp (maxSteps := 2000000) (disch := omega) only [go_sem, *]
        refine ⟨by simp, ?_, by omega, .inr ⟨n' + 1, rfl, ?_, by simp⟩, ⟨n' + 1, rfl, by omega, by omega⟩, fun b k c e => by cases e; omega, fun i h1 h2 h3 => ?_⟩
        · (repeat refine WfH.set' (by omega) ?_); first | assumption | exact WfH.mono (by assumption) (by omega)
        · simp (disch := omega) only [go_sem]
        · simp (disch := omega) only [heap_ne]
          exact q6 i h1 h2 h3
      · have hb3 := q1.lt hb1
        have hblb := q7 _ _ _ rfl
        clear q7
        have htk : X.take (K * 3) = X := by rw [← hb2]; exact List.take_length
        have hbq : (K * 3).beq (K * 3) = true := Nat.beq_refl _
        have hble : (K + 1).ble 1048576 = true := Nat.ble_eq_true_of_le (by omega)
        clear hQ
        repeat' first | simp (maxSteps := 2000000) (disch := omega) only [go_sem, *, Try.results64] | (first | apply xg1 | apply xc1 | apply xg2 | apply xc2 | apply xc3 | apply xc4 | apply xg3 | apply xg4) <;> intro _ | (first | apply xh1 | apply xh2 | apply xh3 | apply xh4) <;> intro _ | refine EvK_draw (id := 5) (L := w64_5) (by kernel_rfl) (by kernel_rfl) ?_
        refine ih (n - (j + 1)) _ _ _ (by omega) ⟨j + 1, .slice (some ⟨n' + 1, 0, none⟩) (K + 1) (capInf + 3), by omega, by omega, ?_⟩
        clear ih
        rw [hnew, hrow, show k + (j + 1) = K + 1 by omega]
        clear hnew hrow
        simp (maxSteps := 2000000) (disch := omega) only [go_sem, *]
        refine ⟨by simp, ?_, by omega, .inr ⟨n' + 1, rfl, ?_, by simp [hb2]; omega⟩, ⟨n' + 1, rfl, by omega, by omega⟩, fun b k c e => by cases e; omega, fun i h1 h2 h3 => ?_⟩
        · (repeat refine WfH.set' (by omega) ?_); first | assumption | exact WfH.mono (by assumption) (by omega)
        · simp (disch := omega) only [go_sem]
        · have hib : i ≠ b := by
            rcases q5 with ⟨e, _⟩ | ⟨b2, e, hb2, _⟩
            · intro e2; subst e2; exact h3 _ _ e.symm
            · cases e; omega
          simp (disch := omega) only [heap_ne]
          exact q6 i h1 h2 h3
    · obtain rfl : j = n := by omega
      clear ih
      have hi7 : ¬ (j : Int) < j := by omega
      repeat' first | simp (maxSteps := 2000000) (disch := omega) only [go_sem, *, Try.results64] | (first | apply xg1 | apply xc1 | apply xg2 | apply xc2 | apply xc3 | apply xc4 | apply xg3 | apply xg4) <;> intro _ | (first | apply xh1 | apply xh2 | apply xh3 | apply xh4) <;> intro _ | refine EvK_draw (id := 5) (L := w64_5) (by kernel_rfl) (by kernel_rfl) ?_
      exact ⟨wv', rfl, q4, q5, q6⟩
end Go.Proofs.Ytapcgfakefmemaa
set_option linter.unusedVariables false
set_option linter.unusedSimpArgs false
namespace Go.Proofs.Ytapcgfakefmemaa
open Go.Am
noncomputable def groupS : List Value → Option (AP Value)
  | [.pointer (some ⟨lb, 0, none⟩), .int .i64 n, .int .u8 kind, .int .i64 first, .int .i64 p] => some <|
    AP.row lb fun (S : List Value) ro => cond (!ro && Nat.beq S.length 28 && decide (0 ≤ n) && decide (1 ≤ p) && decide (p ≤ 1000000) && decide (0 ≤ first) && decide (first ≤ 1000000)) (match (S[27]? : Option Value) with
      | some (.slice none 0 0) => cond (decide (n ≤ 1000000)) (cond (decide (n = 0)) (.pure (.int .i64 0)) (.newRow (plcs (grp kind first p.toNat n.toNat)) fun g => .setRow lb (S.set 27 (.slice (some ⟨g, 0, none⟩) n.toNat (capInf + 3))) (.pure (.int .i64 0)))) (.fail "")
      | some (.slice (some ⟨w, 0, none⟩) k cap) => AP.row w fun (L : List Value) wro =>
        cond (!wro && Nat.beq cap (capInf + 3) && Nat.beq L.length (k * 3) && decide ((k : Int) + n ≤ 1000000) && !Nat.beq w lb) (cond (decide (n = 0)) (.pure (.int .i64 k)) (.kill w (.newRow (L ++ plcs (grp kind first p.toNat n.toNat)) fun g => .setRow lb (S.set 27 (.slice (some ⟨g, 0, none⟩) (k + n.toNat) (capInf + 3))) (.pure (.int .i64 k))))) (.fail "")
      | _ => .fail "") (.fail "")
  | _ => none
theorem plcs_ren {I : Nat → Nat → Prop} {Old : Value → Prop} : ∀ W : List (Int × Int × Int), VRens I Old (plcs W) (plcs W)
  | [] => .nil
  | x :: W => .cons _ _ _ _ (.int _ _) (.cons _ _ _ _ (.int _ _) (.cons _ _ _ _ (.int _ _) (plcs_ren W)))
theorem set_self {S : List Value} {i : Nat} {v : Value} (h : S[i]? = some v) : S.set i v = S := by
  apply List.ext_getElem?
  intro j
  rw [List.getElem?_set]
  split
  · rename_i e; subst e
    rw [if_pos (List.getElem?_eq_some_iff.1 h).1]; exact h.symm
  · rfl
set_option maxRecDepth 100000 in
set_option maxHeartbeats 4000000 in
theorem groupF : SoundF Try.prog 64 groupS := by
  refine soundF (tab_sound .nil) orders ?_
  intro args m hm h n N Old OldId v h1 n1 hr hold hid hN
  unfold groupS at hm
  split at hm
  · rename_i lb nn kind first p
    simp only [Option.some.injEq] at hm
    subst hm
    replace hr := run_row hr
    obtain ⟨S, ro, hS, hr⟩ := hr
    replace hr := run_cond hr
    obtain ⟨hc, hr⟩ := hr
    simp only [Bool.and_eq_true, Bool.not_eq_true', decide_eq_true_eq] at hc
    obtain ⟨⟨⟨⟨⟨⟨rfl, hS28⟩, hn0⟩, hp1⟩, hp2⟩, hf1⟩, hf2⟩ := hc
    have hS28 := Nat.eq_of_beq_eq_true hS28
    obtain ⟨nn, rfl⟩ := Int.eq_ofNat_of_zero_le hn0
    obtain ⟨p, rfl⟩ := Int.eq_ofNat_of_zero_le (show 0 ≤ p by omega)
    simp only [Int.toNat_natCast] at hr
    have hlt : ∀ i B, h.get i = some B → i < N ∧ ¬ (n ≤ i ∧ i < n1) := fun i B e => hid i (hold.id i B e)
    have hlb := hlt _ _ hS
    have hW : WfH h N := WfH.of_lt fun i B e => (hlt i B e).1
    split at hr
    · rename_i h27
      replace hr := run_cond hr
      obtain ⟨hk, hr⟩ := hr
      have hk := of_decide_eq_true hk
      have hgr := group (O := tabO []) lb S _ [] 0 nn p kind first h N hW hS hS28 h27 (.inl ⟨rfl, rfl, rfl⟩) (fun b k c e => by cases e) (by omega) (by omega) (by omega) hf1 hf2
      have hset := set_self h27
      by_cases hz : (nn : Int) = 0
      · obtain rfl : nn = 0 := by omega
        rw [decide_eq_true hz, cond_true] at hr
        obtain ⟨hs, rfl⟩ := run_pure hr
        clear hr
        have e1 : h1 = _ := congrArg HS.heap hs
        have e2 : n1 = _ := congrArg HS.next hs
        simp only [S0] at e1 e2
        subst e1 e2
        clear hs
        refine hgr.mono ?_
        rintro v2 h2 n2 ⟨rfl, wv', q1, q2, q3, q4⟩
        rcases q3 with ⟨rfl, _⟩ | ⟨b, rfl, hb, hlt0⟩
        · refine ⟨fun i => i, fun i a b => by omega, fun i j a b => by omega, .int _ _, fun i B e => .inl ⟨e, ?_⟩⟩
          rw [hset] at q1
          by_cases hi : i = lb
          · subst hi; rw [hS] at e; rw [q1]; exact e
          · rw [q4 i (hlt i B e).1 hi (fun k c e => by cases e)]; exact e
        · omega
      · rw [decide_eq_false hz, cond_false] at hr
        replace hr := run_set (run_new hr)
        obtain ⟨hs, rfl⟩ := run_pure hr
        clear hr
        have e1 : h1 = _ := congrArg HS.heap hs
        have e2 : n1 = _ := congrArg HS.next hs
        simp only [S0] at e1 e2
        subst e1 e2
        clear hs
        refine hgr.mono ?_
        rintro v2 h2 n2 ⟨rfl, wv', q1, q2, q3, q4⟩
        rcases q3 with ⟨_, rfl⟩ | ⟨b, rfl, hb, _⟩
        · simp at hz
        rcases q2 with ⟨q2, _⟩ | ⟨b', e, q2, q2'⟩
        · cases q2
        cases e
        refine ⟨fun _ => b, fun i _ _ => hb, fun i j q1 q2 q3 q4 _ => by omega, .int _ _, fun i B e => ?_⟩
        have hSr : VRens (IdR OldId n (n + 1) fun _ => b) Old S S := VRens.refl _ fun u hu => by
          obtain ⟨j, hj⟩ := List.mem_iff_getElem?.1 hu
          exact .old _ (hold.cells lb _ _ j u hS (by rw [PT.get_ofList_leaf]; exact hj))
        have hnew : IdR OldId n (n + 1) (fun _ => b) n b := .inr ⟨Nat.le_refl _, Nat.lt_succ_self _, rfl⟩
        rw [PT.get_set] at e
        split at e
        · rename_i hi; subst hi
          obtain rfl := Option.some.inj e
          refine .inr ⟨_, ?_, .cells _ _ _ (hSr.set 27 (.slice n 0 nn (capInf + 3) b hnew))⟩
          rw [sg_old (by omega), q1, Nat.zero_add]
        · rename_i hi
          rw [PT.get_set] at e
          split at e
          · rename_i hi; subst hi
            obtain rfl := Option.some.inj e
            refine .inr ⟨_, ?_, .cells _ _ _ (plcs_ren _)⟩
            rw [sg_new (by omega), q2, List.nil_append]
          · have := (hlt i B e).1
            exact .inl ⟨e, by rw [q4 i this hi (fun k c e => by cases e)]; exact e⟩
    · rename_i w k cap h27
      replace hr := run_row hr
      obtain ⟨L, wro, hL, hr⟩ := hr
      replace hr := run_cond hr
      obtain ⟨hc, hr⟩ := hr
      simp only [Bool.and_eq_true, Bool.not_eq_true', decide_eq_true_eq] at hc
      obtain ⟨⟨⟨⟨rfl, hcap⟩, hLk⟩, hkn⟩, hwl⟩ := hc
      obtain rfl := Nat.eq_of_beq_eq_true hcap
      have hLk := Nat.eq_of_beq_eq_true hLk
      have hwl : w ≠ lb := fun e => by rw [e, beq_self] at hwl; simp at hwl
      have hw := hlt _ _ hL
      have hgr := group (O := tabO []) lb S _ L k nn p kind first h N hW hS hS28 h27 (.inr ⟨w, rfl, hL, hLk⟩) (fun b k c e => by cases e; exact hwl) (by omega) (by omega) (by omega) hf1 hf2
      have hset := set_self h27
      by_cases hz : (nn : Int) = 0
      · obtain rfl : nn = 0 := by omega
        rw [decide_eq_true hz, cond_true] at hr
        obtain ⟨hs, rfl⟩ := run_pure hr
        clear hr
        have e1 : h1 = _ := congrArg HS.heap hs
        have e2 : n1 = _ := congrArg HS.next hs
        simp only [S0] at e1 e2
        subst e1 e2
        clear hs
        refine hgr.mono ?_
        rintro v2 h2 n2 ⟨rfl, wv', q1, q2, q3, q4⟩
        rcases q3 with ⟨rfl, _⟩ | ⟨b, rfl, hb, hlt0⟩
        · refine ⟨fun i => i, fun i a b => by omega, fun i j a b => by omega, .int _ _, fun i B e => .inl ⟨e, ?_⟩⟩
          rw [hset] at q1
          rcases q2 with ⟨q2, _⟩ | ⟨b', e', q2, q2'⟩
          · cases q2
          cases e'
          by_cases hi : i = lb
          · subst hi; rw [hS] at e; rw [q1]; exact e
          · by_cases hi2 : i = w
            · subst hi2; rw [hL] at e; rw [q2, show plcs (grp kind first p 0) = [] from rfl, List.append_nil]; exact e
            · rw [q4 i (hlt i B e).1 hi (fun k c e => by cases e; exact hi2 rfl)]; exact e
        · omega
      · rw [decide_eq_false hz, cond_false] at hr
        replace hr := run_set (run_new (run_kill hr))
        obtain ⟨hs, rfl⟩ := run_pure hr
        clear hr
        have e1 : h1 = _ := congrArg HS.heap hs
        have e2 : n1 = _ := congrArg HS.next hs
        simp only [S0] at e1 e2
        subst e1 e2
        clear hs
        refine hgr.mono ?_
        rintro v2 h2 n2 ⟨rfl, wv', q1, q2, q3, q4⟩
        rcases q3 with ⟨_, rfl⟩ | ⟨b, rfl, hb, _⟩
        · simp at hz
        rcases q2 with ⟨q2, _⟩ | ⟨b', e, q2, q2'⟩
        · cases q2
        cases e
        refine ⟨fun _ => b, fun i _ _ => hb, fun i j q1 q2 q3 q4 _ => by omega, .int _ _, fun i B e => ?_⟩
        have hSr : VRens (IdR OldId n (n + 1) fun _ => b) Old S S := VRens.refl _ fun u hu => by
          obtain ⟨j, hj⟩ := List.mem_iff_getElem?.1 hu
          exact .old _ (hold.cells lb _ _ j u hS (by rw [PT.get_ofList_leaf]; exact hj))
        have hLr : VRens (IdR OldId n (n + 1) fun _ => b) Old L L := VRens.refl _ fun u hu => by
          obtain ⟨j, hj⟩ := List.mem_iff_getElem?.1 hu
          exact .old _ (hold.cells w _ _ j u hL (by rw [PT.get_ofList_leaf]; exact hj))
        have hnew : IdR OldId n (n + 1) (fun _ => b) n b := .inr ⟨Nat.le_refl _, Nat.lt_succ_self _, rfl⟩
        rw [PT.get_set] at e
        split at e
        · rename_i hi; subst hi
          obtain rfl := Option.some.inj e
          refine .inr ⟨_, ?_, .cells _ _ _ (hSr.set 27 (.slice n 0 (k + nn) (capInf + 3) b hnew))⟩
          rw [sg_old (by omega), q1]
        · rename_i hi
          rw [PT.get_set] at e
          split at e
          · rename_i hi; subst hi
            obtain rfl := Option.some.inj e
            refine .inr ⟨_, ?_, .cells _ _ _ (hLr.append (plcs_ren _))⟩
            rw [sg_new (by omega), q2]
          · rw [PT.get_set] at e
            split at e
            · simp at e
            rename_i hi2
            have := (hlt i B e).1
            exact .inl ⟨e, by rw [q4 i this hi (fun k c e => by cases e; exact hi2 rfl)]; exact e⟩
    · exact (run_fail hr).elim
  · simp at hm
end Go.Proofs.Ytapcgfakefmemaa
set_option linter.unusedVariables false
set_option linter.unusedSimpArgs false
namespace Go.Proofs.Ytapcgfakefmemaa
open Go.Am
structure GS (h3 : PT ABlk) (n3 lb : Nat) (h : PT ABlk) (n : Nat) (wv : Value) (W : List (Int × Int × Int)) : Prop where
  wf : WfH h n
  le : n3 ≤ n
  row : GrowCells 3 h wv (plcs W) W.length
  new : ∀ b k c, wv = .slice (some ⟨b, 0, none⟩) k c → n3 ≤ b
  same : ∀ i, i < n3 → i ≠ lb → h.get i = h3.get i
theorem GS.setlb {h3 h h' : PT ABlk} {n3 lb n : Nat} {wv : Value} {W : List (Int × Int × Int)} {B : Option ABlk} (g : GS h3 n3 lb h n wv W) (hlb : lb < n3) (e : h.set lb B = h') : GS h3 n3 lb h' n wv W := by
  subst e
  refine ⟨g.wf.set (Nat.le_refl _) (by have := g.le; omega), g.le, ?_, g.new, fun i hi hne => by rw [heap_ne (Ne.symm hne)]; exact g.same i hi hne⟩
  rcases g.row with r | ⟨b, e, hb, hl⟩
  · exact .inl r
  · have := g.new _ _ _ e
    exact .inr ⟨b, e, by rw [heap_ne (by omega)]; exact hb, hl⟩
theorem GS.len {h3 h : PT ABlk} {n3 lb n : Nat} {wv : Value} {W : List (Int × Int × Int)} (g : GS h3 n3 lb h n wv W) : ∃ a c, wv = .slice a W.length c := by
  rcases g.row with ⟨e, _, e2⟩ | ⟨b, e, _, _⟩
  · exact ⟨none, 0, by rw [e, e2]⟩
  · exact ⟨_, _, e⟩
theorem note_run {α : Type} : ∀ (p : AP α) (h : PT ABlk) (n : Nat) (rd wr : List Nat) (a : α) (s' : HS), p.note ⟨h, n, rd, wr⟩ = .ok a s' → p.run 0 (S0 h n) = .ok a (S0 s'.heap s'.next)
  | .pure a, h, n, rd, wr, b, s', e => by simp only [AP.note, Res.ok.injEq] at e; obtain ⟨rfl, rfl⟩ := e; rfl
  | .fail w, h, n, rd, wr, b, s', e => by simp [AP.note] at e
  | .get id k, h, n, rd, wr, b, s', e => by
    simp only [AP.note] at e
    simp only [AP.run, show (S0 h n).heap = h from rfl, show Nat.blt id 0 = false from rfl, cond_false]
    cases hb : h.get id with
    | none => rw [hb] at e; simp at e
    | some B => rw [hb] at e; exact note_run (k B) h n _ _ b s' e
  | .set id B k, h, n, rd, wr, b, s', e => by
    simp only [AP.note] at e
    simp only [AP.run, show (S0 h n).heap = h from rfl, show Nat.blt id 0 = false from rfl, cond_false]
    cases hb : h.get id with
    | none => rw [hb] at e; simp at e
    | some B' => rw [hb] at e; exact note_run k (h.set id (some B)) n _ _ b s' e
  | .kill id k, h, n, rd, wr, b, s', e => by
    simp only [AP.note] at e
    simp only [AP.run, show (S0 h n).heap = h from rfl, show Nat.blt id 0 = false from rfl, cond_false]
    cases hb : h.get id with
    | none => rw [hb] at e; simp at e
    | some B' => rw [hb] at e; exact note_run k (h.set id none) n _ _ b s' e
  | .new B k, h, n, rd, wr, b, s', e => by
    simp only [AP.note] at e
    exact note_run (k n) (h.set n (some B)) (n + 1) rd wr b s' e
theorem group_note {h3 : PT ABlk} {n3 lb : Nat} {S : List Value} {wv : Value} {W : List (Int × Int × Int)} {n p kind first : Int} {h : PT ABlk} {N : Nat} (g : GS h3 n3 lb h N wv W) (hlb : lb < n3) (hb : h.get lb = some (.cells (PT.ofList .leaf 0 S) false)) (hS : S.length = 28) (h27 : S[27]? = some wv)
    (hk : (W.length : Int) + n ≤ 1000000) (hn : 0 ≤ n) (hp : 1 ≤ p) (hp2 : p ≤ 1000000) (hf : 0 ≤ first) (hf2 : first ≤ 1000000) :
    ∃ m, groupS [.pointer (some ⟨lb, 0, none⟩), .int .i64 n, .int .u8 kind, .int .i64 first, .int .i64 p] = some m ∧ ∀ rd wr, ∃ v h' n' rd' wr', m.note ⟨h, N, rd, wr⟩ = .ok v ⟨h', n', rd', wr'⟩ ∧ v = .int .i64 W.length ∧
      ∃ wv', h'.get lb = some (.cells (PT.ofList .leaf 0 (S.set 27 wv')) false) ∧ GS h3 n3 lb h' n' wv' (W ++ grp kind first p.toNat n.toNat) ∧ ∀ i, i < n3 → i ≠ lb → h'.get i = h3.get i := by
  refine ⟨_, rfl, fun rd wr => ?_⟩
  have hle := g.le
  have hlbN : lb < N := by omega
  have hset := set_self h27
  have hc1 : (!false && Nat.beq S.length 28 && decide (0 ≤ n) && decide (1 ≤ p) && decide (p ≤ 1000000) && decide (0 ≤ first) && decide (first ≤ 1000000)) = true := by
    rw [hS, decide_eq_true hn, decide_eq_true hp, decide_eq_true hp2, decide_eq_true hf, decide_eq_true hf2]; rfl
  rcases g.row with ⟨rfl, hW, hW0⟩ | ⟨b, rfl, hbB, hbl⟩
  · obtain rfl : W = [] := List.eq_nil_of_length_eq_zero hW0
    have hk2 : n ≤ 1000000 := by simpa using hk
    by_cases hz : n = 0
    · subst hz
      refine ⟨_, h, N, lb :: rd, wr, ?_, rfl, .slice none 0 0, by rw [hset]; exact hb, ?_, g.same⟩
      · simp only [AP.row, AP.note, hb, rowB_row, hc1, cond_true, h27]
        rfl
      · exact ⟨g.wf, g.le, .inl ⟨rfl, rfl, rfl⟩, g.new, g.same⟩
    · refine ⟨_, (h.set N (some (.cells (PT.ofList .leaf 0 (plcs (grp kind first p.toNat n.toNat))) false))).set lb (some (.cells (PT.ofList .leaf 0 (S.set 27 (.slice (some ⟨N, 0, none⟩) n.toNat (capInf + 3)))) false)), N + 1, lb :: rd, lb :: wr, ?_, rfl, .slice (some ⟨N, 0, none⟩) n.toNat (capInf + 3), heap_same, ?_, ?_⟩
      · simp only [AP.row, AP.note, hb, rowB_row, hc1, cond_true, h27, decide_eq_true hk2, decide_eq_false hz, cond_false, AP.newRow, AP.setRow, heap_ne (show N ≠ lb by omega)]
        rfl
      · refine ⟨(g.wf.set (Nat.le_succ _) (Nat.lt_succ_self _)).set (Nat.le_refl _) (by omega), by omega, .inr ⟨N, ?_, ?_, ?_⟩, fun b k c e => by cases e; omega, fun i hi hne => by rw [heap_ne (Ne.symm hne), heap_ne (by omega)]; exact g.same i hi hne⟩
        · rw [List.nil_append, grp_length]
        · rw [heap_ne (by omega), heap_same, List.nil_append]
        · rw [plcs_length]
      · exact fun i hi hne => by rw [heap_ne (Ne.symm hne), heap_ne (by omega)]; exact g.same i hi hne
  · have hbn := g.new b _ _ rfl
    have hbN := g.wf.lt hbB
    have hc2 : (!false && Nat.beq (capInf + 3) (capInf + 3) && Nat.beq (plcs W).length (W.length * 3) && decide ((W.length : Int) + n ≤ 1000000) && !Nat.beq b lb) = true := by
      rw [hbl, decide_eq_true hk, Nat.beq_refl, Nat.beq_refl, beq_ne (show b ≠ lb by omega)]; rfl
    by_cases hz : n = 0
    · subst hz
      refine ⟨_, h, N, b :: lb :: rd, wr, ?_, rfl, .slice (some ⟨b, 0, none⟩) W.length (capInf + 3), by rw [hset]; exact hb, ?_, g.same⟩
      · simp only [AP.row, AP.note, hb, rowB_row, hc1, cond_true, h27, hbB, hc2]
        rfl
      · exact ⟨g.wf, g.le, by rw [show grp kind first p.toNat (0 : Int).toNat = [] from rfl, List.append_nil]; exact .inr ⟨b, rfl, hbB, hbl⟩, g.new, g.same⟩
    · refine ⟨_, ((h.set b none).set N (some (.cells (PT.ofList .leaf 0 (plcs W ++ plcs (grp kind first p.toNat n.toNat))) false))).set lb (some (.cells (PT.ofList .leaf 0 (S.set 27 (.slice (some ⟨N, 0, none⟩) (W.length + n.toNat) (capInf + 3)))) false)), N + 1, b :: lb :: rd, lb :: b :: wr, ?_, rfl, .slice (some ⟨N, 0, none⟩) (W.length + n.toNat) (capInf + 3), heap_same, ?_, ?_⟩
      · simp only [AP.row, AP.note, hb, rowB_row, hc1, cond_true, h27, hbB, hc2, decide_eq_false hz, cond_false, AP.newRow, AP.setRow, heap_ne (show N ≠ lb by omega), heap_ne (show b ≠ lb by omega)]
      · refine ⟨((g.wf.set (Nat.le_refl _) hbN).set (Nat.le_succ _) (Nat.lt_succ_self _)).set (Nat.le_refl _) (by omega), by omega, .inr ⟨N, ?_, ?_, ?_⟩, fun b k c e => by cases e; omega, fun i hi hne => by rw [heap_ne (Ne.symm hne), heap_ne (by omega), heap_ne (by omega)]; exact g.same i hi hne⟩
        · rw [List.length_append, grp_length]
        · rw [heap_ne (by omega), heap_same, plcs_append]
        · rw [plcs_length]
      · exact fun i hi hne => by rw [heap_ne (Ne.symm hne), heap_ne (by omega), heap_ne (by omega)]; exact g.same i hi hne
theorem EvQ_via {z : Zx} {s : Option (AP Value)} {f : FuncId} {args : List Value} {d : Option Nat} {ops r : List Oper} {K : List KF} {m : Tm} {h : PT ABlk} {n : Nat} {I : Value → PT ABlk → Nat → Prop}
    (H : ∃ q, s = some q ∧ ∀ rd wr, ∃ v h' n' rd' wr', q.note ⟨h, n, rd, wr⟩ = .ok v ⟨h', n', rd', wr'⟩ ∧ I v h' n') (hk : ∀ v h' n', I v h' n' → EvV z (.pure (.value v)) d ops r K m h' n') : EvQ z s f args d ops r K m h n := by
  obtain ⟨q, rfl, H⟩ := H
  obtain ⟨v, h', n', rd', wr', e, hi⟩ := H [] []
  exact EvQ_some.2 (EvV_via I ⟨v, h', n', note_run q h n [] [] v _ e, hi⟩ hk)
theorem EvXQ_via {z : Zx} {L : List (Nat × Nat)} {s : Option (AP Value)} {f : FuncId} {args : List Value} {d : Option Nat} {ops r : List Oper} {K : List KF} {m : Tm} {h : PT ABlk} {n lo : Nat} {rd wr : List Nat} {fs : List Foot} {I : Value → PT ABlk → Nat → Prop}
    (H : ∃ q, s = some q ∧ ∀ rd wr, ∃ v h' n' rd' wr', q.note ⟨h, n, rd, wr⟩ = .ok v ⟨h', n', rd', wr'⟩ ∧ I v h' n') (hk : ∀ v h' n' rd' wr', I v h' n' → EvX z L (.pure (.value v)) d ops r K m h' n' lo rd' wr' fs) : EvXQ z L s f args d ops r K m h n lo rd wr fs := by
  obtain ⟨q, rfl, H⟩ := H
  obtain ⟨v, h', n', rd', wr', e, hi⟩ := H rd wr
  have := hk v h' n' rd' wr' hi
  unfold EvXQ
  simp only
  unfold EvX at this ⊢
  rw [note_bind, e, bnd_ok_eq]
  exact this
end Go.Proofs.Ytapcgfakefmemaa
