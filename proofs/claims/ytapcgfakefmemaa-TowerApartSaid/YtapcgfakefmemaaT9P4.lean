/-
  A part of the proof: contracts of inner functions.
-/
import Derived.Test.YtapcgfakefmemaaT9T
import Derived.Test.YtapcgfakefmemaaAmY3
set_option linter.unusedVariables false
set_option linter.unusedSimpArgs false
namespace Go.Proofs.Ytapcgfakefmemaa
open Go.Am
variable {O : Over}
theorem within (a b c : Int) (h : PT ABlk) (n : Nat) : EvB Try.prog O 41 [.int .i64 a, .int .i64 b, .int .i64 c] h n fun v h' n' => v = .bool (decide (b ≤ a) && decide (a ≤ c)) ∧ h' = h ∧ n' = n := by
  refine EvB_run (N := 15) Try.func41 rfl rfl ?_
  intro z hP hO hro hN hQ
  repeat' first | simp (maxSteps := 2000000) (disch := omega) only [go_sem, *, Try.results41] | (first | apply xg1 | apply xc1 | apply xg2 | apply xc2 | apply xc3 | apply xc4 | apply xg3 | apply xg4) <;> intro _ | (first | apply xh1 | apply xh2 | apply xh3 | apply xh4) <;> intro _ | refine EvK_draw (by cbv) (by first | rfl | cbv) ?_
end Go.Proofs.Ytapcgfakefmemaa
set_option linter.unusedVariables false
set_option linter.unusedSimpArgs false
namespace Go.Proofs.Ytapcgfakefmemaa
open Go.Am
variable {O : Over}
def asc : Int → List Int → Bool
  | _, [] => true
  | b, x :: xs => if x ≤ b then false else asc x xs
theorem asc_drop {b : Int} {xs : List Int} {i : Nat} (hi : i < xs.length) : asc b (xs.drop i) = if xs.getD i 0 ≤ b then false else asc (xs.getD i 0) (xs.drop (i + 1)) := by
  rw [List.drop_eq_getElem_cons hi]
  simp [asc, List.getD, hi]
theorem ascending (xs : List Int) (s : Value) (h : PT ABlk) (n : Nat) (hs : IsInts .u64 h s xs) (hl : xs.length < 1000000000000000) : EvB Try.prog O 94 [s] h n fun v h' n' => v = .bool (asc 0 xs) ∧ h' = h ∧ n' = n := by
  obtain ⟨a, cap, rfl, hA⟩ := hs.len
  clear hs
  refine EvB_run (N := 17) Try.func94 rfl rfl ?_
  intro z hP hO hro hN hQ
  repeat' first | simp (maxSteps := 2000000) (disch := omega) only [go_sem, *, Try.results94] | (first | apply xg1 | apply xc1 | apply xg2 | apply xc2 | apply xc3 | apply xc4 | apply xg3 | apply xg4) <;> intro _ | (first | apply xh1 | apply xh2 | apply xh3 | apply xh4) <;> intro _ | refine EvK_draw (by cbv) (by first | rfl | cbv) ?_
  refine ind_loop (fun t m h' n' => h' = h ∧ n' = n ∧ ∃ (i : Nat) (b : Int), i ≤ xs.length ∧ t = xs.length - i ∧ asc 0 xs = asc b (xs.drop i) ∧ m.n = 17 ∧ m.dfs = [] ∧ m.get 6 = .slice a xs.length cap ∧ m.get 7 = .int .i64 xs.length ∧ m.get 8 = .int .i64 i ∧ m.get 3 = .int .u64 b) xs.length ?_ ?_
  · refine ⟨rfl, rfl, 0, 0, by omega, by omega, by simp, ?_⟩
    simp (maxSteps := 2000000) (disch := omega) only [go_sem, *]
  · rintro t m h n ih ⟨rfl, rfl, i, b, hi, rfl, hasc, m1, m2, m3, m4, m5, m6⟩
    rcases Nat.lt_or_ge i xs.length with hlt | hge
    · obtain ⟨bk, off, sp, L, ro, rfl, hb, hL⟩ := hA i hlt
      have e1 : (i : Int) < xs.length := by omega
      rw [asc_drop hlt] at hasc
      clear hA
      repeat' first | simp (maxSteps := 2000000) (disch := omega) only [go_sem, *, Try.results94] | (first | apply xg1 | apply xc1 | apply xg2 | apply xc2 | apply xc3 | apply xc4 | apply xg3 | apply xg4) <;> intro _ | (first | apply xh1 | apply xh2 | apply xh3 | apply xh4) <;> intro _ | refine EvK_draw (by cbv) (by first | rfl | cbv) ?_
      refine ih (xs.length - (i + 1)) _ _ _ (by omega) ⟨rfl, rfl, i + 1, xs.getD i 0, by omega, by omega, ?_⟩
      simp (maxSteps := 2000000) (disch := omega) only [go_sem, *]
      simp
    · have e1 : ¬ (i : Int) < xs.length := by omega
      rw [List.drop_eq_nil_of_le hge] at hasc
      repeat' first | simp (maxSteps := 2000000) (disch := omega) only [go_sem, *, Try.results94, asc] | (first | apply xg1 | apply xc1 | apply xg2 | apply xc2 | apply xc3 | apply xc4 | apply xg3 | apply xg4) <;> intro _ | (first | apply xh1 | apply xh2 | apply xh3 | apply xh4) <;> intro _ | refine EvK_draw (by cbv) (by first | rfl | cbv) ?_
end Go.Proofs.Ytapcgfakefmemaa
set_option linter.unusedVariables false
set_option linter.unusedSimpArgs false
namespace Go.Proofs.Ytapcgfakefmemaa
open Go.Am
theorem orders : Try.prog.follows .mixedOrders = true := by kernel_rfl
def withinS : List Value → Option (AP Value)
  | [.int .i64 a, .int .i64 b, .int .i64 c] => some (.pure (.bool (decide (b ≤ a) && decide (a ≤ c))))
  | _ => none
theorem withinF : SoundF Try.prog 41 withinS := by
  refine soundF_query (tab_sound .nil) orders ?_
  intro args m hm
  unfold withinS at hm
  split at hm
  · rename_i a b c
    simp only [Option.some.injEq] at hm
    subst hm
    refine ⟨fun h v => v = .bool (decide (b ≤ a) && decide (a ≤ c)), fun h n v s' _ e => ?_, fun h N v _ hv => ?_⟩
    · obtain ⟨h1, rfl⟩ := run_pure e
      exact ⟨h1, .bool _, rfl⟩
    · subst hv
      exact (within a b c h N).mono fun v h' n' ⟨e1, e2, e3⟩ => ⟨e1, fun i _ => by rw [e2]⟩
  · simp at hm
def ascS : List Value → Option (AP Value)
  | [s] => some ((rdInts .u64 s).bind fun xs => cond (decide (xs.length < 1000000000000000)) (.pure (.bool (asc 0 xs))) (.fail ""))
  | _ => none
theorem ascF : SoundF Try.prog 94 ascS := by
  refine soundF_query (tab_sound .nil) orders ?_
  intro args m hm
  unfold ascS at hm
  split at hm
  · rename_i s
    simp only [Option.some.injEq] at hm
    subst hm
    refine ⟨fun h v => ∃ xs, IsInts .u64 h s xs ∧ xs.length < 1000000000000000 ∧ v = .bool (asc 0 xs), fun h n v s' hR e => ?_, fun h N v _ hv => ?_⟩
    · obtain ⟨xs, hx, e⟩ := run_ints hR e
      obtain ⟨hl, e⟩ := run_cond e
      obtain ⟨h1, rfl⟩ := run_pure e
      exact ⟨h1, .bool _, xs, hx, of_decide_eq_true hl, rfl⟩
    · obtain ⟨xs, hx, hl, rfl⟩ := hv
      exact (ascending xs s h N hx hl).mono fun v h' n' ⟨e1, e2, e3⟩ => ⟨e1, fun i _ => by rw [e2]⟩
  · simp at hm
def domOk (kind n : Int) (xs : List Int) : Bool :=
  if kind = 1 then decide (n = 0) && decide ((xs.length : Int) = 0)
  else if kind = 2 then decide (1 ≤ n) && decide (n ≤ 64) && decide ((xs.length : Int) = 0)
  else if kind = 3 then decide (n = 0) && decide (1 ≤ (xs.length : Int)) && decide ((xs.length : Int) < 64) && asc 0 xs
  else false
def errIf (b : Bool) : Int := if b then 0 else 2
abbrev O1 : Over := tabO [(94, ascS)]
theorem O1ok : SoundO Try.prog O1 := tab_sound (.cons ascF .nil)
theorem domCheck (kind n : Int) (s : Value) (xs : List Int) (h : PT ABlk) (N : Nat) (hN : ∀ i B, h.get i = some B → i < N) (hs : IsInts .u64 h s xs) (hl : xs.length < 1000000000000000) : EvB Try.prog O1 84 [.agg ⟨[.int .u8 kind, .int .i64 n, s]⟩] h N fun v h' n' => v = .int .i64 (errIf (domOk kind n xs)) ∧ ∀ i, i < N → h'.get i = h.get i := by
  rcases hs.shapes with ⟨rfl, rfl⟩ | ⟨b, off, sp, cap, L, ro, rfl, rfl, hb⟩ | ⟨b, off, sp, cap, L, ro, rfl, hb, hB, hT⟩
  · refine EvB_run (N := 57) Try.func84 rfl rfl ?_
    intro z hP hO hro hN hQ
    repeat' first | simp (maxSteps := 2000000) (disch := omega) only [go_sem, *, Try.results84, ascS] | (first | apply xg1 | apply xc1 | apply xg2 | apply xc2 | apply xc3 | apply xc4 | apply xg3 | apply xg4) <;> intro _ | (first | apply xh1 | apply xh2 | apply xh3 | apply xh4) <;> intro _ | refine EvK_draw (by cbv) (by first | rfl | cbv) ?_
    all_goals refine ⟨?_, fun i hi => by simp (disch := omega) only [heap_ne]⟩
    all_goals simp (maxSteps := 2000000) (disch := omega) only [go_sem, *, errIf, domOk, asc, Bool.false_eq_true, Int.natCast_zero, List.length_nil]
  · have hbN := hN _ _ hb
    refine EvB_run (N := 57) Try.func84 rfl rfl ?_
    intro z hP hO hro hN hQ
    repeat' first | simp (maxSteps := 2000000) (disch := omega) only [go_sem, *, Try.results84, ascS] | (first | apply xg1 | apply xc1 | apply xg2 | apply xc2 | apply xc3 | apply xc4 | apply xg3 | apply xg4) <;> intro _ | (first | apply xh1 | apply xh2 | apply xh3 | apply xh4) <;> intro _ | refine EvK_draw (by cbv) (by first | rfl | cbv) ?_
    all_goals refine ⟨?_, fun i hi => by simp (disch := omega) only [heap_ne]⟩
    all_goals simp (maxSteps := 2000000) (disch := omega) only [go_sem, *, errIf, domOk, asc, Bool.false_eq_true, Int.natCast_zero, List.length_nil]
  · have hbN := hN _ _ hb
    refine EvB_run (N := 57) Try.func84 rfl rfl ?_
    intro z hP hO hro hN hQ
    repeat' first | simp (maxSteps := 2000000) (disch := omega) only [go_sem, *, Try.results84, ascS] | (first | apply xg1 | apply xc1 | apply xg2 | apply xc2 | apply xc3 | apply xc4 | apply xg3 | apply xg4) <;> intro _ | (first | apply xh1 | apply xh2 | apply xh3 | apply xh4) <;> intro _ | refine EvK_draw (by cbv) (by first | rfl | cbv) ?_
    all_goals refine ⟨?_, fun i hi => by simp (disch := omega) only [heap_ne]⟩
    all_goals simp (maxSteps := 2000000) (disch := omega) only [go_sem, *, errIf, domOk, asc, Bool.false_eq_true, Int.natCast_zero, List.length_nil]
end Go.Proofs.Ytapcgfakefmemaa
set_option linter.unusedVariables false
set_option linter.unusedSimpArgs false
namespace Go.Proofs.Ytapcgfakefmemaa
open Go.Am
def domCheckS : List Value → Option (AP Value)
  | [.agg ⟨[.int .u8 kind, .int .i64 n, s]⟩] => some ((rdInts .u64 s).bind fun xs => cond (decide (xs.length < 1000000000000000)) (.pure (.int .i64 (errIf (domOk kind n xs)))) (.fail ""))
  | _ => none
theorem domCheckF : SoundF Try.prog 84 domCheckS := by
  refine soundF_query O1ok orders ?_
  intro args m hm
  unfold domCheckS at hm
  split at hm
  · rename_i kind n s
    simp only [Option.some.injEq] at hm
    subst hm
    refine ⟨fun h v => ∃ xs, IsInts .u64 h s xs ∧ xs.length < 1000000000000000 ∧ v = .int .i64 (errIf (domOk kind n xs)), fun h n v s' hR e => ?_, fun h N v hlt hv => ?_⟩
    · obtain ⟨xs, hx, e⟩ := run_ints hR e
      obtain ⟨hl, e⟩ := run_cond e
      obtain ⟨h1, rfl⟩ := run_pure e
      exact ⟨h1, .int _ _, xs, hx, of_decide_eq_true hl, rfl⟩
    · obtain ⟨xs, hx, hl, rfl⟩ := hv
      exact domCheck kind n s xs h N hlt hx hl
  · simp at hm
def cfgOk (th sl en bu kd dn t0 t1 t2 t3 t4 t5 lo tr ba : Int) (xs : List Int) : Bool :=
  !(decide (t0 < 0) || decide (1024 < t0)) && !(decide (t1 < 0) || decide (1024 - t0 < t1)) && !(decide (t2 < 0) || decide (1024 - t0 - t1 < t2)) && !(decide (t3 < 0) || decide (1024 - t0 - t1 - t2 < t3)) &&
  !(decide (t4 < 0) || decide (1024 - t0 - t1 - t2 - t3 < t4)) && !(decide (t5 < 0) || decide (1024 - t0 - t1 - t2 - t3 - t4 < t5)) &&
  (decide (1 ≤ th) && decide (th ≤ 64)) && (decide (1 ≤ sl) && decide (sl ≤ 64)) && !decide (en < 1) && !decide (3 < en) && (if en = 3 then decide (1 ≤ bu) && decide (bu ≤ 16) else decide (bu = 0)) &&
  domOk kd dn xs && (decide (1 ≤ lo) && decide (lo ≤ 16)) && (decide (1 ≤ tr) && decide (tr ≤ 255)) && (decide (0 ≤ ba) && decide (ba ≤ 64))
abbrev O2 : Over := tabO [(41, withinS), (84, domCheckS)]
theorem O2ok : SoundO Try.prog O2 := tab_sound (.cons withinF (.cons domCheckF .nil))
theorem errIf_eq (b : Bool) : (errIf b ≠ 0) = (b = false) := by cases b <;> simp [errIf]
set_option maxHeartbeats 4000000 in
set_option maxRecDepth 100000 in
theorem layCheck (th sl en bu kd dn t0 t1 t2 t3 t4 t5 lo tr ba : Int) (s : Value) (xs : List Int) (h : PT ABlk) (N : Nat) (hN : ∀ i B, h.get i = some B → i < N) (hs : IsInts .u64 h s xs) (hl : xs.length < 1000000000000000) :
    EvB Try.prog O2 57 [.agg ⟨[.int .i64 th, .int .i64 sl, .int .u8 en, .int .i64 bu, .int .u8 kd, .int .i64 dn, s, .int .i64 t0, .int .i64 t1, .int .i64 t2, .int .i64 t3, .int .i64 t4, .int .i64 t5, .int .i64 lo, .int .i64 tr, .int .i64 ba]⟩] h N
      fun v h' n' => v = .int .i64 (errIf (cfgOk th sl en bu kd dn t0 t1 t2 t3 t4 t5 lo tr ba xs)) ∧ ∀ i, i < N → h'.get i = h.get i := by
  obtain ⟨a, cap, rfl, -⟩ := hs.len
  have hrd := fun h' hk z f d ops r K m n => @EvV_ints _ _ h' _ _ hs z f d ops r K m n hk
  refine EvB_run (N := 80) Try.func57 rfl rfl ?_
  intro z hP hO hro hN hQ
  repeat' first | simp (maxSteps := 2000000) (disch := first | omega | (repeat first | assumption | exact Kept.refl _ | refine Kept.set' (by assumption) ?_ ?_ | refine Kept.set (by assumption) ?_ ?_ | omega)) only [go_sem, *, Try.results57, withinS, domCheckS, EvK_loop, errIf_eq] | (first | apply xg1 | apply xc1 | apply xg2 | apply xc2 | apply xc3 | apply xc4 | apply xg3 | apply xg4) <;> intro _ | (first | apply xh1 | apply xh2 | apply xh3 | apply xh4) <;> intro _ | refine EvK_draw (by cbv) (by first | rfl | cbv) ?_
  all_goals refine ⟨?_, fun i hi => by simp (disch := omega) only [heap_ne]⟩
  all_goals (try simp only [Bool.not_eq_false] at *)
  all_goals simp (maxSteps := 2000000) (disch := first | omega | (repeat first | assumption | exact Kept.refl _ | refine Kept.set' (by assumption) ?_ ?_ | refine Kept.set (by assumption) ?_ ?_ | omega)) only [go_sem, *, errIf, cfgOk, Bool.false_eq_true]
end Go.Proofs.Ytapcgfakefmemaa
